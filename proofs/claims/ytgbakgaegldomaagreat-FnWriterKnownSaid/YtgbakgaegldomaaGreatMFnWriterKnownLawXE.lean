/- Texts joined into one: the walks and laws that the last text leans on. Conditions: as each says. -/
import Derived.Test.YtgbakgaegldomaaGreatMFnWriterKnownLawQ
import Derived.Test.YtgbakgaegldomaaGreatMFnWriterKnownLawXD
import Derived.Test.YtgbakgaegldomaaGreatMFnWriterKnownLawN
import Derived.Test.YtgbakgaegldomaaGreatMFnWriterKnownLawXA

set_option linter.unusedVariables false
set_option linter.unusedSimpArgs false
/- Walk of the program's longest, which finds the longest word with which data begins. Conditions: the tree lies in memory, what is known is valid, the data are literals. -/
namespace Go.Proofs.YtgbakgaegldomaaGreat
open Go Go.RowKit
structure LgAt (k : KnD) (d : List UInt8) (n size : Nat) : Prop where
  lt : n < k.tree.ns.length
  pos : 1 ≤ size
  le : size ≤ d.length
  word : k.word (nodAt k.tree.ns n).cod = d.take size
def RelLg (k : KnD) (d : List UInt8) (w : World) (x s c : Value) (wr : World) : Prop := ∃ n size : Nat, x = .int .i64 n ∧ s = .int .i64 size ∧ LgAt k d n size ∧ w = wr
theorem LgAt.start {k : KnD} (hk : k.Ok) {d : List UInt8} (hd : d ≠ []) (hl : ∀ b ∈ d, b.toNat < k.c) : LgAt k d (d.getD 0 0).toNat 1 := by
  cases d with
  | nil => exact absurd rfl hd
  | cons b l =>
    have hb := hl b (List.mem_cons_self ..)
    have hT := hk.tree
    have hlo := hT.lo
    simp only [List.getD_cons_zero]
    refine ⟨by omega, Nat.le_refl _, by simp, ?_⟩
    rw [hT.lit _ hb]
    show wordP k.c k.ps (b.toNat : Int) = _
    rw [wordP_lit (by omega), ub_self]
    simp
theorem LgAt.step {k : KnD} (hk : k.Ok) {d : List UInt8} {n size j : Nat} (h : LgAt k d n size) (hs : size < d.length) (hj : findCh k.tree.ns n ((d[size]'hs).toNat : Int) k.tree.ns.length = j) : LgAt k d j (size + 1) := by
  have hT := hk.tree
  rcases findCh_cases k.tree.ns n ((d[size]'hs).toNat : Int) k.tree.ns.length with ⟨h1, _⟩ | ⟨i, h1, h2, h3, h4⟩
  · omega
  · have e : i = j := by omega
    subst e
    have hc : k.c ≤ i := by
      rcases Nat.lt_or_ge i k.c with hl | hl
      · rw [hT.lit i hl] at h3; simp only [] at h3; omega
      · exact hl
    have hw := hT.word i hc h1
    rw [h3, Int.toNat_natCast, h4, ub_self] at hw
    refine ⟨h1, by omega, hs, ?_⟩
    show wordP k.c k.ps (nodAt k.tree.ns i).cod = _
    rw [hw, List.take_succ_eq_append_getElem hs]
    have := h.word
    unfold KnD.word at this
    rw [this]
set_option maxRecDepth 100000 in
set_option maxHeartbeats 8000000 in
theorem longest_any (lo tb : Nat) (k : KnD) (vp vn vi : Value) (s : ByteArray) (w : World) (h : TreeAt lo tb k vp vn vi w) (hk : k.Ok) (hs : 0 < s.size) (hs2 : s.size ≤ 1073741824) (hl : ∀ b ∈ s.data.toList, b.toNat < k.c) :
    Calls Tryz.prog 44  #[.pointer (some ⟨tb, 0, none⟩), .string s] w (Same (.tuple #[.int .i64 (k.find (k.longest s.data.toList)), .int .i64 (k.longest s.data.toList).length]) w) := by
  have hkt := hk.tr
  have cC := fun n b hn => child_any lo tb k vp vn vi n b w h hkt hn
  have hsl := ba_len s
  have hd : s.data.toList ≠ [] := fun e => by rw [e] at hsl; simp at hsl; omega
  have hst := LgAt.start hk hd hl
  have hu0 := u8_bd s[0]
  have e0 : s.data.toList.getD 0 0 = s[0] := by
    rw [List.getD_eq_getElem?_getD, List.getElem?_eq_getElem (by omega)]; rfl
  rw [e0] at hst
  have HL := Lib.hid hl
  have hns : k.tree.ns.length ≤ 2000 := by have := hkt.tree.hi; have := hkt.len; have := hkt.c_bd; omega
  obtain ⟨X, hX⟩ : ∃ X, X = k.find (k.longest s.data.toList) := ⟨_, rfl⟩
  obtain ⟨Y, hY⟩ : ∃ Y : Int, Y = (k.longest s.data.toList).length := ⟨_, rfl⟩
  rw [← hX, ← hY]
  have HX := Lib.hid hX
  have HY := Lib.hid hY
  have hps : k.ps.length ≤ 100000 := by have := hkt.len; have := hkt.c_bd; omega
  clear e0 hd hl hX hY
  go_enter Tryz.func44, Tryz.ntmps44
  go_wp2
  go_loopw [6, 7, 8] (fun x z c wr => RelLg k s.data.toList w x z c wr) (fun _ z _ _ => s.size - (intOf z).toNat)
  case atStart => exact ⟨s[0].toNat, 1, rfl, rfl, hst, rfl⟩
  case round =>
    obtain ⟨n, size, rfl, rfl, hA, rfl⟩ := hrel
    have HA := Lib.hid hA
    obtain ⟨h1, h2, h3, -⟩ := hA
    rw [hsl] at h3
    clear hst
    by_cases hlt : size < s.size
    · have hb := u8_bd s[size]
      have eb : s[size] = s.data.toList[size]'(by rw [hsl]; exact hlt) := rfl
      have cCb := cC n (s[size].toNat : Int) h1
      by_cases hf : findCh k.tree.ns n (s[size].toNat : Int) k.tree.ns.length < 0
      · skip
        obtain ⟨c0, c1, c2, c3, c4, c5, c6, c7⟩ := h.cells
        have hfr := box_free h.box
        have htb := h.lt
        obtain ⟨g, cap, nx, rfl, hg1, hg2, hg3, hg4, hg5, d0, d1, d2, d3, d4, d5⟩ := h.node1 hkt h1
        obtain ⟨ap, cp, rfl⟩ := h.shape
        unfold maxLen at hg2
        have cG := fun w => growI_any k.set k.base k.last ap k.ps.length cp w hk.set (by omega)
        have cX := fun w => nextI_any k.set k.base k.last ap k.ps.length cp w hk.set (by omega)
        rw [growN_eq] at cG
        have cN := fun w hT hl => nodeOf_any lo tb k (.slice ap k.ps.length cp) (.slice (some ⟨g, 0, none⟩) k.tree.ns.length cap) vi k.last w hT hkt hl
        have H := Lib.hid h
        have en : Hid (((clr k.set : Int) + 2 + k.ps.length) = (k.next : Nat)) := by unfold Hid KnD.next KnD.c; omega
        simp only [knV] at cG cX
        clear h
        have hm1 : findCh k.tree.ns n (s[size].toNat : Int) k.tree.ns.length = -1 := by have := findCh_bd k.tree.ns n (s[size].toNat : Int) k.tree.ns.length; omega
        have hgs : s.data.toList[size]? = some s[size] := by rw [List.getElem?_eq_getElem (by rw [hsl]; exact hlt)]; rfl
        have hres := KnD.deep_longest hk HL.out h1 h2 (by rw [hsl]; omega) HA.out.word (.inr ⟨s[size], hgs, hm1⟩)
        rw [hm1] at cCb
        clear hf hm1 eb cC
        have hcf := (hkt.tree.bytes n h1).2.2
        by_cases hg : k.grow = true
        · rw [hg] at cG
          by_cases hno : n = nodeOf k.c k.tree k.last
          · by_cases hfi : (s[size].toNat : Int) = (nodAt k.tree.ns n).fir
            · rw [if_pos ⟨_, hgs, hg, hno, hfi⟩] at hres
              have hx := HX.out.trans hres.1
              have hy := HY.out.trans (congrArg Int.ofNat hres.2)
              rw [← hno] at cN
              rw [← hfi] at d4
              clear hres hgs hfi hno HX HY
              go_wp2_with (first | (go_at_call 96; (with_reducible refine cCb.mono ?_); rintro e w' ⟨rfl, rfl⟩) | fail)
              refine wp_region_up 36 (by kernel_rfl) (by kernel_rfl) ?_
              simp only [List.take, List.drop]
              repeat (refine wpUp_step (fun K hK => ?_); go_simp; (try simp only [↓IntWalk.iteOmega]); first
                | (refine hK _ _ ?_; clear hK K)
                | (apply stepU_c
                   · intro wq hwq; (have hbq := bcell hwq; (repeat (first | refine fills_no (by rfl) ?_ | refine fills_yes (by rfl) (fun vq hvq => ?_))); simp only [List.filter_nil, fills]; unfold upAt; go_simp; (try go_bits); (try simp only [↓IntWalk.iteOmega]); (try (rw [dif_pos (by omega)]; go_simp; try go_bits)); first | exact upOut_value | (apply upOut_call; (go_at_call 97; exact cG _)) | (apply upOut_eq; (go_at_call 97; exact cG _)) | (apply upOut_call; (go_at_call 98; exact cN _ (H.out.up hwq) (hk.lastOk hg))) | (apply upOut_eq; (go_at_call 98; exact cN _ (H.out.up hwq) (hk.lastOk hg))))
                   go_simp; refine hK _ _ ?_; clear hK K))
              refine wpUp_nil (fun wq hwq => ?_)
              simp only [fills]
              have BQ := bcell hwq
              go_wp2_with (first | (go_at_call 99; (with_reducible refine (cX _).mono ?_); rintro e w9 ⟨rfl, U9⟩; have B9 := bcell U9; have Z9 := U9.size; (try simp at Z9); (try rw [Nat.add_one_le_iff] at Z9)) | fail)
              go_ret2
              refine ⟨?_, by (repeat (first | with_reducible exact Up.refl _ | with_reducible assumption | with_reducible refine Up.set ?_ (by first | exact Nat.le_refl _ | (simp only []; omega) | (simp; omega)) _ | with_reducible refine Up.alloc ?_ _ | with_reducible refine Up.drew ?_ | refine Up.trans ?_ (by with_reducible assumption)))⟩
              rw [hx, hy]
              rw [en.out]; rfl
            · rw [if_neg (fun ⟨b, hb1, _, _, hb2⟩ => hfi (by rw [hgs] at hb1; cases hb1; exact hb2))] at hres
              have hx := HX.out.trans hres.1
              have hy := HY.out.trans (congrArg Int.ofNat hres.2)
              rw [← hno] at cN
              clear hres hgs hno HX HY
              go_wp2_with (first | (go_at_call 96; (with_reducible refine cCb.mono ?_); rintro e w' ⟨rfl, rfl⟩) | fail)
              refine wp_region_up 36 (by kernel_rfl) (by kernel_rfl) ?_
              simp only [List.take, List.drop]
              repeat (refine wpUp_step (fun K hK => ?_); go_simp; (try simp only [↓IntWalk.iteOmega]); first
                | (refine hK _ _ ?_; clear hK K)
                | (apply stepU_c
                   · intro wq hwq; (have hbq := bcell hwq; (repeat (first | refine fills_no (by rfl) ?_ | refine fills_yes (by rfl) (fun vq hvq => ?_))); simp only [List.filter_nil, fills]; unfold upAt; go_simp; (try go_bits); (try simp only [↓IntWalk.iteOmega]); (try (rw [dif_pos (by omega)]; go_simp; try go_bits)); first | exact upOut_value | (apply upOut_call; (go_at_call 97; exact cG _)) | (apply upOut_eq; (go_at_call 97; exact cG _)) | (apply upOut_call; (go_at_call 98; exact cN _ (H.out.up hwq) (hk.lastOk hg))) | (apply upOut_eq; (go_at_call 98; exact cN _ (H.out.up hwq) (hk.lastOk hg))))
                   go_simp; refine hK _ _ ?_; clear hK K))
              refine wpUp_nil (fun wq hwq => ?_)
              simp only [fills]
              have BQ := bcell hwq
              go_wp2
              go_ret2
              refine ⟨?_, by (repeat (first | with_reducible exact Up.refl _ | with_reducible assumption | with_reducible refine Up.set ?_ (by first | exact Nat.le_refl _ | (simp only []; omega) | (simp; omega)) _ | with_reducible refine Up.alloc ?_ _ | with_reducible refine Up.drew ?_ | refine Up.trans ?_ (by with_reducible assumption)))⟩
              rw [hx, hy]
              rfl
          · rw [if_neg (fun ⟨b, _, _, hb1, _⟩ => hno hb1)] at hres
            have hx := HX.out.trans hres.1
            have hy := HY.out.trans (congrArg Int.ofNat hres.2)
            have hno2 : ¬ ((n : Nat) : Int) = ((nodeOf k.c k.tree k.last : Nat) : Int) := by omega
            clear hres hgs HX HY
            go_wp2_with (first | (go_at_call 96; (with_reducible refine cCb.mono ?_); rintro e w' ⟨rfl, rfl⟩) | fail)
            refine wp_region_up 36 (by kernel_rfl) (by kernel_rfl) ?_
            simp only [List.take, List.drop]
            repeat (refine wpUp_step (fun K hK => ?_); go_simp; (try simp only [↓IntWalk.iteOmega]); first
              | (refine hK _ _ ?_; clear hK K)
              | (apply stepU_c
                 · intro wq hwq; (have hbq := bcell hwq; (repeat (first | refine fills_no (by rfl) ?_ | refine fills_yes (by rfl) (fun vq hvq => ?_))); simp only [List.filter_nil, fills]; unfold upAt; go_simp; (try go_bits); (try simp only [↓IntWalk.iteOmega]); (try (rw [dif_pos (by omega)]; go_simp; try go_bits)); first | exact upOut_value | (apply upOut_call; (go_at_call 97; exact cG _)) | (apply upOut_eq; (go_at_call 97; exact cG _)) | (apply upOut_call; (go_at_call 98; exact cN _ (H.out.up hwq) (hk.lastOk hg))) | (apply upOut_eq; (go_at_call 98; exact cN _ (H.out.up hwq) (hk.lastOk hg))))
                 go_simp; refine hK _ _ ?_; clear hK K))
            refine wpUp_nil (fun wq hwq => ?_)
            simp only [fills]
            have BQ := bcell hwq
            go_wp2
            go_ret2
            refine ⟨?_, by (repeat (first | with_reducible exact Up.refl _ | with_reducible assumption | with_reducible refine Up.set ?_ (by first | exact Nat.le_refl _ | (simp only []; omega) | (simp; omega)) _ | with_reducible refine Up.alloc ?_ _ | with_reducible refine Up.drew ?_ | refine Up.trans ?_ (by with_reducible assumption)))⟩
            rw [hx, hy]
            rfl
        · rw [if_neg (fun ⟨b, _, hb1, _⟩ => hg hb1)] at hres
          have hx := HX.out.trans hres.1
          have hy := HY.out.trans (congrArg Int.ofNat hres.2)
          have hg2' : k.grow = false := by simpa using hg
          rw [hg2'] at cG
          clear hres hgs HX HY hg
          go_wp2_with (first | (go_at_call 96; (with_reducible refine cCb.mono ?_); rintro e w' ⟨rfl, rfl⟩) | fail)
          refine wp_region_up 36 (by kernel_rfl) (by kernel_rfl) ?_
          simp only [List.take, List.drop]
          repeat (refine wpUp_step (fun K hK => ?_); go_simp; (try simp only [↓IntWalk.iteOmega]); first
            | (refine hK _ _ ?_; clear hK K)
            | (apply stepU_c
               · intro wq hwq; (have hbq := bcell hwq; (repeat (first | refine fills_no (by rfl) ?_ | refine fills_yes (by rfl) (fun vq hvq => ?_))); simp only [List.filter_nil, fills]; unfold upAt; go_simp; (try go_bits); (try simp only [↓IntWalk.iteOmega]); (try (rw [dif_pos (by omega)]; go_simp; try go_bits)); first | exact upOut_value | (apply upOut_call; (go_at_call 97; exact cG _)) | (apply upOut_eq; (go_at_call 97; exact cG _)))
               go_simp; refine hK _ _ ?_; clear hK K))
          refine wpUp_nil (fun wq hwq => ?_)
          simp only [fills]
          have BQ := bcell hwq
          go_wp2
          go_ret2
          refine ⟨?_, by (repeat (first | with_reducible exact Up.refl _ | with_reducible assumption | with_reducible refine Up.set ?_ (by first | exact Nat.le_refl _ | (simp only []; omega) | (simp; omega)) _ | with_reducible refine Up.alloc ?_ _ | with_reducible refine Up.drew ?_ | refine Up.trans ?_ (by with_reducible assumption)))⟩
          rw [hx, hy]
          rfl
      · obtain ⟨j, hj⟩ : ∃ j : Nat, findCh k.tree.ns n (s[size].toNat : Int) k.tree.ns.length = j := ⟨(findCh k.tree.ns n (s[size].toNat : Int) k.tree.ns.length).toNat, by omega⟩
        have HS := Lib.hid (HA.out.step hk (by rw [hsl]; exact hlt) (by rw [← eb]; exact hj))
        rw [hj] at cCb
        clear hf hj eb
        go_wp2_with (go_at_call 96; (with_reducible refine cCb.mono ?_); rintro e w' ⟨rfl, rfl⟩)
        go_roundw
        case rel => exact ⟨j, size + 1, rfl, by go_num, HS.out, rfl⟩
        case measure => simp [intOf]; omega
    · skip
      obtain ⟨c0, c1, c2, c3, c4, c5, c6, c7⟩ := h.cells
      have hfr := box_free h.box
      have htb := h.lt
      obtain ⟨g, cap, nx, rfl, hg1, hg2, hg3, hg4, hg5, d0, d1, d2, d3, d4, d5⟩ := h.node1 hkt h1
      obtain ⟨ap, cp, rfl⟩ := h.shape
      unfold maxLen at hg2
      have cG := fun w => growI_any k.set k.base k.last ap k.ps.length cp w hk.set (by omega)
      have cX := fun w => nextI_any k.set k.base k.last ap k.ps.length cp w hk.set (by omega)
      rw [growN_eq] at cG
      have cN := fun w hT hl => nodeOf_any lo tb k (.slice ap k.ps.length cp) (.slice (some ⟨g, 0, none⟩) k.tree.ns.length cap) vi k.last w hT hkt hl
      have H := Lib.hid h
      have en : Hid (((clr k.set : Int) + 2 + k.ps.length) = (k.next : Nat)) := by unfold Hid KnD.next KnD.c; omega
      simp only [knV] at cG cX
      clear h
      have hse : size = s.size := by omega
      have hres := KnD.deep_longest hk HL.out h1 h2 (by rw [hsl]; omega) HA.out.word (.inl (by rw [hsl]; exact hse))
      rw [if_neg (fun ⟨b, hb1, _⟩ => by have := (List.getElem?_eq_some_iff.1 hb1).1; omega)] at hres
      have hx := HX.out.trans hres.1
      have hy := HY.out.trans (congrArg Int.ofNat hres.2)
      subst hse
      clear hres cC HX HY
      go_wp2
      refine wp_region_up 36 (by kernel_rfl) (by kernel_rfl) ?_
      simp only [List.take, List.drop]
      repeat (refine wpUp_step (fun K hK => ?_); go_simp; (try simp only [↓IntWalk.iteOmega]); first
        | (refine hK _ _ ?_; clear hK K)
        | (apply stepU_c
           · intro wq hwq; (have hbq := bcell hwq; (repeat (first | refine fills_no (by rfl) ?_ | refine fills_yes (by rfl) (fun vq hvq => ?_))); simp only [List.filter_nil, fills]; unfold upAt; go_simp; (try go_bits); (try simp only [↓IntWalk.iteOmega]); (try (rw [dif_pos (by omega)]; go_simp; try go_bits)); first | exact upOut_value)
           go_simp; refine hK _ _ ?_; clear hK K))
      refine wpUp_nil (fun wq hwq => ?_)
      simp only [fills]
      have BQ := bcell hwq
      go_wp2
      go_ret2
      refine ⟨?_, by (repeat (first | with_reducible exact Up.refl _ | with_reducible assumption | with_reducible refine Up.set ?_ (by first | exact Nat.le_refl _ | (simp only []; omega) | (simp; omega)) _ | with_reducible refine Up.alloc ?_ _ | with_reducible refine Up.drew ?_ | refine Up.trans ?_ (by with_reducible assumption)))⟩
      rw [hx, hy]
      rfl
end Go.Proofs.YtgbakgaegldomaaGreat

/- Walk of the program's greedy. Conditions: what is known is valid and can be read; the data fits. -/
namespace Go.Proofs.YtgbakgaegldomaaGreat
open Go Go.RowKit
theorem TreeAt.base {lo lo' tb : Nat} {k : KnD} {vp vn vi : Value} {w : World} (h : TreeAt lo tb k vp vn vi w) (hl : lo' ≤ lo) : TreeAt lo' tb k vp vn vi w := ⟨h.box, Nat.le_trans hl h.low, ownsRow_base h.prs hl, ownsRow_base h.nod hl, ownsRow_base h.idx hl⟩
structure GiW (w : World) (tb : Nat) (k : KnD) (vp vn vi vc : Value) (acc : List Int) (wr : World) : Prop where
  tree : TreeAt w.heap.size tb k vp vn vi wr
  own : ownI wr w.heap.size vc acc
  sep : ∀ b, vc.ownBlock = some b → ¬ Own tb vp vn vi b
  up : Up w wr
theorem GiW.upd {w : World} {tb : Nat} {k : KnD} {vp vn vi vc : Value} {acc : List Int} {wr w' : World} (h : GiW w tb k vp vn vi vc acc wr) (hu : Up wr w') : GiW w tb k vp vn vi vc acc w' := ⟨h.tree.up hu, ownsRow_up h.own hu, h.sep, h.up.trans hu⟩
theorem GiW.tr {w : World} {tb : Nat} {k k' : KnD} {vp vn vi vc : Value} {acc : List Int} {wr w' : World} (h : GiW w tb k vp vn vi vc acc wr) (hp : TrPost w.heap.size tb k' vp vn vi wr w') : ∃ vp' vn' vi', GiW w tb k' vp' vn' vi' vc acc w' := by
  obtain ⟨vp', vn', vi', hT, hF, hO⟩ := hp
  refine ⟨vp', vn', vi', hT, hF.row h.own h.sep, ?_, Fr.upto h.up hF (fun b hb => (h.tree.own_lo b hb).1)⟩
  intro b hb ho
  rcases hO b ho with h1 | h1
  · exact h.sep b hb h1
  · have := (h.own.lt b hb).2; omega
theorem GiW.app {w : World} {tb : Nat} {k : KnD} {vp vn vi vc : Value} {acc : List Int} {wr w' : World} (h : GiW w tb k vp vn vi vc acc wr) {o : Obj} {x : Int} {v' : Value} (hv : w'.ownsRow w.heap.size 3 1 v' (acc.length + 1) (cellsI acc ++ [.int .i64 x])) (hg : (wr.alloc o).grownBy w' vc.ownBlock) (hn : NewOr (wr.alloc o).heap.size vc v') : GiW w tb k vp vn vi v' (acc ++ [x]) w' := by
  have hA := h.upd (Up.alloc (Up.refl wr) o)
  have hFr : Fr (fun b => vc.ownBlock = some b) (wr.alloc o) w' := (Fr.refl _ _).gr hg (fun b hb => .inl hb)
  refine ⟨hA.tree.fr hFr (fun b hb e => hA.sep b e hb), ?_, ?_, hA.up.grown hg (fun b hb => (hA.own.lt b hb).1)⟩
  · rw [← cellsI_snoc] at hv
    exact ownsRow_n hv (by simp)
  · intro b hb ho
    rcases hn b hb with h1 | h1
    · exact hA.sep b h1 ho
    · have := (hA.tree.own_lo b ho).2; omega
structure GiD (T : List Int) (k0 : KnD) (m : Nat) (k : KnD) (d : List UInt8) (acc : List Int) : Prop where
  len : d.length ≤ m
  le : d.length ≤ 2000
  sum : acc.length + 2 * d.length ≤ 4001
  tot : acc ++ (if k.full = true ∧ d ≠ [] then (k.c : Int) :: greedyN m k.cleared d else greedyN m k d) = T
  ok : k.Ok
  set : k.set = k0.set
  lit : ∀ b ∈ d, b.toNat < k0.c
structure GiE (T : List Int) (k0 : KnD) (m : Nat) (k : KnD) (d : List UInt8) (acc : List Int) : Prop where
  len : d.length ≤ m
  le : d.length ≤ 2000
  sum : acc.length + 2 * d.length ≤ 4002
  tot : acc ++ greedyN m k d = T
  ok : k.Ok
  set : k.set = k0.set
  lit : ∀ b ∈ d, b.toNat < k0.c
theorem c_of {k k0 : KnD} (h : k.set = k0.set) : k.c = k0.c := by unfold KnD.c; rw [h]
theorem GiD.nil {T : List Int} {k0 : KnD} {m : Nat} {k : KnD} {acc : List Int} (h : GiD T k0 m k [] acc) : acc ++ [(clr k0.set : Int) + 1] = T := by
  have h1 := h.tot
  rw [if_neg (fun h => h.2 rfl), greedyN_nil, c_of h.set] at h1
  exact h1
theorem GiD.full {T : List Int} {k0 : KnD} {m : Nat} {k : KnD} {d : List UInt8} {acc : List Int} (h : GiD T k0 m k d acc) (hd : d ≠ []) (hf : k.full = true) : GiE T k0 m k.cleared d (acc ++ [(clr k0.set : Int)]) := by
  have h1 := h.tot
  rw [if_pos ⟨hf, hd⟩, c_of h.set] at h1
  exact ⟨h.len, h.le, by have := h.sum; simp; omega, by rw [List.append_assoc]; exact h1, KnD.cleared_ok h.ok, h.set, h.lit⟩
theorem GiD.more {T : List Int} {k0 : KnD} {m : Nat} {k : KnD} {d : List UInt8} {acc : List Int} (h : GiD T k0 m k d acc) (hf : k.full = false) : GiE T k0 m k d acc := by
  have h1 := h.tot
  rw [if_neg (fun h => by rw [hf] at h; cases h.1)] at h1
  exact ⟨h.len, h.le, by have := h.sum; omega, h1, h.ok, h.set, h.lit⟩
theorem GiE.step {T : List Int} {k0 : KnD} {m : Nat} {k : KnD} {d : List UInt8} {acc : List Int} (h : GiE T k0 m k d acc) (hd : d ≠ []) :
    k.follows (k.find (k.longest d)) = true ∧ ¬ k.find (k.longest d) = (k.c : Int) ∧ 1 ≤ (k.longest d).length ∧ (k.longest d).length ≤ d.length ∧ GiD T k0 (m - 1) (k.after (k.find (k.longest d))) (d.drop (k.longest d).length) (acc ++ [k.find (k.longest d)]) := by
  have hll := KnD.longest_le (k := k) d
  have hlp := KnD.longest_pos (k := k) hd
  have hl : ∀ b ∈ d, b.toNat < k.c := by rw [c_of h.set]; exact h.lit
  obtain ⟨hfw, -⟩ := KnD.find_any h.ok hd hl
  have hpos : 0 < d.length := List.length_pos_iff.2 hd
  have h1 := h.len; have h2 := h.le; have h3 := h.sum; have h4 := h.tot
  obtain ⟨n, rfl⟩ : ∃ n, m = n + 1 := ⟨m - 1, by omega⟩
  refine ⟨hfw, (KnD.fol_ne h.ok hfw).1, hlp, hll, by rw [List.length_drop]; omega, by rw [List.length_drop]; omega, by rw [List.length_drop, List.length_append]; simp; omega, ?_, KnD.after_ok h.ok hfw, h.set, fun b hb => h.lit b (List.mem_of_mem_drop hb)⟩
  rw [greedyN, if_neg hd] at h4
  rw [← h4, List.append_assoc]
  rfl
theorem GiD.start {k : KnD} {d : List UInt8} (hk : k.Ok) (hd : d.length ≤ 2000) (hl : ∀ b ∈ d, b.toNat < k.c) : GiD (greedy k d) k d.length k.cleared d [(clr k.set : Int)] := by
  have hf : k.cleared.full = false := by
    unfold KnD.full KnD.cleared
    have h0 := hk.base0
    have : ¬ k.base < ((k.ps.take k.base.toNat).length : Int) := by rw [List.length_take]; omega
    rw [Bool.and_eq_false_iff]; right
    exact decide_eq_false this
  refine ⟨Nat.le_refl _, hd, by simp; omega, ?_, KnD.cleared_ok hk, rfl, hl⟩
  rw [if_neg (fun h => by rw [hf] at h; cases h.1)]
  rfl
end Go.Proofs.YtgbakgaegldomaaGreat

/- Walks of the program's learn, LearnKnown, StartWith. Conditions: what is known is valid and can be read. -/
namespace Go.Proofs.YtgbakgaegldomaaGreat
open Go Go.RowKit
structure LiD (T : KnD) (k0 : KnD) (L : List UInt8) (m : Nat) (k : KnD) (n : Nat) : Prop where
  len : L.length ≤ n + m
  le : n ≤ L.length
  tot : learnN m k (L.drop n) = T
  ok : k.Ok
  set : k.set = k0.set
structure LiW (w : World) (tb : Nat) (k : KnD) (vp vn vi : Value) (wr : World) : Prop where
  tree : TreeAt (w.heap.size + 2) tb k vp vn vi wr
  res : KnAt (w.heap.size + 1) ⟨⟨0, 0, 0⟩, [], 0, 0⟩ (.slice none 0 0) wr
  up : Up w wr
theorem LiW.upd {w : World} {tb : Nat} {k : KnD} {vp vn vi : Value} {wr w' : World} (h : LiW w tb k vp vn vi wr) (hu : Up wr w') : LiW w tb k vp vn vi w' := ⟨h.tree.up hu, h.res.up hu, h.up.trans hu⟩
theorem LiW.tr {w : World} {tb : Nat} {k k' : KnD} {vp vn vi : Value} {wr w' : World} (h : LiW w tb k vp vn vi wr) (hp : TrPost (w.heap.size + 2) tb k' vp vn vi wr w') : ∃ vp' vn' vi', LiW w tb k' vp' vn' vi' w' := by
  obtain ⟨vp', vn', vi', hT, hF, hO⟩ := hp
  exact ⟨vp', vn', vi', hT, hF.box h.res (fun ho => by have := (h.tree.own_lo _ ho).1; omega), Fr.upto h.up hF (fun b hb => by have := (h.tree.own_lo b hb).1; omega)⟩
theorem LiD.step {T k0 : KnD} {L : List UInt8} {m : Nat} {k : KnD} {n : Nat} (h : LiD T k0 L m k n) (hn : n < L.length) (hl : ∀ b ∈ L, b.toNat < k0.c) :
    k.follows (k.find (k.longest (L.drop n))) = true ∧ ¬ k.find (k.longest (L.drop n)) = (k.c : Int) ∧ 1 ≤ (k.longest (L.drop n)).length ∧ n + (k.longest (L.drop n)).length ≤ L.length ∧ LiD T k0 L (m - 1) (k.after (k.find (k.longest (L.drop n)))) (n + (k.longest (L.drop n)).length) := by
  have hde : L.drop n ≠ [] := fun e => by rw [List.drop_eq_nil_iff] at e; omega
  have hll := KnD.longest_le (k := k) (L.drop n)
  have hlp := KnD.longest_pos (k := k) hde
  have hl2 : ∀ b ∈ L.drop n, b.toNat < k.c := fun b hb => by rw [c_of h.set]; exact hl b (List.mem_of_mem_drop hb)
  obtain ⟨hfw, -⟩ := KnD.find_any h.ok hde hl2
  rw [List.length_drop] at hll
  have h1 := h.len; have h4 := h.tot
  obtain ⟨m', rfl⟩ : ∃ m', m = m' + 1 := ⟨m - 1, by omega⟩
  refine ⟨hfw, (KnD.fol_ne h.ok hfw).1, hlp, by omega, by omega, by omega, ?_, KnD.after_ok h.ok hfw, h.set⟩
  rw [learnN_step hde, List.drop_drop] at h4
  exact h4
end Go.Proofs.YtgbakgaegldomaaGreat


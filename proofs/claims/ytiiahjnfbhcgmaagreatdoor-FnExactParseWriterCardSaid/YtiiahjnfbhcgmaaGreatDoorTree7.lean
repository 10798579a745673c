/- Walk of the program's longest, which finds the longest word with which data begins. Conditions: the tree lies in memory, what is known is valid, the data are literals. -/
import Derived.Test.YtiiahjnfbhcgmaaGreatDoorTree4
namespace Go.Proofs.YtiiahjnfbhcgmaaGreatDoor
set_option linter.unusedVariables false
set_option linter.unusedSimpArgs false
open Go Go.RowKit

/-- Where the search stands. -/
structure LgAt (k : KnD) (d : List UInt8) (n size : Nat) : Prop where
  lt : n < k.tree.ns.length
  pos : 1 ≤ size
  le : size ≤ d.length
  word : k.word (nodAt k.tree.ns n).cod = d.take size
def RelLg (k : KnD) (d : List UInt8) (w : World) (x s c : Value) (wr : World) : Prop := ∃ n size : Nat, x = .int .i64 n ∧ s = .int .i64 size ∧ LgAt k d n size ∧ w = wr

theorem LgAt.start {k : KnD} (hk : k.Ok) {d : List UInt8} (hd : d ≠ []) (hl : ∀ b ∈ d, b.toNat < k.c) : LgAt k d (d.getD 0 0).toNat 1 := by
  cases d with
  | nil => exact absurd rfl hd
  | cons b l =>
    have hb := hl b (List.mem_cons_self ..)
    have hT := hk.tree
    have hlo := hT.lo
    simp only [List.getD_cons_zero]
    refine ⟨by omega, Nat.le_refl _, by simp, ?_⟩
    rw [hT.lit _ hb]
    show wordP k.c k.ps (b.toNat : Int) = _
    rw [wordP_lit (by omega), ub_self]
    simp
theorem LgAt.step {k : KnD} (hk : k.Ok) {d : List UInt8} {n size j : Nat} (h : LgAt k d n size) (hs : size < d.length) (hj : findCh k.tree.ns n ((d[size]'hs).toNat : Int) k.tree.ns.length = j) : LgAt k d j (size + 1) := by
  have hT := hk.tree
  rcases findCh_cases k.tree.ns n ((d[size]'hs).toNat : Int) k.tree.ns.length with ⟨h1, _⟩ | ⟨i, h1, h2, h3, h4⟩
  · omega
  · have e : i = j := by omega
    subst e
    have hc : k.c ≤ i := by
      rcases Nat.lt_or_ge i k.c with hl | hl
      · rw [hT.lit i hl] at h3; simp only [] at h3; omega
      · exact hl
    have hw := hT.word i hc h1
    rw [h3, Int.toNat_natCast, h4, ub_self] at hw
    refine ⟨h1, by omega, hs, ?_⟩
    show wordP k.c k.ps (nodAt k.tree.ns i).cod = _
    rw [hw, List.take_succ_eq_append_getElem hs]
    have := h.word
    unfold KnD.word at this
    rw [this]

set_option maxRecDepth 100000 in
set_option maxHeartbeats 8000000 in
theorem longest_any (lo tb : Nat) (k : KnD) (vp vn vi : Value) (s : ByteArray) (w : World) (h : TreeAt lo tb k vp vn vi w) (hk : k.Ok) (hs : 0 < s.size) (hs2 : s.size ≤ 1073741824) (hl : ∀ b ∈ s.data.toList, b.toNat < k.c) :
    Calls Tryz.prog 49  #[.pointer (some ⟨tb, 0, none⟩), .string s] w (Same (.tuple #[.int .i64 (k.find (k.longest s.data.toList)), .int .i64 (k.longest s.data.toList).length]) w) := by
  have hkt := hk.tr
  have cC := fun n b hn => child_any lo tb k vp vn vi n b w h hkt hn
  have hsl := ba_len s
  have hd : s.data.toList ≠ [] := fun e => by rw [e] at hsl; simp at hsl; omega
  have hst := LgAt.start hk hd hl
  have hu0 := u8_bd s[0]
  have e0 : s.data.toList.getD 0 0 = s[0] := by
    rw [List.getD_eq_getElem?_getD, List.getElem?_eq_getElem (by omega)]; rfl
  rw [e0] at hst
  have HL := Lib.hid hl
  have hns : k.tree.ns.length ≤ 2000 := by have := hkt.tree.hi; have := hkt.len; have := hkt.c_bd; omega
  obtain ⟨X, hX⟩ : ∃ X, X = k.find (k.longest s.data.toList) := ⟨_, rfl⟩
  obtain ⟨Y, hY⟩ : ∃ Y : Int, Y = (k.longest s.data.toList).length := ⟨_, rfl⟩
  rw [← hX, ← hY]
  have HX := Lib.hid hX
  have HY := Lib.hid hY
  have hps : k.ps.length ≤ 100000 := by have := hkt.len; have := hkt.c_bd; omega
  clear e0 hd hl hX hY
  go_enter Tryz.func49, Tryz.ntmps49
  go_wp2
  go_loopw [6, 7, 8] (fun x z c wr => RelLg k s.data.toList w x z c wr) (fun _ z _ _ => s.size - (intOf z).toNat)
  case atStart => exact ⟨s[0].toNat, 1, rfl, rfl, hst, rfl⟩
  case round =>
    obtain ⟨n, size, rfl, rfl, hA, rfl⟩ := hrel
    have HA := Lib.hid hA
    obtain ⟨h1, h2, h3, -⟩ := hA
    rw [hsl] at h3
    clear hst
    by_cases hlt : size < s.size
    · have hb := u8_bd s[size]
      have eb : s[size] = s.data.toList[size]'(by rw [hsl]; exact hlt) := rfl
      have cCb := cC n (s[size].toNat : Int) h1
      by_cases hf : findCh k.tree.ns n (s[size].toNat : Int) k.tree.ns.length < 0
      · skip
        obtain ⟨c0, c1, c2, c3, c4, c5, c6, c7⟩ := h.cells
        have hfr := box_free h.box
        have htb := h.lt
        obtain ⟨g, cap, nx, rfl, hg1, hg2, hg3, hg4, hg5, d0, d1, d2, d3, d4, d5⟩ := h.node1 hkt h1
        obtain ⟨ap, cp, rfl⟩ := h.shape
        unfold maxLen at hg2
        have cG := fun w => growI_any k.set k.base k.last ap k.ps.length cp w hk.set (by omega)
        have cX := fun w => nextI_any k.set k.base k.last ap k.ps.length cp w hk.set (by omega)
        rw [growN_eq] at cG
        have cN := fun w hT hl => nodeOf_any lo tb k (.slice ap k.ps.length cp) (.slice (some ⟨g, 0, none⟩) k.tree.ns.length cap) vi k.last w hT hkt hl
        have H := Lib.hid h
        have en : Hid (((clr k.set : Int) + 2 + k.ps.length) = (k.next : Nat)) := by unfold Hid KnD.next KnD.c; omega
        simp only [knV] at cG cX
        clear h
        have hm1 : findCh k.tree.ns n (s[size].toNat : Int) k.tree.ns.length = -1 := by have := findCh_bd k.tree.ns n (s[size].toNat : Int) k.tree.ns.length; omega
        have hgs : s.data.toList[size]? = some s[size] := by rw [List.getElem?_eq_getElem (by rw [hsl]; exact hlt)]; rfl
        have hres := KnD.deep_longest hk HL.out h1 h2 (by rw [hsl]; omega) HA.out.word (.inr ⟨s[size], hgs, hm1⟩)
        rw [hm1] at cCb
        clear hf hm1 eb cC
        have hcf := (hkt.tree.bytes n h1).2.2
        by_cases hg : k.grow = true
        · rw [hg] at cG
          by_cases hno : n = nodeOf k.c k.tree k.last
          · by_cases hfi : (s[size].toNat : Int) = (nodAt k.tree.ns n).fir
            · rw [if_pos ⟨_, hgs, hg, hno, hfi⟩] at hres
              have hx := HX.out.trans hres.1
              have hy := HY.out.trans (congrArg Int.ofNat hres.2)
              rw [← hno] at cN
              rw [← hfi] at d4
              clear hres hgs hfi hno HX HY
              go_wp2_with (first | (go_at_call 114; (with_reducible refine cCb.mono ?_); rintro e w' ⟨rfl, rfl⟩) | fail)
              refine wp_region_up 36 (by kernel_rfl) (by kernel_rfl) ?_
              simp only [List.take, List.drop]
              repeat (refine wpUp_step (fun K hK => ?_); go_simp; (try simp only [↓IntWalk.iteOmega]); first
                | (refine hK _ _ ?_; clear hK K)
                | (apply stepU_c
                   · intro wq hwq; (have hbq := bcell hwq; (repeat (first | refine fills_no (by rfl) ?_ | refine fills_yes (by rfl) (fun vq hvq => ?_))); simp only [List.filter_nil, fills]; unfold upAt; go_simp; (try go_bits); (try simp only [↓IntWalk.iteOmega]); (try (rw [dif_pos (by omega)]; go_simp; try go_bits)); first | exact upOut_value | (apply upOut_call; (go_at_call 115; exact cG _)) | (apply upOut_eq; (go_at_call 115; exact cG _)) | (apply upOut_call; (go_at_call 116; exact cN _ (H.out.up hwq) (hk.lastOk hg))) | (apply upOut_eq; (go_at_call 116; exact cN _ (H.out.up hwq) (hk.lastOk hg))))
                   go_simp; refine hK _ _ ?_; clear hK K))
              refine wpUp_nil (fun wq hwq => ?_)
              simp only [fills]
              have BQ := bcell hwq
              go_wp2_with (first | (go_at_call 117; (with_reducible refine (cX _).mono ?_); rintro e w9 ⟨rfl, U9⟩; have B9 := bcell U9; have Z9 := U9.size; (try simp at Z9); (try rw [Nat.add_one_le_iff] at Z9)) | fail)
              go_ret2
              refine ⟨?_, by (repeat (first | with_reducible exact Up.refl _ | with_reducible assumption | with_reducible refine Up.set ?_ (by first | exact Nat.le_refl _ | (simp only []; omega) | (simp; omega)) _ | with_reducible refine Up.alloc ?_ _ | with_reducible refine Up.drew ?_ | refine Up.trans ?_ (by with_reducible assumption)))⟩
              rw [hx, hy]
              rw [en.out]; rfl
            · rw [if_neg (fun ⟨b, hb1, _, _, hb2⟩ => hfi (by rw [hgs] at hb1; cases hb1; exact hb2))] at hres
              have hx := HX.out.trans hres.1
              have hy := HY.out.trans (congrArg Int.ofNat hres.2)
              rw [← hno] at cN
              clear hres hgs hno HX HY
              go_wp2_with (first | (go_at_call 114; (with_reducible refine cCb.mono ?_); rintro e w' ⟨rfl, rfl⟩) | fail)
              refine wp_region_up 36 (by kernel_rfl) (by kernel_rfl) ?_
              simp only [List.take, List.drop]
              repeat (refine wpUp_step (fun K hK => ?_); go_simp; (try simp only [↓IntWalk.iteOmega]); first
                | (refine hK _ _ ?_; clear hK K)
                | (apply stepU_c
                   · intro wq hwq; (have hbq := bcell hwq; (repeat (first | refine fills_no (by rfl) ?_ | refine fills_yes (by rfl) (fun vq hvq => ?_))); simp only [List.filter_nil, fills]; unfold upAt; go_simp; (try go_bits); (try simp only [↓IntWalk.iteOmega]); (try (rw [dif_pos (by omega)]; go_simp; try go_bits)); first | exact upOut_value | (apply upOut_call; (go_at_call 115; exact cG _)) | (apply upOut_eq; (go_at_call 115; exact cG _)) | (apply upOut_call; (go_at_call 116; exact cN _ (H.out.up hwq) (hk.lastOk hg))) | (apply upOut_eq; (go_at_call 116; exact cN _ (H.out.up hwq) (hk.lastOk hg))))
                   go_simp; refine hK _ _ ?_; clear hK K))
              refine wpUp_nil (fun wq hwq => ?_)
              simp only [fills]
              have BQ := bcell hwq
              go_wp2
              go_ret2
              refine ⟨?_, by (repeat (first | with_reducible exact Up.refl _ | with_reducible assumption | with_reducible refine Up.set ?_ (by first | exact Nat.le_refl _ | (simp only []; omega) | (simp; omega)) _ | with_reducible refine Up.alloc ?_ _ | with_reducible refine Up.drew ?_ | refine Up.trans ?_ (by with_reducible assumption)))⟩
              rw [hx, hy]
              rfl
          · rw [if_neg (fun ⟨b, _, _, hb1, _⟩ => hno hb1)] at hres
            have hx := HX.out.trans hres.1
            have hy := HY.out.trans (congrArg Int.ofNat hres.2)
            have hno2 : ¬ ((n : Nat) : Int) = ((nodeOf k.c k.tree k.last : Nat) : Int) := by omega
            clear hres hgs HX HY
            go_wp2_with (first | (go_at_call 114; (with_reducible refine cCb.mono ?_); rintro e w' ⟨rfl, rfl⟩) | fail)
            refine wp_region_up 36 (by kernel_rfl) (by kernel_rfl) ?_
            simp only [List.take, List.drop]
            repeat (refine wpUp_step (fun K hK => ?_); go_simp; (try simp only [↓IntWalk.iteOmega]); first
              | (refine hK _ _ ?_; clear hK K)
              | (apply stepU_c
                 · intro wq hwq; (have hbq := bcell hwq; (repeat (first | refine fills_no (by rfl) ?_ | refine fills_yes (by rfl) (fun vq hvq => ?_))); simp only [List.filter_nil, fills]; unfold upAt; go_simp; (try go_bits); (try simp only [↓IntWalk.iteOmega]); (try (rw [dif_pos (by omega)]; go_simp; try go_bits)); first | exact upOut_value | (apply upOut_call; (go_at_call 115; exact cG _)) | (apply upOut_eq; (go_at_call 115; exact cG _)) | (apply upOut_call; (go_at_call 116; exact cN _ (H.out.up hwq) (hk.lastOk hg))) | (apply upOut_eq; (go_at_call 116; exact cN _ (H.out.up hwq) (hk.lastOk hg))))
                 go_simp; refine hK _ _ ?_; clear hK K))
            refine wpUp_nil (fun wq hwq => ?_)
            simp only [fills]
            have BQ := bcell hwq
            go_wp2
            go_ret2
            refine ⟨?_, by (repeat (first | with_reducible exact Up.refl _ | with_reducible assumption | with_reducible refine Up.set ?_ (by first | exact Nat.le_refl _ | (simp only []; omega) | (simp; omega)) _ | with_reducible refine Up.alloc ?_ _ | with_reducible refine Up.drew ?_ | refine Up.trans ?_ (by with_reducible assumption)))⟩
            rw [hx, hy]
            rfl
        · rw [if_neg (fun ⟨b, _, hb1, _⟩ => hg hb1)] at hres
          have hx := HX.out.trans hres.1
          have hy := HY.out.trans (congrArg Int.ofNat hres.2)
          have hg2' : k.grow = false := by simpa using hg
          rw [hg2'] at cG
          clear hres hgs HX HY hg
          go_wp2_with (first | (go_at_call 114; (with_reducible refine cCb.mono ?_); rintro e w' ⟨rfl, rfl⟩) | fail)
          refine wp_region_up 36 (by kernel_rfl) (by kernel_rfl) ?_
          simp only [List.take, List.drop]
          repeat (refine wpUp_step (fun K hK => ?_); go_simp; (try simp only [↓IntWalk.iteOmega]); first
            | (refine hK _ _ ?_; clear hK K)
            | (apply stepU_c
               · intro wq hwq; (have hbq := bcell hwq; (repeat (first | refine fills_no (by rfl) ?_ | refine fills_yes (by rfl) (fun vq hvq => ?_))); simp only [List.filter_nil, fills]; unfold upAt; go_simp; (try go_bits); (try simp only [↓IntWalk.iteOmega]); (try (rw [dif_pos (by omega)]; go_simp; try go_bits)); first | exact upOut_value | (apply upOut_call; (go_at_call 115; exact cG _)) | (apply upOut_eq; (go_at_call 115; exact cG _)))
               go_simp; refine hK _ _ ?_; clear hK K))
          refine wpUp_nil (fun wq hwq => ?_)
          simp only [fills]
          have BQ := bcell hwq
          go_wp2
          go_ret2
          refine ⟨?_, by (repeat (first | with_reducible exact Up.refl _ | with_reducible assumption | with_reducible refine Up.set ?_ (by first | exact Nat.le_refl _ | (simp only []; omega) | (simp; omega)) _ | with_reducible refine Up.alloc ?_ _ | with_reducible refine Up.drew ?_ | refine Up.trans ?_ (by with_reducible assumption)))⟩
          rw [hx, hy]
          rfl
      · obtain ⟨j, hj⟩ : ∃ j : Nat, findCh k.tree.ns n (s[size].toNat : Int) k.tree.ns.length = j := ⟨(findCh k.tree.ns n (s[size].toNat : Int) k.tree.ns.length).toNat, by omega⟩
        have HS := Lib.hid (HA.out.step hk (by rw [hsl]; exact hlt) (by rw [← eb]; exact hj))
        rw [hj] at cCb
        clear hf hj eb
        go_wp2_with (go_at_call 114; (with_reducible refine cCb.mono ?_); rintro e w' ⟨rfl, rfl⟩)
        go_roundw
        case rel => exact ⟨j, size + 1, rfl, by go_num, HS.out, rfl⟩
        case measure => simp [intOf]; omega
    · skip
      obtain ⟨c0, c1, c2, c3, c4, c5, c6, c7⟩ := h.cells
      have hfr := box_free h.box
      have htb := h.lt
      obtain ⟨g, cap, nx, rfl, hg1, hg2, hg3, hg4, hg5, d0, d1, d2, d3, d4, d5⟩ := h.node1 hkt h1
      obtain ⟨ap, cp, rfl⟩ := h.shape
      unfold maxLen at hg2
      have cG := fun w => growI_any k.set k.base k.last ap k.ps.length cp w hk.set (by omega)
      have cX := fun w => nextI_any k.set k.base k.last ap k.ps.length cp w hk.set (by omega)
      rw [growN_eq] at cG
      have cN := fun w hT hl => nodeOf_any lo tb k (.slice ap k.ps.length cp) (.slice (some ⟨g, 0, none⟩) k.tree.ns.length cap) vi k.last w hT hkt hl
      have H := Lib.hid h
      have en : Hid (((clr k.set : Int) + 2 + k.ps.length) = (k.next : Nat)) := by unfold Hid KnD.next KnD.c; omega
      simp only [knV] at cG cX
      clear h
      have hse : size = s.size := by omega
      have hres := KnD.deep_longest hk HL.out h1 h2 (by rw [hsl]; omega) HA.out.word (.inl (by rw [hsl]; exact hse))
      rw [if_neg (fun ⟨b, hb1, _⟩ => by have := (List.getElem?_eq_some_iff.1 hb1).1; omega)] at hres
      have hx := HX.out.trans hres.1
      have hy := HY.out.trans (congrArg Int.ofNat hres.2)
      subst hse
      clear hres cC HX HY
      go_wp2
      refine wp_region_up 36 (by kernel_rfl) (by kernel_rfl) ?_
      simp only [List.take, List.drop]
      repeat (refine wpUp_step (fun K hK => ?_); go_simp; (try simp only [↓IntWalk.iteOmega]); first
        | (refine hK _ _ ?_; clear hK K)
        | (apply stepU_c
           · intro wq hwq; (have hbq := bcell hwq; (repeat (first | refine fills_no (by rfl) ?_ | refine fills_yes (by rfl) (fun vq hvq => ?_))); simp only [List.filter_nil, fills]; unfold upAt; go_simp; (try go_bits); (try simp only [↓IntWalk.iteOmega]); (try (rw [dif_pos (by omega)]; go_simp; try go_bits)); first | exact upOut_value)
           go_simp; refine hK _ _ ?_; clear hK K))
      refine wpUp_nil (fun wq hwq => ?_)
      simp only [fills]
      have BQ := bcell hwq
      go_wp2
      go_ret2
      refine ⟨?_, by (repeat (first | with_reducible exact Up.refl _ | with_reducible assumption | with_reducible refine Up.set ?_ (by first | exact Nat.le_refl _ | (simp only []; omega) | (simp; omega)) _ | with_reducible refine Up.alloc ?_ _ | with_reducible refine Up.drew ?_ | refine Up.trans ?_ (by with_reducible assumption)))⟩
      rw [hx, hy]
      rfl

end Go.Proofs.YtiiahjnfbhcgmaaGreatDoor

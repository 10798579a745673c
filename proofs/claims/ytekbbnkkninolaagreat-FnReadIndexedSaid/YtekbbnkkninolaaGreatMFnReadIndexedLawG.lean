/- Texts joined into one: the walks and laws that the last text leans on. Conditions: as each says. -/
import Derived.Test.YtekbbnkkninolaaGreatMFnReadIndexedLawE
import Derived.Test.YtekbbnkkninolaaGreatMFnReadIndexedLawC
import Derived.Test.YtekbbnkkninolaaGreatRc2
import Derived.Test.YtekbbnkkninolaaGreatBa
import Derived.Test.YtekbbnkkninolaaGreatMFnReadIndexedLawF
import Derived.Test.YtekbbnkkninolaaGreatRt

/- Walks of the program's unpack, Decompress, DecompressWith, blockData, BlockData. Conditions: what is known is valid and can be read; strings are no longer than 2^30 bytes. -/
namespace Go.Proofs.YtekbbnkkninolaaGreat
set_option linter.unusedVariables false
set_option linter.unusedSimpArgs false
open Go Go.RowKit

/-- What unpack reads, and how many bytes it uses. -/
def upkR (k : KnD) (s : List UInt8) : RdR := if s.length ≤ 4000 then readS k s else ⟨⟨⟨0, 0, 0⟩, [], 0, 0⟩, [], [], 4, 0⟩
def upkU (k : KnD) (s : List UInt8) : Nat := if s.length ≤ 4000 then usedS s (readS k s) else 0
def UpkPost (R : RdR) (used : Nat) (w : World) (e : Ending) (w' : World) : Prop := ∃ a n c vc vd, e = .returned (.tuple #[rgV R.k (.slice a n c) vc vd R.fin R.pos, .int .i64 used]) ∧ ownI w' w.heap.size vc R.codes ∧ ownU w' w.heap.size vd R.data ∧ Up w w'
/-- A reading with rows of its own. -/
def RdO (base : Nat) (R : RdR) (u : Value) (w : World) : Prop := ∃ v vc vd, u = rgV R.k v vc vd R.fin R.pos ∧ ownPr w base v R.k.ps ∧ ownI w base vc R.codes ∧ ownU w base vd R.data
theorem rdO_closed (base : Nat) (R : RdR) : ∀ u, UpClosed (RdO base R u) := fun u w w' ⟨v, vc, vd, h1, h0, h2, h3⟩ hu => ⟨v, vc, vd, h1, ownsRow_up h0 hu, ownsRow_up h2 hu, ownsRow_up h3 hu⟩
theorem upOut_rd {f : FuncId} {args : Array Value} {w : World} {R : RdR} {base : Nat} (h : Calls Tryz.prog f args w (RcPost R w)) (hb : base ≤ w.heap.size) : upOut Tryz.prog (RdO base R) w (.ok (.enter f args) w) :=
  ⟨rfl, h.mono fun e w' ⟨v, vc, vd, he, hp, ho, hd, hu⟩ => ⟨_, he, hu, v, vc, vd, rfl, ownsRow_base hp hb, ownsRow_base ho hb, ownsRow_base hd hb⟩⟩
/-- A new box for a reading. -/
def RgO (base : Nat) (u : Value) (w : World) : Prop := ∃ b, u = .pointer (some ⟨b, 0, none⟩) ∧ base ≤ b ∧ RgAt b ⟨⟨0, 0, 0⟩, [], 0, 0⟩ (.slice none 0 0) (.slice none 0 0) (.slice none 0 0) 0 0 w
theorem rgO_closed (base : Nat) : ∀ u, UpClosed (RgO base u) := fun u w w' ⟨b, h1, h2, h3⟩ hu => ⟨b, h1, h2, box_up hu h3⟩

set_option maxRecDepth 100000 in
set_option maxHeartbeats 8000000 in
theorem upkI_any (k : KnD) (v : Value) (lo : Nat) (s : ByteArray) (w : World) (h : k.Ok) (hv : k.last = -1 → k.base = k.ps.length) (hr : RdP lo w v k.ps) (hs : s.size ≤ 1073741824) :
    Calls Tryz.prog 134  #[kV k v, .string s] w (UpkPost (upkR k s.data.toList) (upkU k s.data.toList) w) := by
  have cV := fun wx hr => kvI_any k v lo wx h hv hr
  have hrt := fun (wq : World) (hu : Up w wq) => hr.up hu
  have hlen := ba_len s
  unfold upkR upkU
  by_cases h4 : s.size ≤ 4000
  case neg =>
    rw [if_neg (by omega), if_neg (by omega)]
    obtain ⟨a, cap, rfl, -, -, -, -⟩ := hr
    have h4' : (4000 : Int) < (s.size : Int) := by omega
    have h4d : decide ((4000 : Int) < (s.size : Int)) = true := decide_eq_true h4'
    clear h hv hlen
    simp only [kV] at *
    go_enter Tryz.func134, Tryz.ntmps134
    go_wp2_with fail
    (with_reducible refine (cV _ (hrt _ (by (repeat (first | with_reducible exact Up.refl _ | with_reducible assumption | with_reducible refine Up.set ?_ (by first | exact Nat.le_refl _ | (simp only []; omega) | (simp; omega)) _ | with_reducible refine Up.alloc ?_ _ | with_reducible refine Up.drew ?_ | refine Up.trans ?_ (by with_reducible assumption)))))).mono ?_); rintro e w1 ⟨rfl, U1⟩
    have hQ1 : RgAt (w.heap.size + 1) ⟨⟨0, 0, 0⟩, [], 0, 0⟩ (.slice none 0 0) (.slice none 0 0) (.slice none 0 0) 0 0 w1 := box_up U1 (alloc2 w _ _)
    have hU1 : Up w w1 := by (repeat (first | with_reducible exact Up.refl _ | with_reducible assumption | with_reducible refine Up.set ?_ (by first | exact Nat.le_refl _ | (simp only []; omega) | (simp; omega)) _ | with_reducible refine Up.alloc ?_ _ | with_reducible refine Up.drew ?_ | refine Up.trans ?_ (by with_reducible assumption)))
    have HQ := Lib.hid hQ1
    have HU := Lib.hid (RgW.up hU1 (show w.heap.size ≤ w.heap.size + 1 by omega) ⟨⟨0, 0, 0⟩, [], 0, 0⟩ (.slice none 0 0) (.slice none 0 0) (.slice none 0 0) 4 0)
    have HS := Lib.hid (RgAt.store hQ1 ⟨⟨0, 0, 0⟩, [], 0, 0⟩ (.slice none 0 0) (.slice none 0 0) (.slice none 0 0) 4 0)
    obtain ⟨hbq, q0, q1, q2, q3, q4, q5, q6, q7, q8, q9⟩ := RgAt.cells (k := ⟨⟨0, 0, 0⟩, [], 0, 0⟩) hQ1
    (try dsimp only at q0 q1 q2 q3 q4 q5)
    have hfq := box_free hQ1
    clear hQ1 hU1 U1
    go_wp2
    rw [show (World.setCell (World.setCell (World.setCell (World.setCell (World.setCell (World.setCell (World.setCell (World.setCell (World.setCell (World.setCell w1 ⟨w.heap.size + 1, 0, none⟩ (.int .i64 0)) ⟨w.heap.size + 1, 1, none⟩ (.int .i64 0)) ⟨w.heap.size + 1, 2, none⟩ (.int .i64 0)) ⟨w.heap.size + 1, 3, none⟩ (.slice none 0 0)) ⟨w.heap.size + 1, 4, none⟩ (.int .i64 0)) ⟨w.heap.size + 1, 5, none⟩ (.int .i64 0)) ⟨w.heap.size + 1, 6, none⟩ (.slice none 0 0)) ⟨w.heap.size + 1, 7, none⟩ (.slice none 0 0)) ⟨w.heap.size + 1, 8, none⟩ (.int .i64 4)) ⟨w.heap.size + 1, 9, none⟩ (.int .i64 0)) = RgW w1 (w.heap.size + 1) ⟨⟨0, 0, 0⟩, [], 0, 0⟩ (.slice none 0 0) (.slice none 0 0) (.slice none 0 0) 4 0 from rfl]
    obtain ⟨hbq, q0, q1, q2, q3, q4, q5, q6, q7, q8, q9⟩ := RgAt.cells (k := ⟨⟨0, 0, 0⟩, [], 0, 0⟩) HS.out
    (try dsimp only at q0 q1 q2 q3 q4 q5)
    refine bodyPost_ret (v := .tuple #[rgV ⟨⟨0, 0, 0⟩, [], 0, 0⟩ (.slice none 0 0) (.slice none 0 0) (.slice none 0 0) 4 0, .int .i64 0]) ?_ rfl ⟨_, _, _, _, _, rfl, World.ownsRow_nil _ _ _ _, World.ownsRow_nil _ _ _ _, ?_⟩
    · simp [results, Tryz.results134, go_sem, q0, q1, q2, q3, q4, q5, q6, q7, q8, q9]
    · exact HU.out
  case pos =>
    rw [if_pos (by omega), if_pos (by omega)]
    have ho := (setOk_bd h.set).1
    have cU := fun wx => unpackBI_any k.set.ord s wx ho h4
    have hul := unpackL_length k.set.ord s.data.toList
    have cR : ∀ wx, RdP lo wx v k.ps → Calls Tryz.prog 164  #[kV k v, .string (bs (unpackL k.set.ord s.data.toList)), .int .i64 0, .int .i64 0] wx (RcPost (readN k.set.ord (unpackL k.set.ord s.data.toList) 0 0 (unpackL k.set.ord s.data.toList).length k 0 [] []) wx) := fun wx hr => readI_any k v lo (unpackL k.set.ord s.data.toList) 0 0 wx h hr (isBits_unpack _ _) (by omega) (by omega) (by omega)
    rw [hul] at cR
    have hfin := readS_fin h s.data.toList
    have hpos := hfin.pos
    rw [hul] at hpos
    have hp2 : (readS k s.data.toList).pos ≤ 32000 := by omega
    have hF := hfin.fin
    have HE : Hid (readN k.set.ord (unpackL k.set.ord s.data.toList) 0 0 (8 * s.data.toList.length) k 0 [] [] = readS k s.data.toList) := rfl
    rw [HE.out] at cR
    obtain ⟨uu, HUU⟩ : ∃ uu, Hid (usedS s.data.toList (readS k s.data.toList) = uu) := ⟨_, rfl⟩
    rw [HUU.out]
    unfold usedS at HUU
    clear hfin HE hul hpos
    generalize readS k s.data.toList = R at *
    generalize unpackL k.set.ord s.data.toList = bits at *
    obtain ⟨kR, codes, dat, fin, pos⟩ := R
    simp only at hp2 hF cR HUU ⊢
    obtain ⟨a, cap, rfl, -, -, -, -⟩ := hr
    clear h hv ho
    simp only [kV] at *
    go_enter Tryz.func134, Tryz.ntmps134
    go_wp2_with ((go_at_call 150; (with_reducible refine (cV _ (hrt _ (by (repeat (first | with_reducible exact Up.refl _ | with_reducible assumption | with_reducible refine Up.set ?_ (by first | exact Nat.le_refl _ | (simp only []; omega) | (simp; omega)) _ | with_reducible refine Up.alloc ?_ _ | with_reducible refine Up.drew ?_ | refine Up.trans ?_ (by with_reducible assumption)))))).mono ?_); rintro e w1 ⟨rfl, U1⟩; have B1 := bcell U1; have Z1 := U1.size; (try simp at Z1); (try rw [Nat.add_one_le_iff] at Z1)))
    have hK1 : KnAt w.heap.size k (.slice a k.ps.length cap) w1 := box_up U1 (box_up ((Up.refl _).alloc _) (MapKept.heap_alloc w _).1)
    have hQ1 : RgAt (w.heap.size + 1) ⟨⟨0, 0, 0⟩, [], 0, 0⟩ (.slice none 0 0) (.slice none 0 0) (.slice none 0 0) 0 0 w1 := box_up U1 (alloc2 w _ _)
    have hU1 : Up w w1 := by (repeat (first | with_reducible exact Up.refl _ | with_reducible assumption | with_reducible refine Up.set ?_ (by first | exact Nat.le_refl _ | (simp only []; omega) | (simp; omega)) _ | with_reducible refine Up.alloc ?_ _ | with_reducible refine Up.drew ?_ | refine Up.trans ?_ (by with_reducible assumption)))
    have hs1 := U1.size
    simp at hs1
    have HK := Lib.hid hK1
    have HQ := Lib.hid hQ1
    have HU := Lib.hid hU1
    clear hK1 hQ1 hU1 U1 B1 Z1
    refine wp_region_upf 8 (by kernel_rfl) (by kernel_rfl) ?_
    simp only [List.take, List.drop]
    repeat (refine wpUp_step (fun K hK => ?_); go_simp; (try simp only [↓IntWalk.iteOmega]); first
      | (refine hK _ _ ?_; clear hK K)
      | (apply stepU_c
         · intro wq hwq; (have hbq := bcell hwq; (repeat (first | refine fills_no (by rfl) ?_ | refine fills_yes (by rfl) (fun vq hvq => ?_))); simp only [List.filter_nil, fills]; unfold upAt; (try ((obtain ⟨hbk, s0, s1, s2, s3, s4, s5⟩ := (HK.out.up hwq).cells))); go_simp; (try go_bits); (try simp only [↓IntWalk.iteOmega]); (try (rw [dif_pos (by omega)]; go_simp; try go_bits)); first | exact upOut_value | (apply upOut_call; (go_at_call 165; exact cU _)) | (apply upOut_eq; (go_at_call 165; exact cU _)))
         go_simp; refine hK _ _ ?_; clear hK K)
      | (refine stepU_m (by kernel_rfl) ((RdO w1.heap.size ⟨kR, codes, dat, fin, pos⟩)) (rdO_closed _ _) (fun wq hwq => ?_) ?_
         · (have hbq := bcell hwq; (repeat (first | refine fills_no (by rfl) ?_ | refine fills_yes (by rfl) (fun vq hvq => ?_))); simp only [List.filter_nil, fills]; unfold upAt; (try ((obtain ⟨hbk, s0, s1, s2, s3, s4, s5⟩ := (HK.out.up hwq).cells))); go_simp; (try go_bits); (try simp only [↓IntWalk.iteOmega]); (try (rw [dif_pos (by omega)]; go_simp; try go_bits)); ((with_reducible refine upOut_rd (base := w1.heap.size) ?_ hwq.size); go_at_call 164; exact cR _ (hrt _ (HU.out.trans hwq))))
         refine hK _ _ ?_; clear hK K)
      | (refine stepU_m (by kernel_rfl) ((RgO w1.heap.size)) (rgO_closed _) (fun wq hwq => ?_) ?_
         · (have hbq := bcell hwq; (repeat (first | refine fills_no (by rfl) ?_ | refine fills_yes (by rfl) (fun vq hvq => ?_))); simp only [List.filter_nil, fills]; unfold upAt; (try ((obtain ⟨hbk, s0, s1, s2, s3, s4, s5⟩ := (HK.out.up hwq).cells))); go_simp; (try go_bits); (try simp only [↓IntWalk.iteOmega]); (try (rw [dif_pos (by omega)]; go_simp; try go_bits)); (exact ⟨(Up.refl _).alloc _, _, rfl, hwq.size, (MapKept.heap_alloc _ _).1⟩))
         refine hK _ _ ?_; clear hK K))
    refine wpUp_nil (fun wq hwq => ?_)
    simp only [fills]
    rintro u1 ⟨b, rfl, hbb, hbx⟩ u2 ⟨vp, vc, vd, rfl, hvp, hvc, hvd⟩
    obtain ⟨ap, cp, rfl⟩ := ownsRow_shape hvp
    obtain ⟨ac, cc, rfl⟩ := ownsRow_shape hvc
    obtain ⟨ad, cd, rfl⟩ := ownsRow_shape hvd
    obtain ⟨hbr, r0, r1, r2, r3, r4, r5, r6, r7, r8, r9⟩ := RgAt.cells (k := ⟨⟨0, 0, 0⟩, [], 0, 0⟩) hbx
    (try dsimp only at r0 r1 r2 r3 r4 r5)
    have hfb := box_free hbx
    have hB5 := RgAt.store hbx kR (.slice ap kR.ps.length cp) (.slice ac codes.length cc) (.slice ad dat.length cd) fin pos
    have hQ5 := (RgW.other (w := wq) (b := b) (show w.heap.size + 1 ≠ b by omega) kR (.slice ap kR.ps.length cp) (.slice ac codes.length cc) (.slice ad dat.length cd) fin pos).trans (box_up hwq HQ.out)
    have hC5 := RgW.own hvc (box_ne hbx hvc (by decide)) kR (.slice ap kR.ps.length cp) (.slice ac codes.length cc) (.slice ad dat.length cd) fin pos
    have hD5 := RgW.own hvd (box_ne hbx hvd (by decide)) kR (.slice ap kR.ps.length cp) (.slice ac codes.length cc) (.slice ad dat.length cd) fin pos
    have hU5 := RgW.up (HU.out.trans hwq) (show w.heap.size ≤ b by have := HU.out.size; omega) kR (.slice ap kR.ps.length cp) (.slice ac codes.length cc) (.slice ad dat.length cd) fin pos
    have HB5 := Lib.hid hB5
    have HC5 := Lib.hid hC5
    have HD5 := Lib.hid hD5
    have HU5 := Lib.hid hU5
    have HQ5 : Hid (RgAt (w.heap.size + 1) ⟨⟨0, 0, 0⟩, [], 0, 0⟩ (.slice none 0 0) (.slice none 0 0) (.slice none 0 0) 0 0 (RgW wq b kR (.slice ap kR.ps.length cp) (.slice ac codes.length cc) (.slice ad dat.length cd) fin pos)) := hQ5
    clear hB5 hC5 hD5 hU5 hQ5 hvp hvc hvd hbx HK HQ HU cU cR hrt cV
    go_wp2
    rw [onlyN_normal]
    rw [show (World.setCell (World.setCell (World.setCell (World.setCell (World.setCell (World.setCell (World.setCell (World.setCell (World.setCell (World.setCell wq ⟨b, 0, none⟩ (.int .i64 kR.set.ord)) ⟨b, 1, none⟩ (.int .i64 kR.set.lit)) ⟨b, 2, none⟩ (.int .i64 kR.set.most)) ⟨b, 3, none⟩ (.slice ap kR.ps.length cp)) ⟨b, 4, none⟩ (.int .i64 kR.base)) ⟨b, 5, none⟩ (.int .i64 kR.last)) ⟨b, 6, none⟩ (.slice ac codes.length cc)) ⟨b, 7, none⟩ (.slice ad dat.length cd)) ⟨b, 8, none⟩ (.int .i64 fin)) ⟨b, 9, none⟩ (.int .i64 pos)) = RgW wq b kR (.slice ap kR.ps.length cp) (.slice ac codes.length cc) (.slice ad dat.length cd) fin pos from rfl]
    generalize RgW wq b kR (.slice ap kR.ps.length cp) (.slice ac codes.length cc) (.slice ad dat.length cd) fin pos = W5 at *
    clear r0 r1 r2 r3 r4 r5 r6 r7 r8 r9 hfb hwq
    obtain ⟨hbr, r0, r1, r2, r3, r4, r5, r6, r7, r8, r9⟩ := HB5.out.cells
    obtain ⟨hbq, q0, q1, q2, q3, q4, q5, q6, q7, q8, q9⟩ := RgAt.cells (k := ⟨⟨0, 0, 0⟩, [], 0, 0⟩) HQ5.out
    (try dsimp only at q0 q1 q2 q3 q4 q5)
    have hfq := box_free HQ5.out
    have HQS := Lib.hid (RgAt.store HQ5.out kR (.slice ap kR.ps.length cp) (.slice ac codes.length cc) (.slice ad dat.length cd) fin pos)
    have HCS := Lib.hid (ownsRow_base (RgW.own HC5.out (low_ne (w := w) HC5.out (show w.heap.size + 1 < w1.heap.size by omega)) kR (.slice ap kR.ps.length cp) (.slice ac codes.length cc) (.slice ad dat.length cd) fin pos) (show w.heap.size ≤ w1.heap.size by omega))
    have HDS := Lib.hid (ownsRow_base (RgW.own HD5.out (low_ne (w := w) HD5.out (show w.heap.size + 1 < w1.heap.size by omega)) kR (.slice ap kR.ps.length cp) (.slice ac codes.length cc) (.slice ad dat.length cd) fin pos) (show w.heap.size ≤ w1.heap.size by omega))
    have HUS := Lib.hid (RgW.up HU5.out (show w.heap.size ≤ w.heap.size + 1 by omega) kR (.slice ap kR.ps.length cp) (.slice ac codes.length cc) (.slice ad dat.length cd) fin pos)
    by_cases hf1 : fin = 1
    · have hne : (fin == 1) = true := by simpa using hf1
      have HU9 : Hid ((uu : Int) = (s.size : Int)) := by unfold Hid; rw [← HUU.out, if_pos hf1, hlen]
      clear hf1
      go_wp2
      rw [show (World.setCell (World.setCell (World.setCell (World.setCell (World.setCell (World.setCell (World.setCell (World.setCell (World.setCell (World.setCell W5 ⟨w.heap.size + 1, 0, none⟩ (.int .i64 kR.set.ord)) ⟨w.heap.size + 1, 1, none⟩ (.int .i64 kR.set.lit)) ⟨w.heap.size + 1, 2, none⟩ (.int .i64 kR.set.most)) ⟨w.heap.size + 1, 3, none⟩ (.slice ap kR.ps.length cp)) ⟨w.heap.size + 1, 4, none⟩ (.int .i64 kR.base)) ⟨w.heap.size + 1, 5, none⟩ (.int .i64 kR.last)) ⟨w.heap.size + 1, 6, none⟩ (.slice ac codes.length cc)) ⟨w.heap.size + 1, 7, none⟩ (.slice ad dat.length cd)) ⟨w.heap.size + 1, 8, none⟩ (.int .i64 fin)) ⟨w.heap.size + 1, 9, none⟩ (.int .i64 pos)) = RgW W5 (w.heap.size + 1) kR (.slice ap kR.ps.length cp) (.slice ac codes.length cc) (.slice ad dat.length cd) fin pos from rfl]
      obtain ⟨hbq, q0, q1, q2, q3, q4, q5, q6, q7, q8, q9⟩ := HQS.out.cells
      refine bodyPost_ret (v := .tuple #[rgV kR (.slice ap kR.ps.length cp) (.slice ac codes.length cc) (.slice ad dat.length cd) fin pos, .int .i64 s.size]) ?_ rfl ⟨_, _, _, _, _, by rw [HU9.out], HCS.out, HDS.out, HUS.out⟩
      simp [results, Tryz.results134, go_sem, q0, q1, q2, q3, q4, q5, q6, q7, q8, q9]
    · have hne : (fin == 1) = false := by simpa using hf1
      have HU9 : Hid ((uu : Int) = ((pos : Int) + 7) / 8) := by unfold Hid; rw [← HUU.out, if_neg hf1]; omega
      go_wp2
      refine wp_region_own 7 5 (some (w.heap.size + 1)) (by kernel_rfl) (by kernel_rfl) ?_
      simp only [List.take, List.drop]
      repeat (refine wpG_step (fun K hK => ?_); go_simp; (try simp only [↓IntWalk.iteOmega]); first
        | (refine hK _ _ ?_; clear hK K)
        | (refine stepG_own (by rfl) (by kernel_rfl) ((fun u w' => RgAt (w.heap.size + 1) kR (.slice ap kR.ps.length cp) (.slice ac codes.length cc) (.slice ad dat.length cd) fin pos w')) ((fun v w w' h hu => box_up hu h)) (fun wq hwq => ?_) ?_
           · ((repeat (first | refine fills_no (by rfl) ?_ | refine fills_yes (by rfl) (fun vq hvq => ?_))); simp only [List.filter_nil, fills]; (obtain ⟨hbq, q0, q1, q2, q3, q4, q5, q6, q7, q8, q9⟩ := RgAt.cells (k := ⟨⟨0, 0, 0⟩, [], 0, 0⟩) (box_up hwq HQ5.out); (try dsimp only at q0 q1 q2 q3 q4 q5); have hfq := box_free (box_up hwq HQ5.out); unfold gAt; go_simp; exact ⟨(grownBy_set (grownBy_set (grownBy_set (grownBy_set (grownBy_set (grownBy_set (grownBy_set (grownBy_set (grownBy_set (grownBy_set (grownBy_refl _ _) _ _) _ _) _ _) _ _) _ _) _ _) _ _) _ _) _ _) _ _), RgAt.store (show RgAt (w.heap.size + 1) ⟨⟨0, 0, 0⟩, [], 0, 0⟩ (.slice none 0 0) (.slice none 0 0) (.slice none 0 0) 0 0 wq from box_up hwq HQ5.out) kR (.slice ap kR.ps.length cp) (.slice ac codes.length cc) (.slice ad dat.length cd) fin pos⟩))
           refine hK _ _ ?_; clear hK K)
        | (refine stepG_c (by rfl) ?_ ?_ ?_
           rotate_left
           · intro wq hwq; (have hbq := gcell hwq; (repeat (first | refine fills_no (by rfl) ?_ | refine fills_yes (by rfl) (fun vq hvq => ?_))); simp only [List.filter_nil, fills]; unfold upAt; (try ((obtain ⟨hbr, r0, r1, r2, r3, r4, r5, r6, r7, r8, r9⟩ := RgAt.cells (gbox hwq HB5.out (by simp; omega))))); go_simp; (try go_bits); (try simp only [↓IntWalk.iteOmega]); (try (rw [dif_pos (by omega)]; go_simp; try go_bits)); first | exact upOut_value)
           go_simp; refine hK _ _ ?_; clear hK K))
      refine wpG_nil (by rfl) (fun wq hwq => ?_)
      simp only [fills]
      rintro u hkr
      have HCT := Lib.hid (ownsRow_base (HC5.out.kept hwq (low_ne' (w := w) HC5.out (show w.heap.size + 1 < w1.heap.size by omega))) (show w.heap.size ≤ w1.heap.size by omega))
      have HDT := Lib.hid (ownsRow_base (HD5.out.kept hwq (low_ne' (w := w) HD5.out (show w.heap.size + 1 < w1.heap.size by omega))) (show w.heap.size ≤ w1.heap.size by omega))
      have HUT := Lib.hid (up_grown' HU5.out hwq (show w.heap.size ≤ w.heap.size + 1 by omega))
      obtain ⟨hbq, q0, q1, q2, q3, q4, q5, q6, q7, q8, q9⟩ := RgAt.cells hkr
      clear hwq hkr
      go_wp2
      refine bodyPost_ret (v := .tuple #[rgV kR (.slice ap kR.ps.length cp) (.slice ac codes.length cc) (.slice ad dat.length cd) fin pos, .int .i64 (((pos : Int) + 7) / 8)]) ?_ rfl ⟨_, _, _, _, _, by rw [HU9.out], HCT.out, HDT.out, HUT.out⟩
      simp [results, Tryz.results134, go_sem, q0, q1, q2, q3, q4, q5, q6, q7, q8, q9]

theorem upk_dec {k : KnD} (s : List UInt8) : (upkR k s).data = (decK k s).data ∧ (upkR k s).fin = (decK k s).fin ∧ upkU k s = (decK k s).used := by
  unfold upkR upkU decK
  split <;> exact ⟨rfl, rfl, rfl⟩

set_option maxRecDepth 100000 in
set_option maxHeartbeats 4000000 in
theorem decI_any (k : KnD) (v : Value) (lo : Nat) (s : ByteArray) (w : World) (h : k.Ok) (hv : k.last = -1 → k.base = k.ps.length) (hr : RdP lo w v k.ps) (hs : s.size ≤ 1073741824) :
    Calls Tryz.prog 82  #[kV k v, .string s] w (Same (decV (decK k s.data.toList)) w) := by
  have cU := fun wx hr => upkI_any k v lo s wx h hv hr hs
  have hrt := fun (wq : World) (hu : Up w wq) => hr.up hu
  obtain ⟨u1, u2, u3⟩ := upk_dec (k := k) s.data.toList
  unfold decV
  rw [← u1, ← u2, ← u3]
  unfold UpkPost at cU
  obtain ⟨a, cap, rfl, -, -, -, -⟩ := hr
  clear h hv u1 u2 u3
  generalize upkR k s.data.toList = R at *
  generalize upkU k s.data.toList = uu at *
  obtain ⟨kR, codes, dat, fin, pos⟩ := R
  simp only [kV] at *
  go_enter Tryz.func82, Tryz.ntmps82
  go_wp2_with (go_at_call 134; (with_reducible refine (cU _ (hrt _ (by (repeat (first | with_reducible exact Up.refl _ | with_reducible assumption | with_reducible refine Up.set ?_ (by first | exact Nat.le_refl _ | (simp only []; omega) | (simp; omega)) _ | with_reducible refine Up.alloc ?_ _ | with_reducible refine Up.drew ?_ | refine Up.trans ?_ (by with_reducible assumption)))))).mono ?_); rintro e w1 ⟨ap, np, cp, vc, vd, rfl, hvc, hvd, U1⟩; obtain ⟨ac, cc, rfl⟩ := ownsRow_shape hvc; obtain ⟨ad, cd, rfl⟩ := ownsRow_shape hvd; have HD := Lib.hid hvd; clear hvc hvd)
  refine wp_region_up 9 (by kernel_rfl) (by kernel_rfl) ?_
  simp only [List.take, List.drop]
  repeat (refine wpUp_step (fun K hK => ?_); go_simp; (try simp only [↓IntWalk.iteOmega]); first
    | (refine hK _ _ ?_; clear hK K)
    | (apply stepU_c
       · intro wq hwq; (have hbq := bcell hwq; (repeat (first | refine fills_no (by rfl) ?_ | refine fills_yes (by rfl) (fun vq hvq => ?_))); simp only [List.filter_nil, fills]; unfold upAt; (try ((have hconv := conv_any (ownsRow_up (ownsRow_up HD.out (Up.alloc (Up.refl _) _)) hwq) rfl; obtain ⟨hbr, r0, r1, r2, r3, r4, r5, r6, r7, r8, r9⟩ := RgAt.cells (k := kR) (box_up hwq (MapKept.heap_alloc w1 _).1)))); go_simp; (try go_bits); (try simp only [↓IntWalk.iteOmega]); (try (rw [dif_pos (by omega)]; go_simp; try go_bits)); first | exact upOut_value)
       go_simp; refine hK _ _ ?_; clear hK K))
  refine wpUp_nil (fun wq hwq => ?_)
  simp only [fills]
  have hU := ((U1.alloc _).trans hwq)
  clear hwq U1
  go_wp2
  refine bodyPost_ret (v := .tuple #[.string (bs dat), .int .i64 fin, .int .i64 uu]) (by simp [results, Tryz.results82, go_sem]; try rfl) rfl ⟨rfl, ?_⟩
  (repeat (first | with_reducible exact Up.refl _ | with_reducible assumption | with_reducible refine Up.set ?_ (by first | exact Nat.le_refl _ | (simp only []; omega) | (simp; omega)) _ | with_reducible refine Up.alloc ?_ _ | with_reducible refine Up.drew ?_ | refine Up.trans ?_ (by with_reducible assumption)))

end Go.Proofs.YtekbbnkkninolaaGreat

/- Walks of the program's blockData and BlockData. Conditions: what is known is valid and can be read; strings are no longer than 2^30 bytes. -/
namespace Go.Proofs.YtekbbnkkninolaaGreat
set_option linter.unusedVariables false
set_option linter.unusedSimpArgs false
open Go Go.RowKit

/-- The data of a block, the words of the dictionary being known. -/
def datK (k : KnD) (b : BlkD) : Option (List UInt8) := if b.raw then some b.body.data.toList else
  if (decK k b.body.data.toList).fin = 0 ∧ (decK k b.body.data.toList).used = b.body.size ∧ ((decK k b.body.data.toList).data.length : Int) = b.size then some (decK k b.body.data.toList).data else none
theorem datK_eq {s : SetD} {dict : List UInt8} (h : fitsB s dict = true) (b : BlkD) : dataO s dict b = datK (learnK (startK s) dict) b := by
  unfold dataO datK decW
  rw [if_pos h]

set_option maxRecDepth 100000 in
set_option maxHeartbeats 8000000 in
theorem blockDataI_any (k : KnD) (v : Value) (lo : Nat) (b : BlkD) (w : World) (h : k.Ok) (hv : k.last = -1 → k.base = k.ps.length) (hr : RdP lo w v k.ps) (hs : b.body.size ≤ 1073741824) :
    Calls Tryz.prog 74  #[kV k v, blkV b] w (Same (optS (datK k b)) w) := by
  have cD := fun wx hr => decI_any k v lo b.body wx h hv hr hs
  have hrt := fun (wq : World) (hu : Up w wq) => hr.up hu
  unfold datK
  obtain ⟨num, raw, size, body⟩ := b
  simp only at hs cD ⊢
  cases raw
  · simp only [Bool.false_eq_true, if_false]
    obtain ⟨d1, d2, d3, d4⟩ := decK_bd h body.data.toList
    generalize decK k body.data.toList = R at *
    obtain ⟨dd, ff, uu⟩ := R
    simp only at d1 d2 d3 d4 ⊢
    unfold decV at cD
    simp only at cD
    have hbz := bs_size dd
    have hbl : uu ≤ body.size := by simpa using d4
    obtain ⟨a, cap, rfl, -, -, -, -⟩ := hr
    clear d4 h hv
    simp only [kV, blkV] at *
    by_cases h1 : ff = 0
    · by_cases h2 : uu = body.size
      · by_cases h3 : (dd.length : Int) = size
        · rw [if_pos ⟨h1, h2, h3⟩]
          unfold optS
          simp only [Option.getD_some, Option.isSome_some]
          subst h1; subst h2; subst h3
          go_enter Tryz.func74, Tryz.ntmps74
          go_wp2_with ((go_at_call 82; (with_reducible refine (cD _ (hrt _ (by (repeat (first | with_reducible exact Up.refl _ | with_reducible assumption | with_reducible refine Up.set ?_ (by first | exact Nat.le_refl _ | (simp only []; omega) | (simp; omega)) _ | with_reducible refine Up.alloc ?_ _ | with_reducible refine Up.drew ?_ | refine Up.trans ?_ (by with_reducible assumption)))))).mono ?_); rintro e w1 ⟨rfl, U1⟩; have B1 := bcell U1; have Z1 := U1.size; (try simp at Z1); (try rw [Nat.add_one_le_iff] at Z1)))
          go_ret2
          refine ⟨rfl, ?_⟩
          (repeat (first | with_reducible exact Up.refl _ | with_reducible assumption | with_reducible refine Up.set ?_ (by first | exact Nat.le_refl _ | (simp only []; omega) | (simp; omega)) _ | with_reducible refine Up.alloc ?_ _ | with_reducible refine Up.drew ?_ | refine Up.trans ?_ (by with_reducible assumption)))
        · rw [if_neg (fun h => h3 h.2.2)]
          unfold optS
          simp only [Option.getD_none, Option.isSome_none]
          have hne : ((dd.length : Int) == size) = false := by simpa using h3
          subst h1; subst h2
          clear h3
          go_enter Tryz.func74, Tryz.ntmps74
          go_wp2_with ((go_at_call 82; (with_reducible refine (cD _ (hrt _ (by (repeat (first | with_reducible exact Up.refl _ | with_reducible assumption | with_reducible refine Up.set ?_ (by first | exact Nat.le_refl _ | (simp only []; omega) | (simp; omega)) _ | with_reducible refine Up.alloc ?_ _ | with_reducible refine Up.drew ?_ | refine Up.trans ?_ (by with_reducible assumption)))))).mono ?_); rintro e w1 ⟨rfl, U1⟩; have B1 := bcell U1; have Z1 := U1.size; (try simp at Z1); (try rw [Nat.add_one_le_iff] at Z1)))
          go_ret2
          refine ⟨rfl, ?_⟩
          (repeat (first | with_reducible exact Up.refl _ | with_reducible assumption | with_reducible refine Up.set ?_ (by first | exact Nat.le_refl _ | (simp only []; omega) | (simp; omega)) _ | with_reducible refine Up.alloc ?_ _ | with_reducible refine Up.drew ?_ | refine Up.trans ?_ (by with_reducible assumption)))
      · rw [if_neg (fun h => h2 h.2.1)]
        unfold optS
        simp only [Option.getD_none, Option.isSome_none]
        have hne : ((uu : Int) == (body.size : Int)) = false := by simp; omega
        subst h1
        clear h2
        go_enter Tryz.func74, Tryz.ntmps74
        go_wp2_with ((go_at_call 82; (with_reducible refine (cD _ (hrt _ (by (repeat (first | with_reducible exact Up.refl _ | with_reducible assumption | with_reducible refine Up.set ?_ (by first | exact Nat.le_refl _ | (simp only []; omega) | (simp; omega)) _ | with_reducible refine Up.alloc ?_ _ | with_reducible refine Up.drew ?_ | refine Up.trans ?_ (by with_reducible assumption)))))).mono ?_); rintro e w1 ⟨rfl, U1⟩; have B1 := bcell U1; have Z1 := U1.size; (try simp at Z1); (try rw [Nat.add_one_le_iff] at Z1)))
        go_ret2
        refine ⟨rfl, ?_⟩
        (repeat (first | with_reducible exact Up.refl _ | with_reducible assumption | with_reducible refine Up.set ?_ (by first | exact Nat.le_refl _ | (simp only []; omega) | (simp; omega)) _ | with_reducible refine Up.alloc ?_ _ | with_reducible refine Up.drew ?_ | refine Up.trans ?_ (by with_reducible assumption)))
    · rw [if_neg (fun h => h1 h.1)]
      unfold optS
      simp only [Option.getD_none, Option.isSome_none]
      go_enter Tryz.func74, Tryz.ntmps74
      go_wp2_with ((go_at_call 82; (with_reducible refine (cD _ (hrt _ (by (repeat (first | with_reducible exact Up.refl _ | with_reducible assumption | with_reducible refine Up.set ?_ (by first | exact Nat.le_refl _ | (simp only []; omega) | (simp; omega)) _ | with_reducible refine Up.alloc ?_ _ | with_reducible refine Up.drew ?_ | refine Up.trans ?_ (by with_reducible assumption)))))).mono ?_); rintro e w1 ⟨rfl, U1⟩; have B1 := bcell U1; have Z1 := U1.size; (try simp at Z1); (try rw [Nat.add_one_le_iff] at Z1)))
      go_ret2
      refine ⟨rfl, ?_⟩
      (repeat (first | with_reducible exact Up.refl _ | with_reducible assumption | with_reducible refine Up.set ?_ (by first | exact Nat.le_refl _ | (simp only []; omega) | (simp; omega)) _ | with_reducible refine Up.alloc ?_ _ | with_reducible refine Up.drew ?_ | refine Up.trans ?_ (by with_reducible assumption)))
  · simp only [if_true]
    unfold optS
    simp only [Option.getD_some, Option.isSome_some, bs_self]
    obtain ⟨a, cap, rfl, -, -, -, -⟩ := hr
    clear cD h hv
    simp only [kV, blkV] at *
    go_enter Tryz.func74, Tryz.ntmps74
    go_wp2
    go_ret2
    refine ⟨rfl, ?_⟩
    (repeat (first | with_reducible exact Up.refl _ | with_reducible assumption | with_reducible refine Up.set ?_ (by first | exact Nat.le_refl _ | (simp only []; omega) | (simp; omega)) _ | with_reducible refine Up.alloc ?_ _ | with_reducible refine Up.drew ?_ | refine Up.trans ?_ (by with_reducible assumption)))

end Go.Proofs.YtekbbnkkninolaaGreat

/- Walk of the program's ReadIndexed. Conditions: the places can be read; the strings are no longer than 2^30 bytes. -/
namespace Go.Proofs.YtekbbnkkninolaaGreat
set_option linter.unusedVariables false
set_option linter.unusedSimpArgs false
open Go Go.RowKit

structure NiAt (T : Option (List UInt8)) (k : KnD) (vk : Value) (st : ByteArray) (ps : List PlaceD) (to z : Int) (w0 w : World) (i m : Nat) (acc : List UInt8) (wr : World) : Prop where
  fu : i + m = ps.length
  tot : addO acc (needN (datK k) st ps to m i (z + acc.length)) = T
  al : acc.length ≤ 64 * i
  kn : KnAt w.heap.size k vk wr
  up : Up w wr
def RelNi (T : Option (List UInt8)) (k : KnD) (vk : Value) (st : ByteArray) (ps : List PlaceD) (to z : Int) (w0 w : World) (x o : Value) (wr : World) : Prop := ∃ (i m : Nat) (acc : List UInt8), x = .int .i64 i ∧ o = .string (bs acc) ∧ NiAt T k vk st ps to z w0 w i m acc wr

set_option maxRecDepth 100000 in
set_option maxHeartbeats 8000000 in
theorem idxI_any (s : SetD) (dict st : ByteArray) (ps : List PlaceD) (v : Value) (base : Nat) (f t : Int) (w : World) (hli : -9223372036854775808 ≤ s.lit ∧ s.lit ≤ 9223372036854775807) (hi : dict.size ≤ 1073741824) (hs : st.size ≤ 1073741824) (hown : w.ownsRow base 76 2 v ps.length (cellsP ps)) (hl : ps.length ≤ 1048576) :
    Calls Tryz.prog 25  #[setV s, .string dict, .string st, v, .int .i64 f, .int .i64 t] w (Same (optS (idxO (dataO s dict.data.toList) (fitsB s dict.data.toList) st ps f t)) w) := by
  have cS := fun wx => startWI_any s dict wx hli hi
  have cV := fun wx h => validI_any ps v base wx h hl
  have hrow := fun (wq : World) (hu : Up w wq) => ownsRow_up hown hu
  have cK := fun wx h => seekI_any ps v base f wx h hl
  obtain ⟨a, ca, rfl, hm, hsome⟩ := ownsRow_any hown
  clear hown
  cases h1 : fitsB s dict.data.toList
  · have HN : Hid (idxO (dataO s dict.data.toList) false st ps f t = none) := rfl
    rw [h1] at cS
    simp only [Bool.false_eq_true, if_false] at cS
    rw [HN.out]
    clear h1 hsome
    simp only [setV] at *
    go_enter Tryz.func25, Tryz.ntmps25
    go_wp2_with (((go_at_call 64; (with_reducible refine (cS _).mono ?_); rintro e w1 ⟨rfl, U1⟩; have B1 := bcell U1; have Z1 := U1.size; (try simp at Z1); (try rw [Nat.add_one_le_iff] at Z1)); (try have Y1a : w.heap.size < w1.heap.size := (by omega)); (try have Y1b : w.heap.size + 1 < w1.heap.size := (by omega)); (try have Y1c : w.heap.size + 1 + 1 < w1.heap.size := (by omega)); (try have Y1d : w.heap.size + 1 + 1 + 1 < w1.heap.size := (by omega)); skip))
    go_ret2
    refine ⟨rfl, ?_⟩
    (repeat (first | with_reducible exact Up.refl _ | with_reducible assumption | with_reducible refine Up.set ?_ (by first | exact Nat.le_refl _ | (simp only []; omega) | (simp; omega)) _ | with_reducible refine Up.alloc ?_ _ | with_reducible refine Up.drew ?_ | refine Up.trans ?_ (by with_reducible assumption)))
  rw [h1] at cS
  simp only [if_true] at cS
  obtain ⟨f1, f2, f3⟩ := fitsB_lits h1
  have hok : (learnK (startK s) dict.data.toList).Ok := learnK_ok (startK_ok f1) f3
  have hdat : dataO s dict.data.toList = datK (learnK (startK s) dict.data.toList) := funext fun b => datK_eq h1 b
  have hbdd := fun (b : BlkD) (x : List UInt8) (h : datK (learnK (startK s) dict.data.toList) b = some x) (h4 : b.size ≤ 64) (h5 : b.body.size ≤ 64) => dataO_bd (s := s) (dict := dict.data.toList) (by rw [datK_eq h1]; exact h) h4 h5
  rw [hdat]
  have cD := fun v b wx hr hs => blockDataI_any (learnK (startK s) dict.data.toList) v 0 b wx hok (fun _ => rfl) hr hs
  clear f1 f2 f3 hok hdat h1
  generalize learnK (startK s) dict.data.toList = kk at *
  cases h2 : validP ps
  · have HN : Hid (idxO (datK kk) true st ps f t = none) := by unfold Hid idxO idxOk; rw [h2]; rfl
    rw [h2] at cV
    rw [HN.out]
    clear h2 hsome
    simp only [setV, kV] at *
    go_enter Tryz.func25, Tryz.ntmps25
    go_wp2_with (first | (go_at_call 64; (with_reducible refine (cS _).mono ?_); rintro e w1 ⟨v1, rfl, ho1, U1⟩; have B1 := bcell U1; have Z1 := U1.size; simp at Z1; (try rw [Nat.add_one_le_iff] at Z1); obtain ⟨a1, c1, rfl⟩ := ownsRow_shape ho1; clear ho1) | ((go_at_call 71; (with_reducible refine (cV _ (hrow _ (by (repeat (first | with_reducible exact Up.refl _ | with_reducible assumption | with_reducible refine Up.set ?_ (by first | exact Nat.le_refl _ | (simp only []; omega) | (simp; omega)) _ | with_reducible refine Up.alloc ?_ _ | with_reducible refine Up.drew ?_ | refine Up.trans ?_ (by with_reducible assumption)))))).mono ?_); rintro e w2 ⟨rfl, U2⟩; have B2 := bcell U2; have Z2 := U2.size; (try simp at Z2); (try rw [Nat.add_one_le_iff] at Z2)); (try have Y2a : w.heap.size < w2.heap.size := (by omega)); (try have Y2b : w.heap.size + 1 < w2.heap.size := (by omega)); (try have Y2c : w.heap.size + 1 + 1 < w2.heap.size := (by omega)); (try have Y2d : w.heap.size + 1 + 1 + 1 < w2.heap.size := (by omega)); skip))
    go_ret2
    refine ⟨rfl, ?_⟩
    (repeat (first | with_reducible exact Up.refl _ | with_reducible assumption | with_reducible refine Up.set ?_ (by first | exact Nat.le_refl _ | (simp only []; omega) | (simp; omega)) _ | with_reducible refine Up.alloc ?_ _ | with_reducible refine Up.drew ?_ | refine Up.trans ?_ (by with_reducible assumption)))
  obtain ⟨hl40, hpl⟩ := validP_at h2
  rw [h2] at cV
  have HSK : Hid (seekV ps f = seekK ps f ps.length) := by unfold Hid seekV; rw [h2]; rfl
  rw [HSK.out] at cK
  by_cases h3 : 4000 < st.size ∨ f < 0 ∨ t < f ∨ 2000 < t
  · have HN : Hid (idxO (datK kk) true st ps f t = none) := by
      unfold Hid idxO idxOk
      have : (decide (st.size ≤ 4000) && (inB f 0 t && inB t 0 2000)) = false := by
        rcases h3 with h | h | h | h
        · rw [show decide (st.size ≤ 4000) = false by simp; omega]; rfl
        · rw [inB_not.2 (Or.inl h)]; simp
        · rw [inB_not.2 (Or.inr h)]; simp
        · rw [inB_not.2 (Or.inr h)]; simp
      rw [this]; simp
    rw [HN.out]
    clear h2 hsome hpl
    simp only [setV, kV] at *
    have h4 : 4000 < st.size ∨ (st.size ≤ 4000 ∧ f < 0) ∨ (st.size ≤ 4000 ∧ 0 ≤ f ∧ t < f) ∨ (st.size ≤ 4000 ∧ 0 ≤ f ∧ f ≤ t ∧ 2000 < t) := by omega
    clear h3
    rcases h4 with h | ⟨ha, h⟩ | ⟨ha, hb, h⟩ | ⟨ha, hb, hc, h⟩
    all_goals
      go_enter Tryz.func25, Tryz.ntmps25
      go_wp2_with (first | (go_at_call 64; (with_reducible refine (cS _).mono ?_); rintro e w1 ⟨v1, rfl, ho1, U1⟩; have B1 := bcell U1; have Z1 := U1.size; simp at Z1; (try rw [Nat.add_one_le_iff] at Z1); obtain ⟨a1, c1, rfl⟩ := ownsRow_shape ho1; clear ho1) | ((go_at_call 71; (with_reducible refine (cV _ (hrow _ (by (repeat (first | with_reducible exact Up.refl _ | with_reducible assumption | with_reducible refine Up.set ?_ (by first | exact Nat.le_refl _ | (simp only []; omega) | (simp; omega)) _ | with_reducible refine Up.alloc ?_ _ | with_reducible refine Up.drew ?_ | refine Up.trans ?_ (by with_reducible assumption)))))).mono ?_); rintro e w2 ⟨rfl, U2⟩; have B2 := bcell U2; have Z2 := U2.size; (try simp at Z2); (try rw [Nat.add_one_le_iff] at Z2)); (try have Y2a : w.heap.size < w2.heap.size := (by omega)); (try have Y2b : w.heap.size + 1 < w2.heap.size := (by omega)); (try have Y2c : w.heap.size + 1 + 1 < w2.heap.size := (by omega)); (try have Y2d : w.heap.size + 1 + 1 + 1 < w2.heap.size := (by omega)); skip))
      go_ret2
      refine ⟨rfl, ?_⟩
      (repeat (first | with_reducible exact Up.refl _ | with_reducible assumption | with_reducible refine Up.set ?_ (by first | exact Nat.le_refl _ | (simp only []; omega) | (simp; omega)) _ | with_reducible refine Up.alloc ?_ _ | with_reducible refine Up.drew ?_ | refine Up.trans ?_ (by with_reducible assumption)))
  obtain ⟨h3, f0, f1, t1⟩ : st.size ≤ 4000 ∧ 0 ≤ f ∧ f ≤ t ∧ t ≤ 2000 := by omega
  have HN : Hid (idxO (datK kk) true st ps f t = idxR (datK kk) st ps f t) := by
    unfold Hid idxO idxOk
    rw [h2, inB_iff.2 ⟨f0, f1⟩, inB_iff.2 ⟨by omega, t1⟩, decide_eq_true h3]; rfl
  rw [HN.out]
  clear h2 HN
  unfold idxR
  by_cases h6 : f = t
  · rw [if_pos h6]
    clear hsome hpl
    subst h6
    simp only [setV, kV] at *
    go_enter Tryz.func25, Tryz.ntmps25
    go_wp2_with (first | (go_at_call 64; (with_reducible refine (cS _).mono ?_); rintro e w1 ⟨v1, rfl, ho1, U1⟩; have B1 := bcell U1; have Z1 := U1.size; simp at Z1; (try rw [Nat.add_one_le_iff] at Z1); obtain ⟨a1, c1, rfl⟩ := ownsRow_shape ho1; clear ho1) | ((go_at_call 71; (with_reducible refine (cV _ (hrow _ (by (repeat (first | with_reducible exact Up.refl _ | with_reducible assumption | with_reducible refine Up.set ?_ (by first | exact Nat.le_refl _ | (simp only []; omega) | (simp; omega)) _ | with_reducible refine Up.alloc ?_ _ | with_reducible refine Up.drew ?_ | refine Up.trans ?_ (by with_reducible assumption)))))).mono ?_); rintro e w2 ⟨rfl, U2⟩; have B2 := bcell U2; have Z2 := U2.size; (try simp at Z2); (try rw [Nat.add_one_le_iff] at Z2)); (try have Y2a : w.heap.size < w2.heap.size := (by omega)); (try have Y2b : w.heap.size + 1 < w2.heap.size := (by omega)); (try have Y2c : w.heap.size + 1 + 1 < w2.heap.size := (by omega)); (try have Y2d : w.heap.size + 1 + 1 + 1 < w2.heap.size := (by omega)); skip))
    go_ret2
    refine ⟨rfl, ?_⟩
    (repeat (first | with_reducible exact Up.refl _ | with_reducible assumption | with_reducible refine Up.set ?_ (by first | exact Nat.le_refl _ | (simp only []; omega) | (simp; omega)) _ | with_reducible refine Up.alloc ?_ _ | with_reducible refine Up.drew ?_ | refine Up.trans ?_ (by with_reducible assumption)))
  rw [if_neg h6]
  rcases seekK_lt (ps := ps) (o := f) ps.length (Nat.le_refl _) with h7 | ⟨j, j1, -, j3, j4⟩
  · rw [h7, if_pos (by omega)]
    rw [h7] at cK
    clear hsome hpl
    simp only [setV, kV] at *
    go_enter Tryz.func25, Tryz.ntmps25
    go_wp2_with (first | (go_at_call 64; (with_reducible refine (cS _).mono ?_); rintro e w1 ⟨v1, rfl, ho1, U1⟩; have B1 := bcell U1; have Z1 := U1.size; simp at Z1; (try rw [Nat.add_one_le_iff] at Z1); obtain ⟨a1, c1, rfl⟩ := ownsRow_shape ho1; clear ho1) | ((go_at_call 71; (with_reducible refine (cV _ (hrow _ (by (repeat (first | with_reducible exact Up.refl _ | with_reducible assumption | with_reducible refine Up.set ?_ (by first | exact Nat.le_refl _ | (simp only []; omega) | (simp; omega)) _ | with_reducible refine Up.alloc ?_ _ | with_reducible refine Up.drew ?_ | refine Up.trans ?_ (by with_reducible assumption)))))).mono ?_); rintro e w2 ⟨rfl, U2⟩; have B2 := bcell U2; have Z2 := U2.size; (try simp at Z2); (try rw [Nat.add_one_le_iff] at Z2)); (try have Y2a : w.heap.size < w2.heap.size := (by omega)); (try have Y2b : w.heap.size + 1 < w2.heap.size := (by omega)); (try have Y2c : w.heap.size + 1 + 1 < w2.heap.size := (by omega)); (try have Y2d : w.heap.size + 1 + 1 + 1 < w2.heap.size := (by omega)); skip) | ((go_at_call 72; (with_reducible refine (cK _ (hrow _ (by (repeat (first | with_reducible exact Up.refl _ | with_reducible assumption | with_reducible refine Up.set ?_ (by first | exact Nat.le_refl _ | (simp only []; omega) | (simp; omega)) _ | with_reducible refine Up.alloc ?_ _ | with_reducible refine Up.drew ?_ | refine Up.trans ?_ (by with_reducible assumption)))))).mono ?_); rintro e w3 ⟨rfl, U3⟩; have B3 := bcell U3; have Z3 := U3.size; (try simp at Z3); (try rw [Nat.add_one_le_iff] at Z3)); (try have Y3a : w.heap.size < w3.heap.size := (by omega)); (try have Y3b : w.heap.size + 1 < w3.heap.size := (by omega)); (try have Y3c : w.heap.size + 1 + 1 < w3.heap.size := (by omega)); (try have Y3d : w.heap.size + 1 + 1 + 1 < w3.heap.size := (by omega)); skip))
    go_ret2
    refine ⟨rfl, ?_⟩
    (repeat (first | with_reducible exact Up.refl _ | with_reducible assumption | with_reducible refine Up.set ?_ (by first | exact Nat.le_refl _ | (simp only []; omega) | (simp; omega)) _ | with_reducible refine Up.alloc ?_ _ | with_reducible refine Up.drew ?_ | refine Up.trans ?_ (by with_reducible assumption)))
  rw [j3, if_neg (by omega), Int.toNat_natCast]
  rw [j3] at cK
  have hgd : ps.getD j ⟨0, 0⟩ = ps[j] := by rw [List.getD_eq_getElem?_getD, List.getElem?_eq_getElem j1]; rfl
  rw [hgd]
  obtain ⟨g, rfl, hnc, hcm, -, hg, hcells⟩ := hsome (by omega)
  have HC : Hid (∀ i (hi : i < ps.length), w.cell? ⟨g, i * 2, none⟩ = some (.int .i64 (ps[i]).place) ∧ w.cell? ⟨g, i * 2 + 1, none⟩ = some (.int .i64 (ps[i]).start)) := fun i hi => plc_cells hcells (List.getElem?_eq_getElem hi)
  obtain ⟨x0, x1⟩ := HC.out j j1
  obtain ⟨-, -, q3, q4⟩ := hpl j j1
  have HPL := Lib.hid hpl
  unfold fromN
  unfold maxLen at hcm
  obtain ⟨T, HT⟩ : ∃ T, Hid (needN (datK kk) st ps t (ps.length - j) j (ps[j]).start = T) := ⟨_, Lib.hid rfl⟩
  have HGE : Hid (∀ d, T = some d → t ≤ (ps[j]).start + d.length) := fun d h => need_ge (ps.length - j) j (ps[j]).start d (HT.out.trans h)
  rw [HT.out]
  clear hcells hsome hpl j3 hgd HSK hm
  generalize (ps[j]).start = z at *
  generalize (ps[j]).place = pl at *
  simp only [setV, kV] at *
  go_enter Tryz.func25, Tryz.ntmps25
  go_wp2_with (first | (go_at_call 64; (with_reducible refine (cS _).mono ?_); rintro e w1 ⟨v1, rfl, ho1, U1⟩; have B1 := bcell U1; have Z1 := U1.size; simp at Z1; (try rw [Nat.add_one_le_iff] at Z1); have HR1 := Lib.hid ((RdP.of_own ho1).low (Nat.zero_le _)); obtain ⟨a1, c1, rfl⟩ := ownsRow_shape ho1; clear ho1; have hg1 : g < w1.heap.size := (by omega)) | (((go_at_call 71; (with_reducible refine (cV _ (hrow _ (by (repeat (first | with_reducible exact Up.refl _ | with_reducible assumption | with_reducible refine Up.set ?_ (by first | exact Nat.le_refl _ | (simp only []; omega) | (simp; omega)) _ | with_reducible refine Up.alloc ?_ _ | with_reducible refine Up.drew ?_ | refine Up.trans ?_ (by with_reducible assumption)))))).mono ?_); rintro e w2 ⟨rfl, U2⟩; have B2 := bcell U2; have Z2 := U2.size; (try simp at Z2); (try rw [Nat.add_one_le_iff] at Z2)); (try have Y2a : w.heap.size < w2.heap.size := (by omega)); (try have Y2b : w.heap.size + 1 < w2.heap.size := (by omega)); (try have Y2c : w.heap.size + 1 + 1 < w2.heap.size := (by omega)); (try have Y2d : w.heap.size + 1 + 1 + 1 < w2.heap.size := (by omega)); skip); have hg2 : g < w2.heap.size := (by omega); have Y2 : w1.heap.size < w2.heap.size := (by omega)) | (((go_at_call 72; (with_reducible refine (cK _ (hrow _ (by (repeat (first | with_reducible exact Up.refl _ | with_reducible assumption | with_reducible refine Up.set ?_ (by first | exact Nat.le_refl _ | (simp only []; omega) | (simp; omega)) _ | with_reducible refine Up.alloc ?_ _ | with_reducible refine Up.drew ?_ | refine Up.trans ?_ (by with_reducible assumption)))))).mono ?_); rintro e w3 ⟨rfl, U3⟩; have B3 := bcell U3; have Z3 := U3.size; (try simp at Z3); (try rw [Nat.add_one_le_iff] at Z3)); (try have Y3a : w.heap.size < w3.heap.size := (by omega)); (try have Y3b : w.heap.size + 1 < w3.heap.size := (by omega)); (try have Y3c : w.heap.size + 1 + 1 < w3.heap.size := (by omega)); (try have Y3d : w.heap.size + 1 + 1 + 1 < w3.heap.size := (by omega)); skip); have hg3 : g < w3.heap.size := (by omega); have Y3 : w1.heap.size < w3.heap.size := (by omega); have hU3 : Up w w3 := (by (repeat (first | with_reducible exact Up.refl _ | with_reducible assumption | with_reducible refine Up.set ?_ (by first | exact Nat.le_refl _ | (simp only []; omega) | (simp; omega)) _ | with_reducible refine Up.alloc ?_ _ | with_reducible refine Up.drew ?_ | refine Up.trans ?_ (by with_reducible assumption)))); have x3 := (hU3.cell (p := ⟨g, j * 2 + 1, none⟩) hg).trans x1))
  have hK3 : KnAt w1.heap.size kk (.slice a1 kk.ps.length c1) w3 := box_up U3 (box_up U2 (MapKept.heap_alloc w1 _).1)
  have HU13 : Hid (Up w1 w3) := by clear hU3; (repeat (first | with_reducible exact Up.refl _ | with_reducible assumption | with_reducible refine Up.set ?_ (by first | exact Nat.le_refl _ | (simp only []; omega) | (simp; omega)) _ | with_reducible refine Up.alloc ?_ _ | with_reducible refine Up.drew ?_ | refine Up.trans ?_ (by with_reducible assumption)))
  go_loopw [16, 18] (fun x o wr => RelNi T kk (.slice a1 kk.ps.length c1) st ps t z w w1 x o wr) (fun x _ _ => ps.length - (intOf x).toNat)
  case atStart => exact ⟨j, ps.length - j, [], rfl, rfl, ⟨by omega, by rw [addO_nil]; simpa using HT.out, by simp, hK3, HU13.out⟩⟩
  case round =>
    obtain ⟨i, m, acc, rfl, rfl, hM⟩ := hrel
    have HM := Lib.hid hM
    have hfu := hM.fu
    have hal := hM.al
    have hza := bs_size acc
    obtain ⟨hb0, r0, r1, r2, r3, r4, r5⟩ := hM.kn.cells
    have hup : Up w wr := Up.trans (by (repeat (first | with_reducible exact Up.refl _ | with_reducible assumption | with_reducible refine Up.set ?_ (by first | exact Nat.le_refl _ | (simp only []; omega) | (simp; omega)) _ | with_reducible refine Up.alloc ?_ _ | with_reducible refine Up.drew ?_ | refine Up.trans ?_ (by with_reducible assumption)))) hM.up
    have HUW := Lib.hid hup
    have hup1 := hM.up
    clear hM hK3 x3 x0 x1 B1 B2 B3 U2 U3 hU3
    by_cases hlt : z + acc.length < t
    · by_cases hkl : i < ps.length
      · obtain ⟨x0, x1⟩ := HC.out i hkl
        have c0 := (hup.cell (p := ⟨g, i * 2, none⟩) hg).trans x0
        have c1' := (hup.cell (p := ⟨g, i * 2 + 1, none⟩) hg).trans x1
        have hgr := Nat.lt_of_lt_of_le hg hup.size
        obtain ⟨p1, p2, p3, p4⟩ := HPL.out i hkl
        have hpk : ps[i]? = some ps[i] := List.getElem?_eq_getElem hkl
        have HNO : Hid (blkIdx st ps i (z + acc.length) = none → T = none) := fun h => HM.out.tot.symm.trans (by rw [need_none hlt hkl h]; rfl)
        clear x0 x1
        by_cases hst : (ps[i]).start = z + acc.length
        · have hpn : (((ps[i]).place.toNat : Nat) : Int) = (ps[i]).place := by omega
          have cP := fun wx => parseI_any st ((ps[i]).place.toNat : Nat) wx hs
          rw [hpn] at cP
          cases hp : parseOk st (ps[i]).place.toNat
          · have HTN : Hid (T = none) := HNO.out (blkIdx_not hpk (fun h => by rw [hp] at h; exact absurd h.2.2.1 (by decide)))
            have e := parseV_not hp
            rw [hpn] at e
            rw [e] at cP
            unfold noBlock at cP
            clear hp e hpk HNO
            generalize (ps[i]).place = P at *
            generalize (ps[i]).start = Z at *
            subst hst
            go_wp2_with ((((go_at_call 73; (with_reducible refine (cP _).mono ?_); rintro e w4 ⟨rfl, U4⟩; have B4 := bcell U4; have Z4 := U4.size; (try simp at Z4); (try rw [Nat.add_one_le_iff] at Z4)); (try have Y4a : w.heap.size < w4.heap.size := (by omega)); (try have Y4b : w.heap.size + 1 < w4.heap.size := (by omega)); (try have Y4c : w.heap.size + 1 + 1 < w4.heap.size := (by omega)); (try have Y4d : w.heap.size + 1 + 1 + 1 < w4.heap.size := (by omega)); skip); have Y4 : w1.heap.size < w4.heap.size := (by omega)))
            go_ret2
            refine ⟨by rw [HTN.out]; rfl, ?_⟩
            exact HUW.out.trans (by (repeat (first | with_reducible exact Up.refl _ | with_reducible assumption | with_reducible refine Up.set ?_ (by first | exact Nat.le_refl _ | (simp only []; omega) | (simp; omega)) _ | with_reducible refine Up.alloc ?_ _ | with_reducible refine Up.drew ?_ | refine Up.trans ?_ (by with_reducible assumption))))
          · have hb := parse_bd hp
            have e := parseV_yes hp
            rw [hpn, parsed_blk] at e
            rw [e] at cP
            have hbi := fun (hn : numAt st ((ps[i]).place.toNat + 2) = i) => blkIdx_yes (st := st) (at' := z + acc.length) hpk ⟨hst, p1, hp, hn⟩
            have hbn := fun (hn : numAt st ((ps[i]).place.toNat + 2) ≠ i) => HNO.out (blkIdx_not (at' := z + acc.length) hpk (fun h => hn h.2.2.2))
            have hnum : (blkAt st (ps[i]).place.toNat).num = numAt st ((ps[i]).place.toNat + 2) := rfl
            clear hp e hpk HNO hpn
            rw [← hnum] at hbi hbn
            generalize endAt st (ps[i]).place.toNat + 2 = en at *
            generalize blkAt st (ps[i]).place.toNat = b at *
            generalize (ps[i]).place = P at *
            generalize (ps[i]).start = Z at *
            subst hst
            clear hnum
            by_cases hn : b.num = i
            · have hbi2 := hbi hn
              have cD2 := fun wx hr => cD (.slice a1 kk.ps.length c1) b wx hr (by omega)
              have hrt := fun (wq : World) (hu : Up wr wq) => HR1.out.up (hup1.trans hu)
              obtain ⟨m, rfl⟩ : ∃ q, m = q + 1 := ⟨m - 1, by omega⟩
              cases hdo : datK kk b with
              | none =>
                have HTN : Hid (T = none) := HM.out.tot.symm.trans (by rw [need_bad hlt hbi2 hdo]; rfl)
                rw [hdo] at cD2
                clear hdo hbi hbn hbi2 cD
                obtain ⟨bn, br, bz, bb⟩ := b
                simp only at hn
                subst hn
                unfold optS at cD2
                simp only [blkV, Option.getD_none, Option.isSome_none] at cD2 cP
                go_wp2_with (first | (((go_at_call 73; (with_reducible refine (cP _).mono ?_); rintro e w4 ⟨rfl, U4⟩; have B4 := bcell U4; have Z4 := U4.size; (try simp at Z4); (try rw [Nat.add_one_le_iff] at Z4)); (try have Y4a : w.heap.size < w4.heap.size := (by omega)); (try have Y4b : w.heap.size + 1 < w4.heap.size := (by omega)); (try have Y4c : w.heap.size + 1 + 1 < w4.heap.size := (by omega)); (try have Y4d : w.heap.size + 1 + 1 + 1 < w4.heap.size := (by omega)); skip); have Y4 : w1.heap.size < w4.heap.size := (by omega)) | (((go_at_call 74; (with_reducible refine (cD2 _ (hrt _ (by (repeat (first | with_reducible exact Up.refl _ | with_reducible assumption | with_reducible refine Up.set ?_ (by first | exact Nat.le_refl _ | (simp only []; omega) | (simp; omega)) _ | with_reducible refine Up.alloc ?_ _ | with_reducible refine Up.drew ?_ | refine Up.trans ?_ (by with_reducible assumption)))))).mono ?_); rintro e w5 ⟨rfl, U5⟩; have B5 := bcell U5; have Z5 := U5.size; (try simp at Z5); (try rw [Nat.add_one_le_iff] at Z5)); (try have Y5a : w.heap.size < w5.heap.size := (by omega)); (try have Y5b : w.heap.size + 1 < w5.heap.size := (by omega)); (try have Y5c : w.heap.size + 1 + 1 < w5.heap.size := (by omega)); (try have Y5d : w.heap.size + 1 + 1 + 1 < w5.heap.size := (by omega)); skip); have Y5 : w1.heap.size < w5.heap.size := (by omega)))
                go_ret2
                refine ⟨by rw [HTN.out]; rfl, ?_⟩
                exact HUW.out.trans (by (repeat (first | with_reducible exact Up.refl _ | with_reducible assumption | with_reducible refine Up.set ?_ (by first | exact Nat.le_refl _ | (simp only []; omega) | (simp; omega)) _ | with_reducible refine Up.alloc ?_ _ | with_reducible refine Up.drew ?_ | refine Up.trans ?_ (by with_reducible assumption))))
              | some x =>
                have hxl := hbdd b x hdo hb.2.1 hb.2.2
                have hzx := bs_size x
                have HTN : Hid (addO (acc ++ x) (needN (datK kk) st ps t m (i + 1) (z + (acc ++ x).length)) = T) := by
                  unfold Hid
                  rw [List.length_append, Int.natCast_add, ← Int.add_assoc]
                  exact (need_addO acc hlt hbi2 hdo).symm.trans HM.out.tot
                rw [hdo] at cD2
                clear hdo hbi hbn hbi2 cD hbdd
                obtain ⟨bn, br, bz, bb⟩ := b
                simp only at hn
                subst hn
                unfold optS at cD2
                simp only [blkV, Option.getD_some, Option.isSome_some] at cD2 cP
                go_wp2_with (first | (((go_at_call 73; (with_reducible refine (cP _).mono ?_); rintro e w4 ⟨rfl, U4⟩; have B4 := bcell U4; have Z4 := U4.size; (try simp at Z4); (try rw [Nat.add_one_le_iff] at Z4)); (try have Y4a : w.heap.size < w4.heap.size := (by omega)); (try have Y4b : w.heap.size + 1 < w4.heap.size := (by omega)); (try have Y4c : w.heap.size + 1 + 1 < w4.heap.size := (by omega)); (try have Y4d : w.heap.size + 1 + 1 + 1 < w4.heap.size := (by omega)); skip); have Y4 : w1.heap.size < w4.heap.size := (by omega)) | (((go_at_call 74; (with_reducible refine (cD2 _ (hrt _ (by (repeat (first | with_reducible exact Up.refl _ | with_reducible assumption | with_reducible refine Up.set ?_ (by first | exact Nat.le_refl _ | (simp only []; omega) | (simp; omega)) _ | with_reducible refine Up.alloc ?_ _ | with_reducible refine Up.drew ?_ | refine Up.trans ?_ (by with_reducible assumption)))))).mono ?_); rintro e w5 ⟨rfl, U5⟩; have B5 := bcell U5; have Z5 := U5.size; (try simp at Z5); (try rw [Nat.add_one_le_iff] at Z5)); (try have Y5a : w.heap.size < w5.heap.size := (by omega)); (try have Y5b : w.heap.size + 1 < w5.heap.size := (by omega)); (try have Y5c : w.heap.size + 1 + 1 < w5.heap.size := (by omega)); (try have Y5d : w.heap.size + 1 + 1 + 1 < w5.heap.size := (by omega)); skip); have Y5 : w1.heap.size < w5.heap.size := (by omega)))
                go_roundw
                case rel => exact ⟨i + 1, m, acc ++ x, by go_num, congrArg Value.string (bs_app _ _), ⟨by omega, HTN.out, by rw [List.length_append]; omega, box_up (by (repeat (first | with_reducible exact Up.refl _ | with_reducible assumption | with_reducible refine Up.set ?_ (by first | exact Nat.le_refl _ | (simp only []; omega) | (simp; omega)) _ | with_reducible refine Up.alloc ?_ _ | with_reducible refine Up.drew ?_ | refine Up.trans ?_ (by with_reducible assumption)))) HM.out.kn, HM.out.up.trans (by (repeat (first | with_reducible exact Up.refl _ | with_reducible assumption | with_reducible refine Up.set ?_ (by first | exact Nat.le_refl _ | (simp only []; omega) | (simp; omega)) _ | with_reducible refine Up.alloc ?_ _ | with_reducible refine Up.drew ?_ | refine Up.trans ?_ (by with_reducible assumption))))⟩⟩
                case measure => simp [intOf]; omega
            · have HTN : Hid (T = none) := hbn hn
              clear hbi hbn cD
              obtain ⟨bn, br, bz, bb⟩ := b
              simp only at hn
              simp only [blkV] at cP
              go_wp2_with ((((go_at_call 73; (with_reducible refine (cP _).mono ?_); rintro e w4 ⟨rfl, U4⟩; have B4 := bcell U4; have Z4 := U4.size; (try simp at Z4); (try rw [Nat.add_one_le_iff] at Z4)); (try have Y4a : w.heap.size < w4.heap.size := (by omega)); (try have Y4b : w.heap.size + 1 < w4.heap.size := (by omega)); (try have Y4c : w.heap.size + 1 + 1 < w4.heap.size := (by omega)); (try have Y4d : w.heap.size + 1 + 1 + 1 < w4.heap.size := (by omega)); skip); have Y4 : w1.heap.size < w4.heap.size := (by omega)))
              go_ret2
              refine ⟨by rw [HTN.out]; rfl, ?_⟩
              exact HUW.out.trans (by (repeat (first | with_reducible exact Up.refl _ | with_reducible assumption | with_reducible refine Up.set ?_ (by first | exact Nat.le_refl _ | (simp only []; omega) | (simp; omega)) _ | with_reducible refine Up.alloc ?_ _ | with_reducible refine Up.drew ?_ | refine Up.trans ?_ (by with_reducible assumption))))
        · have HTN : Hid (T = none) := HNO.out (blkIdx_not hpk (fun h => hst h.1))
          clear hpk HNO
          generalize (ps[i]).place = P at *
          generalize (ps[i]).start = Z at *
          have hne : (Z == z + (acc.length : Int)) = false := by simpa using hst
          have hne2 : (Z != z + (acc.length : Int)) = true := by simpa using hst
          have hd2 : decide (ps.length ≤ i) = false := by simpa using hkl
          clear hst
          go_wp2
          go_ret2
          refine ⟨by rw [HTN.out]; rfl, ?_⟩
          exact HUW.out.trans (by (repeat (first | with_reducible exact Up.refl _ | with_reducible assumption | with_reducible refine Up.set ?_ (by first | exact Nat.le_refl _ | (simp only []; omega) | (simp; omega)) _ | with_reducible refine Up.alloc ?_ _ | with_reducible refine Up.drew ?_ | refine Up.trans ?_ (by with_reducible assumption))))
      · have HTN : Hid (T = none) := HM.out.tot.symm.trans (by rw [need_out hlt (by omega)]; rfl)
        have e : i = ps.length := by omega
        go_wp2
        go_ret2
        refine ⟨by rw [HTN.out]; rfl, ?_⟩
        exact HUW.out.trans (by (repeat (first | with_reducible exact Up.refl _ | with_reducible assumption | with_reducible refine Up.set ?_ (by first | exact Nat.le_refl _ | (simp only []; omega) | (simp; omega)) _ | with_reducible refine Up.alloc ?_ _ | with_reducible refine Up.drew ?_ | refine Up.trans ?_ (by with_reducible assumption))))
    · have HTN : Hid (T = some acc) := HM.out.tot.symm.trans (by rw [need_end hlt]; simp [addO])
      have hge := HGE.out acc HTN.out
      have HX : Hid ((bs acc).extract (f - z).toNat (t - z).toNat = bs ((acc.drop (f - z).toNat).take ((t - z).toNat - (f - z).toNat))) := bs_ext _ _ _
      go_wp2
      go_ret2
      refine ⟨by rw [HTN.out, HX.out]; rfl, HUW.out⟩

end Go.Proofs.YtekbbnkkninolaaGreat

/- Walks of the program's blocksData and ContainerData. Conditions: what is known is valid and can be read; the strings are no longer than 2^30 bytes. -/
namespace Go.Proofs.YtekbbnkkninolaaGreat
set_option linter.unusedVariables false
set_option linter.unusedSimpArgs false
open Go Go.RowKit

structure BdAt (T : Option (List UInt8)) (k : KnD) (v : Value) (l : List BlkD) (w : World) (j : Nat) (acc : List UInt8) (wr : World) : Prop where
  le : j ≤ l.length
  tot : addO acc (allF (datK k) (l.drop j)) = T
  al : acc.length ≤ 64 * j
  kn : KnAt w.heap.size k v wr
  sb : IsSb (w.heap.size + 1) (w.heap.size + 1) (Lib.byteCells acc) wr
  up : Up w wr
def RelBd (T : Option (List UInt8)) (k : KnD) (v : Value) (l : List BlkD) (w : World) (i : Value) (wr : World) : Prop := ∃ (j : Nat) (acc : List UInt8), i = .int .i64 j ∧ BdAt T k v l w j acc wr

set_option maxRecDepth 100000 in
set_option maxHeartbeats 8000000 in
theorem blocksDataI_any (k : KnD) (v : Value) (lo : Nat) (l : List BlkD) (vb : Value) (w : World) (h : k.Ok) (hv : k.last = -1 → k.base = k.ps.length) (hr : RdP lo w v k.ps) (hb : RdB w vb l) (hok : accOk l) (hbd : ∀ b ∈ l, ∀ x, datK k b = some x → x.length ≤ 64) :
    Calls Tryz.prog 65  #[kV k v, vb] w (Same (optS (allF (datK k) l)) w) := by
  obtain ⟨i0, hi, hz0, hz1, hz2⟩ := info_parts infoBlock
  have cD := fun b wx hr hs => blockDataI_any k v lo b wx h hv hr hs
  have hrt := fun (wq : World) (hu : Up w wq) => hr.up hu
  have HRD := Lib.hid hb
  have HOK := Lib.hid hok
  have HBD := Lib.hid hbd
  have hl40 := hok.1
  obtain ⟨T, HT⟩ : ∃ T, Hid (allF (datK k) l = T) := ⟨_, rfl⟩
  rw [HT.out]
  obtain ⟨ak, capk, rfl, -, -, -, -⟩ := hr
  obtain ⟨a, cap, rfl, hnc, hcm, -⟩ := hb
  unfold maxLen at hcm
  clear hok hbd h hv
  simp only [kV] at *
  go_enter Tryz.func65, Tryz.ntmps65
  go_wp2
  go_loopw [13] (fun i wr => RelBd T k (.slice ak k.ps.length capk) l w i wr) (fun i _ => l.length - (intOf i).toNat)
  case atStart => exact ⟨0, [], rfl, ⟨Nat.zero_le _, by rw [List.drop_zero, addO_nil]; exact HT.out, by simp, box_up ((Up.refl _).alloc _) (MapKept.heap_alloc w _).1, by simpa using isSb_new (w.alloc _), by (repeat (first | with_reducible exact Up.refl _ | with_reducible assumption | with_reducible refine Up.set ?_ (by first | exact Nat.le_refl _ | (simp only []; omega) | (simp; omega)) _ | with_reducible refine Up.alloc ?_ _ | with_reducible refine Up.drew ?_ | refine Up.trans ?_ (by with_reducible assumption)))⟩⟩
  case round =>
    obtain ⟨j, acc, rfl, hM⟩ := hrel
    have HM := Lib.hid hM
    have hj := hM.le
    have hal := hM.al
    have hsbl := hM.sb.lt
    obtain ⟨hb0, r0, r1, r2, r3, r4, r5⟩ := hM.kn.cells
    clear hM
    by_cases hlt : j < l.length
    · obtain ⟨a9, cap9, e9, -, -, hc9⟩ := HRD.out.low HM.out.up
      cases e9
      obtain ⟨g, rfl, hg, hcell⟩ := hc9 (by omega)
      obtain ⟨c0, c1, c2, c3⟩ := hcell j hlt
      obtain ⟨hb1, hb2, hb3⟩ := HOK.out.2 _ (List.getElem_mem hlt)
      have HST := fun acc x h => @addO_step (datK k) l j hlt acc x h
      have HFA := fun acc h => @addO_fail (datK k) l j hlt acc h
      have hxb := fun x h => HBD.out _ (List.getElem_mem hlt) x h
      have cD2 := fun wx hr => cD (l[j]) wx hr (by omega)
      have hrt2 := fun (wq : World) (hu : Up wr wq) => hrt wq (HM.out.up.trans hu)
      clear hcell cD
      cases hdo : datK k l[j] with
      | none =>
        rw [hdo] at cD2
        have HTN : Hid (T = none) := HM.out.tot.symm.trans (HFA _ hdo)
        clear HST HFA hxb
        clear hdo
        generalize l[j] = bj at *
        obtain ⟨bn, br, bz, bb⟩ := bj
        unfold optS at cD2
        simp only [blkV, Option.getD_none, Option.isSome_none] at c0 c1 c2 c3 cD2
        go_wp2_with ((go_at_call 74; (with_reducible refine (cD2 _ (hrt2 _ (by (repeat (first | with_reducible exact Up.refl _ | with_reducible assumption | with_reducible refine Up.set ?_ (by first | exact Nat.le_refl _ | (simp only []; omega) | (simp; omega)) _ | with_reducible refine Up.alloc ?_ _ | with_reducible refine Up.drew ?_ | refine Up.trans ?_ (by with_reducible assumption)))))).mono ?_); rintro e w1 ⟨rfl, U1⟩; have B1 := bcell U1; have Z1 := U1.size; (try simp at Z1); (try rw [Nat.add_one_le_iff] at Z1)))
        go_ret2
        refine ⟨by rw [HTN.out]; rfl, ?_⟩
        exact HM.out.up.trans (by (repeat (first | with_reducible exact Up.refl _ | with_reducible assumption | with_reducible refine Up.set ?_ (by first | exact Nat.le_refl _ | (simp only []; omega) | (simp; omega)) _ | with_reducible refine Up.alloc ?_ _ | with_reducible refine Up.drew ?_ | refine Up.trans ?_ (by with_reducible assumption))))
      | some x =>
        rw [hdo] at cD2
        have hxl := hxb x hdo
        have hzx := bs_size x
        have HTN : Hid (addO (acc ++ x) (allF (datK k) (l.drop (j + 1))) = T) := (HST _ _ hdo).symm.trans HM.out.tot
        clear HST HFA hxb
        clear hdo
        generalize l[j] = bj at *
        obtain ⟨bn, br, bz, bb⟩ := bj
        unfold optS at cD2
        simp only [blkV, Option.getD_some, Option.isSome_some] at c0 c1 c2 c3 cD2
        have cW := fun wx hx hb => sbWrite_any (w.heap.size + 1) (w.heap.size + 1) (Lib.byteCells acc) (bs x) wx hx (by rw [Lib.byteCells_length]; omega) hb
        go_wp2_with ((go_at_call 74; (with_reducible refine (cD2 _ (hrt2 _ (by (repeat (first | with_reducible exact Up.refl _ | with_reducible assumption | with_reducible refine Up.set ?_ (by first | exact Nat.le_refl _ | (simp only []; omega) | (simp; omega)) _ | with_reducible refine Up.alloc ?_ _ | with_reducible refine Up.drew ?_ | refine Up.trans ?_ (by with_reducible assumption)))))).mono ?_); rintro e w5 ⟨rfl, U5⟩; have B5 := bcell U5; have Z5 := U5.size; (try simp at Z5); (try rw [Nat.add_one_le_iff] at Z5)))
        have hU5 : Up wr w5 := by (repeat (first | with_reducible exact Up.refl _ | with_reducible assumption | with_reducible refine Up.set ?_ (by first | exact Nat.le_refl _ | (simp only []; omega) | (simp; omega)) _ | with_reducible refine Up.alloc ?_ _ | with_reducible refine Up.drew ?_ | refine Up.trans ?_ (by with_reducible assumption)))
        (with_reducible refine (cW _ (HM.out.sb.up hU5) (by have := hU5.size; omega)).mono ?_)
        rintro e w6 ⟨rfl, h6, hb6⟩
        have hU6 : Up w w6 := Below.trans (HM.out.up.trans hU5) (hb6.mono (by omega))
        have HK6 := Lib.hid (show KnAt w.heap.size k (.slice ak k.ps.length capk) w6 from (hb6.block _ (by omega)).trans (HM.out.kn.up hU5))
        have HS6 : Hid (IsSb (w.heap.size + 1) (w.heap.size + 1) (Lib.byteCells (acc ++ x)) w6) := by
          have h7 := h6
          rw [strCells_bs9, byteCells_app] at h7
          exact .inr h7
        clear h6 hb6
        go_wp2
        go_roundw
        case rel => exact ⟨j + 1, acc ++ x, by go_num, ⟨by omega, HTN.out, by rw [List.length_append]; omega, HK6.out, HS6.out, hU6⟩⟩
        case measure => simp [intOf]; omega
    · have HTN : Hid (T = some acc) := HM.out.tot.symm.trans (addO_end (by omega) _)
      have cS := fun wx hx hb => sbString_any (w.heap.size + 1) (w.heap.size + 1) acc wx hx hb
      go_wp2_with fail
      (with_reducible refine (cS _ HM.out.sb (by omega)).mono ?_)
      rintro e w7 ⟨rfl, hb7⟩
      have hU7 : Up w w7 := Below.trans HM.out.up (hb7.mono (by omega))
      go_wp2
      refine bodyPost_ret (v := .tuple #[.string (bs acc), .bool true]) (by simp [results, Tryz.results65, go_sem]; try rfl) rfl ⟨by rw [HTN.out]; rfl, hU7⟩

end Go.Proofs.YtekbbnkkninolaaGreat

/- Walk of the program's ContainerData. Conditions: the strings are no longer than 2^30 bytes. -/
namespace Go.Proofs.YtekbbnkkninolaaGreat
set_option linter.unusedVariables false
set_option linter.unusedSimpArgs false
open Go Go.RowKit

set_option maxRecDepth 100000 in
set_option maxHeartbeats 8000000 in
theorem conI_any (s : SetD) (dict st : ByteArray) (w : World) (hli : -9223372036854775808 ≤ s.lit ∧ s.lit ≤ 9223372036854775807) (hi : dict.size ≤ 1073741824) (hs : st.size ≤ 1073741824) :
    Calls Tryz.prog 19  #[setV s, .string dict, .string st] w (Same (optS (conO s dict.data.toList st)) w) := by
  have cS := fun wx => startWI_any s dict wx hli hi
  cases h1 : fitsB s dict.data.toList
  · have HN : Hid (conO s dict.data.toList st = none) := by unfold Hid conO; rw [h1]; rfl
    rw [h1] at cS
    simp only [Bool.false_eq_true, if_false] at cS
    clear h1
    simp only [setV] at *
    go_enter Tryz.func19, Tryz.ntmps19
    go_wp2_with ((go_at_call 64; (with_reducible refine (cS _).mono ?_); rintro e w1 ⟨rfl, U1⟩; have B1 := bcell U1; have Z1 := U1.size; (try simp at Z1); (try rw [Nat.add_one_le_iff] at Z1)))
    go_ret2
    refine ⟨by rw [HN.out]; rfl, ?_⟩
    (repeat (first | with_reducible exact Up.refl _ | with_reducible assumption | with_reducible refine Up.set ?_ (by first | exact Nat.le_refl _ | (simp only []; omega) | (simp; omega)) _ | with_reducible refine Up.alloc ?_ _ | with_reducible refine Up.drew ?_ | refine Up.trans ?_ (by with_reducible assumption)))
  · rw [h1] at cS
    simp only [if_true] at cS
    obtain ⟨f1, f2, f3⟩ := fitsB_lits h1
    have hok : (learnK (startK s) dict.data.toList).Ok := learnK_ok (startK_ok f1) f3
    cases hc : contBlocks st with
    | none =>
      have HN : Hid (conO s dict.data.toList st = none) := by unfold Hid conO; rw [hc]; split <;> rfl
      have cB := fun wx => contI_none hc hs wx
      clear hc h1 f1 f2 f3 hok
      generalize learnK (startK s) dict.data.toList = kk at *
      simp only [setV, kV] at *
      go_enter Tryz.func19, Tryz.ntmps19
      go_wp2_with (go_at_call 64; (with_reducible refine (cS _).mono ?_); rintro e w1 ⟨v1, rfl, ho1, U1⟩; have B1 := bcell U1; have Z1 := U1.size; simp at Z1; (try rw [Nat.add_one_le_iff] at Z1); have Y0 : w.heap.size < w1.heap.size := (by omega); obtain ⟨a1, c1, rfl⟩ := ownsRow_shape ho1; clear ho1)
      go_wp2_with fail
      (with_reducible refine (cB _).mono ?_); rintro e w2 ⟨v2, rfl, -, U2⟩
      go_wp2
      go_ret2
      refine ⟨by rw [HN.out]; rfl, ?_⟩
      (repeat (first | with_reducible exact Up.refl _ | with_reducible assumption | with_reducible refine Up.set ?_ (by first | exact Nat.le_refl _ | (simp only []; omega) | (simp; omega)) _ | with_reducible refine Up.alloc ?_ _ | with_reducible refine Up.drew ?_ | refine Up.trans ?_ (by with_reducible assumption)))
    | some l =>
      have ho := contBlocks_ok hc
      have HN : Hid (conO s dict.data.toList st = allF (datK (learnK (startK s) dict.data.toList)) l) := by
        unfold Hid conO
        rw [h1, hc, show dataO s dict.data.toList = datK (learnK (startK s) dict.data.toList) from funext fun b => datK_eq h1 b]; rfl
      have hbd : ∀ b ∈ l, ∀ x, datK (learnK (startK s) dict.data.toList) b = some x → x.length ≤ 64 := fun b hb x hx => by
        rw [← datK_eq h1] at hx
        exact dataO_bd hx (ho.2 b hb).2.1 (ho.2 b hb).2.2
      have cB := fun wx => contI_some hc hs wx
      have cA := fun v vb wx hr hb => blocksDataI_any (learnK (startK s) dict.data.toList) v 0 l vb wx hok (fun _ => rfl) hr hb ho hbd
      rw [HN.out]
      clear hc h1 f1 f2 f3 hok HN hbd ho
      generalize learnK (startK s) dict.data.toList = kk at *
      unfold optS at *
      generalize (allF (datK kk) l).isSome = ok at *
      generalize (allF (datK kk) l).getD [] = ad at *
      simp only [setV, kV] at *
      go_enter Tryz.func19, Tryz.ntmps19
      go_wp2_with (go_at_call 64; (with_reducible refine (cS _).mono ?_); rintro e w1 ⟨v1, rfl, ho1, U1⟩; have B1 := bcell U1; have Z1 := U1.size; simp at Z1; (try rw [Nat.add_one_le_iff] at Z1); have Y0 : w.heap.size < w1.heap.size := (by omega); have HR1 := Lib.hid ((RdP.of_own ho1).low (Nat.zero_le _)); obtain ⟨a1, c1, rfl⟩ := ownsRow_shape ho1; clear ho1)
      go_wp2_with fail
      (with_reducible refine (cB _).mono ?_); rintro e w2 ⟨v2, rfl, ho2, U2⟩; have B2 := bcell U2; have Z2 := U2.size; simp at Z2; (try rw [Nat.add_one_le_iff] at Z2); have Y2 : w.heap.size < w2.heap.size := (by omega); have Y3 : w1.heap.size < w2.heap.size := (by omega); have HR2 := Lib.hid (RdB.of_own ho2); obtain ⟨a2, c2, rfl⟩ := ownsRow_shape ho2; clear ho2
      go_wp2_with ((go_at_call 65; (with_reducible refine (cA _ _ _ (HR1.out.up (by (repeat (first | with_reducible exact Up.refl _ | with_reducible assumption | with_reducible refine Up.set ?_ (by first | exact Nat.le_refl _ | (simp only []; omega) | (simp; omega)) _ | with_reducible refine Up.alloc ?_ _ | with_reducible refine Up.drew ?_ | refine Up.trans ?_ (by with_reducible assumption))))) (HR2.out.low (by (repeat (first | with_reducible exact Up.refl _ | with_reducible assumption | with_reducible refine Up.set ?_ (by first | exact Nat.le_refl _ | (simp only []; omega) | (simp; omega)) _ | with_reducible refine Up.alloc ?_ _ | with_reducible refine Up.drew ?_ | refine Up.trans ?_ (by with_reducible assumption)))))).mono ?_); rintro e w3 ⟨rfl, U3⟩; have B3 := bcell U3; have Z3 := U3.size; (try simp at Z3); (try rw [Nat.add_one_le_iff] at Z3)))
      go_ret2
      refine ⟨rfl, ?_⟩
      (repeat (first | with_reducible exact Up.refl _ | with_reducible assumption | with_reducible refine Up.set ?_ (by first | exact Nat.le_refl _ | (simp only []; omega) | (simp; omega)) _ | with_reducible refine Up.alloc ?_ _ | with_reducible refine Up.drew ?_ | refine Up.trans ?_ (by with_reducible assumption)))

end Go.Proofs.YtekbbnkkninolaaGreat

/- Walk of the program's ReadRange. Conditions: the strings are no longer than 2^30 bytes. -/
namespace Go.Proofs.YtekbbnkkninolaaGreat
set_option linter.unusedVariables false
set_option linter.unusedSimpArgs false
open Go Go.RowKit

set_option maxRecDepth 100000 in
set_option maxHeartbeats 8000000 in
theorem rangeI_any (s : SetD) (dict st : ByteArray) (f t : Int) (w : World) (hli : -9223372036854775808 ≤ s.lit ∧ s.lit ≤ 9223372036854775807) (hi : dict.size ≤ 1073741824) (hs : st.size ≤ 1073741824) :
    Calls Tryz.prog 21  #[setV s, .string dict, .string st, .int .i64 f, .int .i64 t] w (Same (optS (rngO (conO s dict.data.toList st) f t)) w) := by
  have cC := fun wx => conI_any s dict st wx hli hi hs
  cases hc : conO s dict.data.toList st with
  | none =>
    rw [hc] at cC
    unfold optS at cC
    simp only [setV, Option.getD_none, Option.isSome_none] at *
    go_enter Tryz.func21, Tryz.ntmps21
    go_wp2_with ((go_at_call 19; (with_reducible refine (cC _).mono ?_); rintro e w1 ⟨rfl, U1⟩; have B1 := bcell U1; have Z1 := U1.size; (try simp at Z1); (try rw [Nat.add_one_le_iff] at Z1)))
    go_ret2
    refine ⟨rfl, ?_⟩
    (repeat (first | with_reducible exact Up.refl _ | with_reducible assumption | with_reducible refine Up.set ?_ (by first | exact Nat.le_refl _ | (simp only []; omega) | (simp; omega)) _ | with_reducible refine Up.alloc ?_ _ | with_reducible refine Up.drew ?_ | refine Up.trans ?_ (by with_reducible assumption)))
  | some d =>
    have hd := conO_bd hc
    have hz := bs_size d
    rw [hc] at cC
    unfold optS at cC
    simp only [setV, Option.getD_some, Option.isSome_some] at *
    by_cases h : 0 ≤ f ∧ f ≤ t ∧ t ≤ d.length
    · have HR : Hid (rngO (some d) f t = some ((d.drop f.toNat).take (t.toNat - f.toNat))) := by
        unfold Hid rngO
        rw [Option.bind_some, if_pos h]
      obtain ⟨h1, h2, h3⟩ := h
      have HX : Hid ((bs d).extract f.toNat t.toNat = bs ((d.drop f.toNat).take (t.toNat - f.toNat))) := bs_ext _ _ _
      rw [HR.out]
      go_enter Tryz.func21, Tryz.ntmps21
      go_wp2_with ((go_at_call 19; (with_reducible refine (cC _).mono ?_); rintro e w1 ⟨rfl, U1⟩; have B1 := bcell U1; have Z1 := U1.size; (try simp at Z1); (try rw [Nat.add_one_le_iff] at Z1)))
      go_ret2
      refine ⟨by rw [HX.out]; rfl, ?_⟩
      (repeat (first | with_reducible exact Up.refl _ | with_reducible assumption | with_reducible refine Up.set ?_ (by first | exact Nat.le_refl _ | (simp only []; omega) | (simp; omega)) _ | with_reducible refine Up.alloc ?_ _ | with_reducible refine Up.drew ?_ | refine Up.trans ?_ (by with_reducible assumption)))
    · have HR : Hid (rngO (some d) f t = none) := by
        unfold Hid rngO
        rw [Option.bind_some, if_neg h]
      rw [HR.out]
      by_cases g1 : f < 0
      · clear h
        go_enter Tryz.func21, Tryz.ntmps21
        go_wp2_with ((go_at_call 19; (with_reducible refine (cC _).mono ?_); rintro e w1 ⟨rfl, U1⟩; have B1 := bcell U1; have Z1 := U1.size; (try simp at Z1); (try rw [Nat.add_one_le_iff] at Z1)))
        go_ret2
        refine ⟨rfl, ?_⟩
        (repeat (first | with_reducible exact Up.refl _ | with_reducible assumption | with_reducible refine Up.set ?_ (by first | exact Nat.le_refl _ | (simp only []; omega) | (simp; omega)) _ | with_reducible refine Up.alloc ?_ _ | with_reducible refine Up.drew ?_ | refine Up.trans ?_ (by with_reducible assumption)))
      · by_cases g2 : t < f
        · clear h
          go_enter Tryz.func21, Tryz.ntmps21
          go_wp2_with ((go_at_call 19; (with_reducible refine (cC _).mono ?_); rintro e w1 ⟨rfl, U1⟩; have B1 := bcell U1; have Z1 := U1.size; (try simp at Z1); (try rw [Nat.add_one_le_iff] at Z1)))
          go_ret2
          refine ⟨rfl, ?_⟩
          (repeat (first | with_reducible exact Up.refl _ | with_reducible assumption | with_reducible refine Up.set ?_ (by first | exact Nat.le_refl _ | (simp only []; omega) | (simp; omega)) _ | with_reducible refine Up.alloc ?_ _ | with_reducible refine Up.drew ?_ | refine Up.trans ?_ (by with_reducible assumption)))
        · have g3 : (d.length : Int) < t := by omega
          clear h
          go_enter Tryz.func21, Tryz.ntmps21
          go_wp2_with ((go_at_call 19; (with_reducible refine (cC _).mono ?_); rintro e w1 ⟨rfl, U1⟩; have B1 := bcell U1; have Z1 := U1.size; (try simp at Z1); (try rw [Nat.add_one_le_iff] at Z1)))
          go_ret2
          refine ⟨rfl, ?_⟩
          (repeat (first | with_reducible exact Up.refl _ | with_reducible assumption | with_reducible refine Up.set ?_ (by first | exact Nat.le_refl _ | (simp only []; omega) | (simp; omega)) _ | with_reducible refine Up.alloc ?_ _ | with_reducible refine Up.drew ?_ | refine Up.trans ?_ (by with_reducible assumption)))

end Go.Proofs.YtekbbnkkninolaaGreat

/- Walk of the reference's ReadRange. Conditions: the strings are no longer than 2^30 bytes. -/
namespace Go.Proofs.YtekbbnkkninolaaGreat
set_option linter.unusedVariables false
set_option linter.unusedSimpArgs false
open Go Go.RowKit

set_option maxRecDepth 100000 in
set_option maxHeartbeats 8000000 in
theorem rangeS_any (s : SetD) (dict st : ByteArray) (f t : Int) (w : World) (hi : dict.size ≤ 1073741824) (hs : st.size ≤ 1073741824) :
    Calls Tryz.prog 20  #[setV s, .string dict, .string st, .int .i64 f, .int .i64 t] w (Same (optS (rngO (conO s dict.data.toList st) f t)) w) := by
  have cC := fun wx => conS_any s dict st wx hi hs
  cases hc : conO s dict.data.toList st with
  | none =>
    rw [hc] at cC
    unfold optS at cC
    simp only [setV, Option.getD_none, Option.isSome_none] at *
    go_enter Tryz.func20, Tryz.ntmps20
    go_wp2_with ((go_at_call 17; (with_reducible refine (cC _).mono ?_); rintro e w1 ⟨rfl, U1⟩; have B1 := bcell U1; have Z1 := U1.size; (try simp at Z1); (try rw [Nat.add_one_le_iff] at Z1)))
    go_ret2
    refine ⟨rfl, ?_⟩
    (repeat (first | with_reducible exact Up.refl _ | with_reducible assumption | with_reducible refine Up.set ?_ (by first | exact Nat.le_refl _ | (simp only []; omega) | (simp; omega)) _ | with_reducible refine Up.alloc ?_ _ | with_reducible refine Up.drew ?_ | refine Up.trans ?_ (by with_reducible assumption)))
  | some d =>
    have hd := conO_bd hc
    have hz := bs_size d
    rw [hc] at cC
    unfold optS at cC
    simp only [setV, Option.getD_some, Option.isSome_some] at *
    have cI1 := fun wx => l1In_any f 0 t wx
    have cI2 := fun wx => l1In_any t 0 (d.length : Nat) wx
    by_cases h : 0 ≤ f ∧ f ≤ t ∧ t ≤ d.length
    · have HR : Hid (rngO (some d) f t = some ((d.drop f.toNat).take (t.toNat - f.toNat))) := by
        unfold Hid rngO
        rw [Option.bind_some, if_pos h]
      obtain ⟨h1, h2, h3⟩ := h
      have e1 : inB f 0 t = true := by simp [inB]; omega
      have e2 : inB t 0 (d.length : Nat) = true := by simp [inB]; omega
      rw [e1] at cI1; rw [e2] at cI2
      have HX : Hid ((bs d).extract f.toNat t.toNat = bs ((d.drop f.toNat).take (t.toNat - f.toNat))) := bs_ext _ _ _
      rw [HR.out]
      go_enter Tryz.func20, Tryz.ntmps20
      go_wp2_with (first | (go_at_call 17; (with_reducible refine (cC _).mono ?_); rintro e w1 ⟨rfl, U1⟩; have B1 := bcell U1; have Z1 := U1.size; (try simp at Z1); (try rw [Nat.add_one_le_iff] at Z1)) | (go_at_call 66; (with_reducible refine (cI1 _).mono ?_); rintro e w' ⟨rfl, rfl⟩) | (go_at_call 66; (with_reducible refine (cI2 _).mono ?_); rintro e w' ⟨rfl, rfl⟩))
      go_ret2
      refine ⟨by rw [HX.out]; rfl, ?_⟩
      (repeat (first | with_reducible exact Up.refl _ | with_reducible assumption | with_reducible refine Up.set ?_ (by first | exact Nat.le_refl _ | (simp only []; omega) | (simp; omega)) _ | with_reducible refine Up.alloc ?_ _ | with_reducible refine Up.drew ?_ | refine Up.trans ?_ (by with_reducible assumption)))
    · have HR : Hid (rngO (some d) f t = none) := by
        unfold Hid rngO
        rw [Option.bind_some, if_neg h]
      have e0 : (inB f 0 t && inB t 0 (d.length : Nat)) = false := by
        rw [Bool.and_eq_false_iff]; simp [inB]; omega
      rw [HR.out]
      cases e1 : inB f 0 t
      · rw [e1] at cI1
        go_enter Tryz.func20, Tryz.ntmps20
        go_wp2_with (first | (go_at_call 17; (with_reducible refine (cC _).mono ?_); rintro e w1 ⟨rfl, U1⟩; have B1 := bcell U1; have Z1 := U1.size; (try simp at Z1); (try rw [Nat.add_one_le_iff] at Z1)) | (go_at_call 66; (with_reducible refine (cI1 _).mono ?_); rintro e w' ⟨rfl, rfl⟩))
        go_ret2
        refine ⟨rfl, ?_⟩
        (repeat (first | with_reducible exact Up.refl _ | with_reducible assumption | with_reducible refine Up.set ?_ (by first | exact Nat.le_refl _ | (simp only []; omega) | (simp; omega)) _ | with_reducible refine Up.alloc ?_ _ | with_reducible refine Up.drew ?_ | refine Up.trans ?_ (by with_reducible assumption)))
      · have e2 : inB t 0 (d.length : Nat) = false := by rw [e1] at e0; simpa using e0
        rw [e1] at cI1; rw [e2] at cI2
        go_enter Tryz.func20, Tryz.ntmps20
        go_wp2_with (first | (go_at_call 17; (with_reducible refine (cC _).mono ?_); rintro e w1 ⟨rfl, U1⟩; have B1 := bcell U1; have Z1 := U1.size; (try simp at Z1); (try rw [Nat.add_one_le_iff] at Z1)) | (go_at_call 66; (with_reducible refine (cI1 _).mono ?_); rintro e w' ⟨rfl, rfl⟩) | (go_at_call 66; (with_reducible refine (cI2 _).mono ?_); rintro e w' ⟨rfl, rfl⟩))
        go_ret2
        refine ⟨rfl, ?_⟩
        (repeat (first | with_reducible exact Up.refl _ | with_reducible assumption | with_reducible refine Up.set ?_ (by first | exact Nat.le_refl _ | (simp only []; omega) | (simp; omega)) _ | with_reducible refine Up.alloc ?_ _ | with_reducible refine Up.drew ?_ | refine Up.trans ?_ (by with_reducible assumption)))

end Go.Proofs.YtekbbnkkninolaaGreat

/- Plain: the blocks of a container that was made, and of its first bytes. Conditions: as each says. -/
namespace Go.Proofs.YtekbbnkkninolaaGreat
set_option linter.unusedVariables false
set_option linter.unusedSimpArgs false
open Go Go.RowKit

theorem parse_inv {s : ByteArray} {k : Nat} {n z e : Int} {r : Bool} {b : ByteArray} (h : parseV s (k : Int) = .tuple #[.agg #[.int .i64 n, .bool r, .int .i64 z, .string b], .int .i64 e, .bool true]) : parseOk s k = true ∧ blkAt s k = ⟨n, r, z, b⟩ ∧ ((endAt s k + 2 : Nat) : Int) = e := by
  cases hp : parseOk s k
  · rw [parseV_not hp] at h; unfold noBlock at h; simp at h
  · rw [parseV_yes hp] at h
    unfold parsed at h
    simp only [Value.tuple.injEq, Array.mk.injEq, List.cons.injEq, Value.agg.injEq, Value.int.injEq, Value.bool.injEq, Value.string.injEq, and_true, true_and] at h
    obtain ⟨⟨h1, h2, h3, h4⟩, h5⟩ := h
    refine ⟨rfl, ?_, h5⟩
    unfold blkAt; rw [h1, h2, h3, h4]
/-- Blocks with new numbers. -/
def renum (i : Nat) : List BlkD → List BlkD
  | [] => []
  | b :: l => ⟨i, b.raw, b.size, b.body⟩ :: renum (i + 1) l
theorem renum_sum : ∀ (l : List BlkD) (i : Nat), sizeSum (renum i l) = sizeSum l
  | [], _ => rfl
  | b :: l, i => by
    have := renum_sum l (i + 1)
    unfold sizeSum at *
    rw [renum, List.map_cons, List.map_cons, List.sum_cons, List.sum_cons, this]
theorem ba_assoc (a b c : ByteArray) : a ++ b ++ c = a ++ (b ++ c) := ba_ext (by simp [ba_append])
theorem numbT_cons (i : Nat) (b : BlkD) (l : List BlkD) : bs (numbT i (b :: l)) = textB i b.raw b.size b.body ++ bs (numbT (i + 1) l) := by
  rw [numbT, ← bs_app, bs_self]
theorem goB_text (C : ByteArray) : ∀ (l : List BlkD) (A : ByteArray) (acc : List BlkD), (∀ j (h : j < l.length), formB ((acc.length + j : Nat) : Int) (l[j]).raw (l[j]).size (l[j]).body = true) →
    goBlocks (A ++ bs (numbT acc.length l) ++ C) A.size acc = goBlocks (A ++ bs (numbT acc.length l) ++ C) (A.size + (numbT acc.length l).length) (acc ++ renum acc.length l)
  | [], A, acc, _ => by simp [numbT, renum]
  | b :: l, A, acc, hf => by
    have hb := hf 0 (by simp)
    simp only [Nat.add_zero, List.getElem_cons_zero] at hb
    have hT := text_size acc.length b.raw b.size b.body
    have hp := parse_text hb A (bs (numbT (acc.length + 1) l) ++ C)
    have e2 : A ++ bs (numbT acc.length (b :: l)) ++ C = A ++ textB acc.length b.raw b.size b.body ++ (bs (numbT (acc.length + 1) l) ++ C) := by
      rw [numbT_cons]; simp only [ba_assoc]
    have e3 : A ++ bs (numbT acc.length (b :: l)) ++ C = (A ++ textB acc.length b.raw b.size b.body) ++ bs (numbT (acc.length + 1) l) ++ C := by
      rw [numbT_cons]; simp only [ba_assoc]
    rw [← e2] at hp
    obtain ⟨p1, p2, p3⟩ := parse_inv hp
    have hsz : A.size < (A ++ bs (numbT acc.length (b :: l)) ++ C).size := by
      rw [e2, size3]; omega
    have hnum : numAt (A ++ bs (numbT acc.length (b :: l)) ++ C) (A.size + 2) = acc.length := congrArg BlkD.num p2
    rw [← go_step hsz p1 hnum, p2]
    have hend : endAt (A ++ bs (numbT acc.length (b :: l)) ++ C) A.size + 2 = (A ++ textB acc.length b.raw b.size b.body).size := by
      rw [ByteArray.size_append]; omega
    rw [hend]
    have hl1 : (acc ++ [(⟨acc.length, b.raw, b.size, b.body⟩ : BlkD)]).length = acc.length + 1 := by simp
    have ih := goB_text C l (A ++ textB acc.length b.raw b.size b.body) (acc ++ [⟨acc.length, b.raw, b.size, b.body⟩]) (fun j h => by
      rw [hl1]
      have := hf (j + 1) (by simp; omega)
      rw [List.getElem_cons_succ] at this
      rw [show acc.length + 1 + j = acc.length + (j + 1) by omega]
      exact this)
    rw [hl1, ← e3] at ih
    rw [ih, renum, List.append_assoc]
    have hlen : (numbT acc.length (b :: l)).length = (textB acc.length b.raw b.size b.body).size + (numbT (acc.length + 1) l).length := by
      rw [numbT, List.length_append, ba_len]
    rw [hlen, ByteArray.size_append, Nat.add_assoc]
    rfl
theorem empty_app (X : ByteArray) : ByteArray.empty ++ X ++ ByteArray.empty = X := ba_ext (by simp [ba_append])
/-- The blocks of what blocks make. -/
theorem cont_text {l : List BlkD} (h : McOk l) : contBlocks (bs (numbT 0 l)) = some (renum 0 l) := by
  have hg := goB_text ByteArray.empty l ByteArray.empty [] (fun j hj => by
    have := h.form j hj
    rw [show (([] : List BlkD).length + j) = j by simp]
    exact this)
  rw [empty_app] at hg
  have e0 : ByteArray.empty.size = 0 := rfl
  have e9 : ([] : List BlkD).length = 0 := rfl
  rw [e0, e9, Nat.zero_add, List.nil_append] at hg
  unfold contBlocks
  rw [hg, go_end (by rw [bs_size]; simp), Option.bind_some, if_pos (by
    show sizeSum (renum 0 l) ≤ 2000
    rw [renum_sum]; exact h.sum)]
theorem McOk.take {l : List BlkD} (h : McOk l) (j : Nat) : McOk (l.take j) := by
  refine ⟨accOk_take h.acc j, ?_, fun i hi => ?_⟩
  · have h1 : sizeSum (l.take j) ≤ sizeSum l := by
      have h2 := List.take_append_drop j l
      have h3 : sizeSum l = sizeSum (l.take j) + sizeSum (l.drop j) := by
        unfold sizeSum
        rw [← List.sum_append, ← List.map_append, h2]
      have h4 := (sizeSum_bd (l := l.drop j) ⟨by have := h.acc.1; rw [List.length_drop]; omega, fun b hb => h.acc.2 b (List.mem_of_mem_drop hb)⟩).1
      omega
    have := h.sum
    omega
  · have hi' : i < l.length := by rw [List.length_take] at hi; omega
    have := h.form i hi'
    rw [List.getElem_take]
    exact this
end Go.Proofs.YtekbbnkkninolaaGreat

/- Plain: a container that was made: how many blocks it has, how long it is, what its first bytes hold. Conditions: as each says. -/
namespace Go.Proofs.YtekbbnkkninolaaGreat
set_option linter.unusedVariables false
set_option linter.unusedSimpArgs false
open Go Go.RowKit

theorem numbT_bytes : ∀ (l : List BlkD) (i : Nat), (((numbT i l).length : Nat) : Int) = bytesSum l
  | [], i => rfl
  | b :: l, i => by
    have h := numbT_bytes l (i + 1)
    have ht := text_size i b.raw b.size b.body
    rw [numbT, List.length_append, ba_len, ht]
    unfold bytesSum at *
    rw [List.map_cons, List.sum_cons, ← h]; omega
/-- What is known of a container that was made. -/
structure Made (s : SetD) (dict L T : List UInt8) (l : List BlkD) : Prop where
  ok : McOk l
  text : T = numbT 0 l
  fits : fitsB s dict = true
  all : allF (dataO s dict) l = some L
  len : LenOk (dataO s dict) l
  small : ∀ b ∈ l, (b.body.size : Int) ≤ b.size
theorem dataO_renum (s : SetD) (dict : List UInt8) : ∀ (l : List BlkD) (i : Nat), allF (dataO s dict) (renum i l) = allF (dataO s dict) l
  | [], _ => rfl
  | b :: l, i => by
    have e : dataO s dict ⟨(i : Int), b.raw, b.size, b.body⟩ = dataO s dict b := rfl
    rw [renum, allF, allF, e, dataO_renum s dict l]
section
variable {s : SetD} {dict L T : List UInt8} {l : List BlkD}
theorem Made.cont (h : Made s dict L T l) : contBlocks (bs T) = some (renum 0 l) := by rw [h.text]; exact cont_text h.ok
theorem Made.conO (h : Made s dict L T l) : conO s dict (bs T) = some L := by
  unfold Proofs.YtekbbnkkninolaaGreat.conO
  rw [h.fits, h.cont, if_pos rfl, Option.bind_some, dataO_renum, h.all]
theorem Made.bytes (h : Made s dict L T l) : ((T.length : Nat) : Int) = bytesSum l := by rw [h.text]; exact numbT_bytes l 0
end
theorem bytes_lt {l : List BlkD} {i : Nat} (h : i < l.length) : bytesSum (l.take i) < bytesSum (l.take (i + 1)) := by
  rw [bytesSum_take h]; omega
theorem bytes_mono {l : List BlkD} {i j : Nat} (h : i ≤ j) (hj : j ≤ l.length) : bytesSum (l.take i) ≤ bytesSum (l.take j) := by
  induction j with
  | zero => rw [show i = 0 by omega]; exact Int.le_refl _
  | succ j ih =>
    rcases Nat.lt_or_ge i (j + 1) with hl | hl
    · have := bytes_lt (l := l) (i := j) (by omega)
      have := ih (by omega) (by omega)
      omega
    · rw [show i = j + 1 by omega]; exact Int.le_refl _
end Go.Proofs.YtekbbnkkninolaaGreat


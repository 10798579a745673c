/- Walks of the functions that write a block's bytes. Conditions: the parts of the block fit together. -/
import Derived.Test.YthemmoecocjpjaaBlk2
namespace Go.Proofs.Ythemmoecocjpjaa
set_option linter.unusedVariables false
set_option linter.unusedSimpArgs false
open Go.RowKit

def inner (n : Int) (r : Bool) (s : Int) (b : ByteArray) : ByteArray := strOfNums [kindB r] ++ two n ++ two s ++ two b.size ++ b
def textB (n : Int) (r : Bool) (s : Int) (b : ByteArray) : ByteArray := strOfNums [181] ++ inner n r s b ++ two (sumOf (inner n r s b))

set_option maxRecDepth 100000 in
set_option maxHeartbeats 1000000 in
theorem l5Text_any (n : Int) (r : Bool) (s : Int) (b : ByteArray) (w : World) (h1 : 0 ≤ n ∧ n ≤ 39) (h2 : 1 ≤ s ∧ s ≤ 64) (h3 : b.size ≤ 64) :
    Calls Try.prog 58 #[.agg #[.int .i64 n, .bool r, .int .i64 s, .string b]] w (Same (.string (textB n r s b)) w) := by
  go_enter Try.func58, Try.ntmps58
  go_wp2
  refine wp_region_up 19 (by kernel_rfl) (by kernel_rfl) ?_
  simp only [List.take, List.drop]
  have hn := h1.1
  have hn' := h1.2
  have hs := h2.1
  have hs' := h2.2
  have z1 := strOfNums_size
  have z2 := two_size
  repeat (refine wpUp_step (fun K hK => ?_); go_simp; (try simp only [↓IntWalk.iteOmega]); first
    | (refine hK _ _ ?_; clear hK K)
    | (apply stepU_c
       · intro wq hwq; (have hbq := bcell hwq; (repeat (first | refine fills_no (by rfl) ?_ | refine fills_yes (by rfl) (fun vq hvq => ?_))); simp only [List.filter_nil, fills]; unfold upAt; go_simp; (try go_bits); (try simp only [↓IntWalk.iteOmega]); (try (rw [dif_pos (by omega)]; go_simp; try go_bits)); first | exact upOut_value | (apply upOut_call; (go_at_call 97; exact l5Kind_any _ _ _ _ _)) | (apply upOut_eq; (go_at_call 97; exact l5Kind_any _ _ _ _ _)) | (apply upOut_call; (go_at_call 77; exact l4Two_any _ _ (by omega) (by omega))) | (apply upOut_eq; (go_at_call 77; exact l4Two_any _ _ (by omega) (by omega))))
       go_simp; refine hK _ _ ?_; clear hK K))
  refine wpUp_nil (fun wq hwq => ?_)
  simp only [fills]
  go_wp2
  have U1 := hwq
  have hbd := sumOf_bd (inner n r s b)
  obtain ⟨hbd1, hbd2⟩ := hbd
  have z3 : (inner n r s b).size ≤ 71 := by simp [inner, strOfNums_size, two_size]; omega
  have HI : Hid (strOfNums [kindB r] ++ two n ++ two s ++ two b.size ++ b = inner n r s b) := rfl
  rw [HI.out]
  refine wp_region_up 9 (by kernel_rfl) (by kernel_rfl) ?_
  simp only [List.take, List.drop]
  repeat (refine wpUp_step (fun K hK => ?_); go_simp; (try simp only [↓IntWalk.iteOmega]); first
    | (refine hK _ _ ?_; clear hK K)
    | (apply stepU_c
       · intro wq hwq; (have hbq := bcell hwq; (repeat (first | refine fills_no (by rfl) ?_ | refine fills_yes (by rfl) (fun vq hvq => ?_))); simp only [List.filter_nil, fills]; unfold upAt; (try (have hcq := lit1_conv hvq)); go_simp; (try go_bits); (try simp only [↓IntWalk.iteOmega]); (try (rw [dif_pos (by omega)]; go_simp; try go_bits)); first | exact upOut_value | (apply upOut_call; (go_at_call 78; exact sumS_any _ _ (by omega))) | (apply upOut_eq; (go_at_call 78; exact sumS_any _ _ (by omega))) | (apply upOut_call; (go_at_call 77; exact l4Two_any _ _ (by omega) (by omega))) | (apply upOut_eq; (go_at_call 77; exact l4Two_any _ _ (by omega) (by omega))))
       go_simp; refine hK _ _ ?_; clear hK K)
    | (refine stepU_m (by kernel_rfl) (Lit1 181) (lit1_closed 181) (fun wq hwq => ?_) ?_
       · (have hbq := bcell hwq; (repeat (first | refine fills_no (by rfl) ?_ | refine fills_yes (by rfl) (fun vq hvq => ?_))); simp only [List.filter_nil, fills]; unfold upAt; (try (have hcq := lit1_conv hvq)); go_simp; (try go_bits); (try simp only [↓IntWalk.iteOmega]); (try (rw [dif_pos (by omega)]; go_simp; try go_bits)); exact upOut_make ((Up.refl _).alloc _) (lit1_new _ _))
       refine hK _ _ ?_; clear hK K))
  refine wpUp_nil (fun wq hwq => ?_)
  simp only [fills]
  intro v _
  go_wp2
  go_ret
  exact ⟨rfl, ((Up.refl _).alloc _).trans (U1.trans hwq)⟩

theorem formB_bd {n : Int} {r : Bool} {s : Int} {b : ByteArray} (h : formB n r s b = true) : (0 ≤ n ∧ n ≤ 39) ∧ (1 ≤ s ∧ s ≤ 64) ∧ b.size ≤ 64 := by
  unfold formB at h
  simp only [Bool.and_eq_true, inB_iff] at h
  refine ⟨h.1.1, h.1.2, ?_⟩
  have h3 := h.2
  cases r
  · simp [inB] at h3; omega
  · simp at h3; omega

/-- What FormatBlock returns. -/
def fmtB (n : Int) (r : Bool) (s : Int) (b : ByteArray) : Value := if formB n r s b then .tuple #[.string (textB n r s b), .bool true] else .tuple #[.string ByteArray.empty, .bool false]

set_option maxRecDepth 100000 in
set_option maxHeartbeats 1000000 in
theorem fmtS_any (n : Int) (r : Bool) (s : Int) (b : ByteArray) (w : World) (hb : b.size ≤ 9223372036854775807) :
    Calls Try.prog 16 #[.agg #[.int .i64 n, .bool r, .int .i64 s, .string b]] w (Same (fmtB n r s b) w) := by
  cases hf : formB n r s b
  · have e : fmtB n r s b = .tuple #[.string ByteArray.empty, .bool false] := by unfold fmtB; rw [hf]; rfl
    rw [e]
    go_enter Try.func16, Try.ntmps16
    go_wp2_with (go_at_call 57; refine (l5Form_any _ _ _ _ _ hb).mono ?_; rintro e w1 ⟨rfl, U1⟩)
    go_ret2
    exact ⟨rfl, ((Up.refl _).alloc _).trans U1⟩
  · have e : fmtB n r s b = .tuple #[.string (textB n r s b), .bool true] := by unfold fmtB; rw [hf]; rfl
    rw [e]
    obtain ⟨h1, h2, h3⟩ := formB_bd hf
    go_enter Try.func16, Try.ntmps16
    go_wp2_with (first | (go_at_call 57; refine (l5Form_any _ _ _ _ _ hb).mono ?_; rintro e w1 ⟨rfl, U1⟩; have B1 := bcell U1) | (go_at_call 58; refine (l5Text_any _ _ _ _ _ h1 h2 h3).mono ?_; rintro e w2 ⟨rfl, U2⟩))
    go_ret2
    exact ⟨rfl, ((Up.refl _).alloc _).trans (U1.trans U2)⟩

set_option maxRecDepth 100000 in
set_option maxHeartbeats 2000000 in
theorem fmtI_any (n : Int) (r : Bool) (s : Int) (b : ByteArray) (w : World) (hb : b.size ≤ 9223372036854775807) :
    Calls Try.prog 15 #[.agg #[.int .i64 n, .bool r, .int .i64 s, .string b]] w (Same (fmtB n r s b) w) := by
  cases hf : formB n r s b
  · have e : fmtB n r s b = .tuple #[.string ByteArray.empty, .bool false] := by unfold fmtB; rw [hf]; rfl
    rw [e]
    go_enter Try.func15, Try.ntmps15
    go_wp2_with (go_at_call 54; refine (blockValid_any _ _ _ _ _ hb).mono ?_; rintro e w1 ⟨rfl, U1⟩)
    go_ret2
    exact ⟨rfl, ((Up.refl _).alloc _).trans U1⟩
  · have e : fmtB n r s b = .tuple #[.string (textB n r s b), .bool true] := by unfold fmtB; rw [hf]; rfl
    rw [e]
    obtain ⟨⟨hn, hn'⟩, ⟨hs, hs'⟩, h3⟩ := formB_bd hf
    have z1 := strOfNums_size
    have z2 := two_size
    cases r
    case false =>
      go_enter Try.func15, Try.ntmps15
      go_wp2_with (go_at_call 54; refine (blockValid_any _ _ _ _ _ hb).mono ?_; rintro e w1 ⟨rfl, U1⟩; have B1 := bcell U1)
      refine wp_region_up 18 (by kernel_rfl) (by kernel_rfl) ?_
      simp only [List.take, List.drop]
      repeat (refine wpUp_step (fun K hK => ?_); go_simp; (try simp only [↓IntWalk.iteOmega]); first
        | (refine hK _ _ ?_; clear hK K)
        | (apply stepU_c
           · intro wq hwq; (have hbq := bcell hwq; (repeat (first | refine fills_no (by rfl) ?_ | refine fills_yes (by rfl) (fun vq hvq => ?_))); simp only [List.filter_nil, fills]; unfold upAt; (try (have hbq2 := bcell (U1.trans hwq))); go_simp; (try go_bits); (try simp only [↓IntWalk.iteOmega]); (try (rw [dif_pos (by omega)]; go_simp; try go_bits)); first | exact upOut_value | (apply upOut_call; (go_at_call 55; exact twoBytes_any _ _ (by omega) (by omega))) | (apply upOut_eq; (go_at_call 55; exact twoBytes_any _ _ (by omega) (by omega))))
           go_simp; refine hK _ _ ?_; clear hK K))
      refine wpUp_nil (fun wq hwq => ?_)
      simp only [fills]
      go_wp2
      have U2 := hwq
      obtain ⟨hbd1, hbd2⟩ := sumOf_bd (inner n false s b)
      have z3 : (inner n false s b).size ≤ 71 := by simp [inner, strOfNums_size, two_size]; omega
      have HI : Hid ((⟨#[1]⟩ : ByteArray) ++ two n ++ two s ++ two b.size ++ b = inner n false s b) := rfl
      rw [HI.out]
      refine wp_region_up 10 (by kernel_rfl) (by kernel_rfl) ?_
      simp only [List.take, List.drop]
      repeat (refine wpUp_step (fun K hK => ?_); go_simp; (try simp only [↓IntWalk.iteOmega]); first
        | (refine hK _ _ ?_; clear hK K)
        | (apply stepU_c
           · intro wq hwq; (have hbq := bcell hwq; (repeat (first | refine fills_no (by rfl) ?_ | refine fills_yes (by rfl) (fun vq hvq => ?_))); simp only [List.filter_nil, fills]; unfold upAt; (try (have hcq := lit1_conv hvq)); go_simp; (try go_bits); (try simp only [↓IntWalk.iteOmega]); (try (rw [dif_pos (by omega)]; go_simp; try go_bits)); first | exact upOut_value | (apply upOut_call; (go_at_call 56; exact sumI_any _ _ (by omega))) | (apply upOut_eq; (go_at_call 56; exact sumI_any _ _ (by omega))) | (apply upOut_call; (go_at_call 55; exact twoBytes_any _ _ (by omega) (by omega))) | (apply upOut_eq; (go_at_call 55; exact twoBytes_any _ _ (by omega) (by omega))))
           go_simp; refine hK _ _ ?_; clear hK K)
        | (refine stepU_m (by kernel_rfl) (Lit1 181) (lit1_closed 181) (fun wq hwq => ?_) ?_
           · (have hbq := bcell hwq; (repeat (first | refine fills_no (by rfl) ?_ | refine fills_yes (by rfl) (fun vq hvq => ?_))); simp only [List.filter_nil, fills]; unfold upAt; (try (have hcq := lit1_conv hvq)); go_simp; (try go_bits); (try simp only [↓IntWalk.iteOmega]); (try (rw [dif_pos (by omega)]; go_simp; try go_bits)); exact upOut_make ((Up.refl _).alloc _) (lit1_new _ _))
           refine hK _ _ ?_; clear hK K))
      refine wpUp_nil (fun wq hwq => ?_)
      simp only [fills]
      intro v _
      go_wp2
      go_ret2
      exact ⟨rfl, ((Up.refl _).alloc _).trans (U1.trans (U2.trans hwq))⟩
    case true =>
      go_enter Try.func15, Try.ntmps15
      go_wp2_with (go_at_call 54; refine (blockValid_any _ _ _ _ _ hb).mono ?_; rintro e w1 ⟨rfl, U1⟩; have B1 := bcell U1)
      refine wp_region_up 18 (by kernel_rfl) (by kernel_rfl) ?_
      simp only [List.take, List.drop]
      repeat (refine wpUp_step (fun K hK => ?_); go_simp; (try simp only [↓IntWalk.iteOmega]); first
        | (refine hK _ _ ?_; clear hK K)
        | (apply stepU_c
           · intro wq hwq; (have hbq := bcell hwq; (repeat (first | refine fills_no (by rfl) ?_ | refine fills_yes (by rfl) (fun vq hvq => ?_))); simp only [List.filter_nil, fills]; unfold upAt; (try (have hbq2 := bcell (U1.trans hwq))); go_simp; (try go_bits); (try simp only [↓IntWalk.iteOmega]); (try (rw [dif_pos (by omega)]; go_simp; try go_bits)); first | exact upOut_value | (apply upOut_call; (go_at_call 55; exact twoBytes_any _ _ (by omega) (by omega))) | (apply upOut_eq; (go_at_call 55; exact twoBytes_any _ _ (by omega) (by omega))))
           go_simp; refine hK _ _ ?_; clear hK K))
      refine wpUp_nil (fun wq hwq => ?_)
      simp only [fills]
      go_wp2
      have U2 := hwq
      obtain ⟨hbd1, hbd2⟩ := sumOf_bd (inner n true s b)
      have z3 : (inner n true s b).size ≤ 71 := by simp [inner, strOfNums_size, two_size]; omega
      have HI : Hid ((⟨#[0]⟩ : ByteArray) ++ two n ++ two s ++ two b.size ++ b = inner n true s b) := rfl
      rw [HI.out]
      refine wp_region_up 10 (by kernel_rfl) (by kernel_rfl) ?_
      simp only [List.take, List.drop]
      repeat (refine wpUp_step (fun K hK => ?_); go_simp; (try simp only [↓IntWalk.iteOmega]); first
        | (refine hK _ _ ?_; clear hK K)
        | (apply stepU_c
           · intro wq hwq; (have hbq := bcell hwq; (repeat (first | refine fills_no (by rfl) ?_ | refine fills_yes (by rfl) (fun vq hvq => ?_))); simp only [List.filter_nil, fills]; unfold upAt; (try (have hcq := lit1_conv hvq)); go_simp; (try go_bits); (try simp only [↓IntWalk.iteOmega]); (try (rw [dif_pos (by omega)]; go_simp; try go_bits)); first | exact upOut_value | (apply upOut_call; (go_at_call 56; exact sumI_any _ _ (by omega))) | (apply upOut_eq; (go_at_call 56; exact sumI_any _ _ (by omega))) | (apply upOut_call; (go_at_call 55; exact twoBytes_any _ _ (by omega) (by omega))) | (apply upOut_eq; (go_at_call 55; exact twoBytes_any _ _ (by omega) (by omega))))
           go_simp; refine hK _ _ ?_; clear hK K)
        | (refine stepU_m (by kernel_rfl) (Lit1 181) (lit1_closed 181) (fun wq hwq => ?_) ?_
           · (have hbq := bcell hwq; (repeat (first | refine fills_no (by rfl) ?_ | refine fills_yes (by rfl) (fun vq hvq => ?_))); simp only [List.filter_nil, fills]; unfold upAt; (try (have hcq := lit1_conv hvq)); go_simp; (try go_bits); (try simp only [↓IntWalk.iteOmega]); (try (rw [dif_pos (by omega)]; go_simp; try go_bits)); exact upOut_make ((Up.refl _).alloc _) (lit1_new _ _))
           refine hK _ _ ?_; clear hK K))
      refine wpUp_nil (fun wq hwq => ?_)
      simp only [fills]
      intro v _
      go_wp2
      go_ret2
      exact ⟨rfl, ((Up.refl _).alloc _).trans (U1.trans (U2.trans hwq))⟩

end Go.Proofs.Ythemmoecocjpjaa

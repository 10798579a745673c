/- Walk of the program's ParseBlock. Conditions: the string's length is below the model's bound. -/
import Derived.Test.YthemmoecocjpjaaParse1
namespace Go.Proofs.Ythemmoecocjpjaa
set_option linter.unusedVariables false
set_option linter.unusedSimpArgs false
open Go.RowKit

theorem headOk_not {s : ByteArray} {k : Nat} (h : headOk s k = false) : parseV s (k : Int) = noBlock := by
  unfold parseV
  rw [if_neg (by omega), show ((k : Int)).toNat = k by omega, if_neg (by unfold parseOk; rw [h]; simp)]
theorem parseV_not {s : ByteArray} {k : Nat} (h : parseOk s k = false) : parseV s (k : Int) = noBlock := by
  unfold parseV
  rw [if_neg (by omega), show ((k : Int)).toNat = k by omega, if_neg (by rw [h]; simp)]
theorem parseV_yes {s : ByteArray} {k : Nat} (h : parseOk s k = true) : parseV s (k : Int) = parsed s k := by
  unfold parseV
  rw [if_neg (by omega), show ((k : Int)).toNat = k by omega, if_pos h]

set_option maxRecDepth 100000 in
set_option maxHeartbeats 1000000 in
theorem parseI_head (s : ByteArray) (at' : Int) (w : World) (hs0 : s.size ≤ 1073741824) (h : at' < 0 ∨ ∃ k : Nat, at' = k ∧ headOk s k = false) :
    Calls Try.prog 17 #[.string s, .int .i64 at'] w (Same noBlock w) := by
  have hs : s.size ≤ 9223372036854775807 := by omega
  unfold noBlock
  rcases h with h | ⟨k, rfl, h⟩
  · go_enter Try.func17, Try.ntmps17
    go_wp2
    exact bodyPost_ret (v := .tuple #[.agg #[.int .i64 0, .bool false, .int .i64 0, .string ByteArray.empty], .int .i64 0, .bool false]) (by simp [results, Try.results17, go_sem]; rfl) rfl ⟨rfl, (Up.refl _).alloc _⟩
  · by_cases h1 : (s.size : Int) - 10 < k
    · go_enter Try.func17, Try.ntmps17
      go_wp2
      exact bodyPost_ret (v := .tuple #[.agg #[.int .i64 0, .bool false, .int .i64 0, .string ByteArray.empty], .int .i64 0, .bool false]) (by simp [results, Try.results17, go_sem]; rfl) rfl ⟨rfl, (Up.refl _).alloc _⟩
    · have hk : k < s.size := by omega
      have hk1 : k + 1 < s.size := by omega
      have e1 := byteAt_get s k hk
      have e2 := byteAt_get s (k + 1) hk1
      simp only [headOk, Bool.and_eq_false_iff, decide_eq_false_iff_not, beq_eq_false_iff_ne] at h
      have b1 := byteAt_bd s k
      have b2 := byteAt_bd s (k + 1)
      have E1 := Lib.hid e1
      have E2 := Lib.hid e2
      by_cases h2 : s[k].toNat = 181
      · have h3 : 1 < s[k + 1].toNat := by omega
        clear h e1 e2
        go_enter Try.func17, Try.ntmps17
        go_wp2
        exact bodyPost_ret (v := .tuple #[.agg #[.int .i64 0, .bool false, .int .i64 0, .string ByteArray.empty], .int .i64 0, .bool false]) (by simp [results, Try.results17, go_sem]; rfl) rfl ⟨rfl, (Up.refl _).alloc _⟩
      · clear h e1 e2
        go_enter Try.func17, Try.ntmps17
        go_wp2
        exact bodyPost_ret (v := .tuple #[.agg #[.int .i64 0, .bool false, .int .i64 0, .string ByteArray.empty], .int .i64 0, .bool false]) (by simp [results, Try.results17, go_sem]; rfl) rfl ⟨rfl, (Up.refl _).alloc _⟩

theorem headOk_yes {s : ByteArray} {k : Nat} (h : headOk s k = true) : k + 10 ≤ s.size ∧ byteAt s k = 181 ∧ byteAt s (k + 1) ≤ 1 := by
  simp only [headOk, Bool.and_eq_true, decide_eq_true_eq, beq_iff_eq] at h
  exact ⟨h.1.1, h.1.2, h.2⟩

set_option maxRecDepth 100000 in
set_option maxHeartbeats 2000000 in
theorem parseI_body (s : ByteArray) (k : Nat) (w : World) (hs0 : s.size ≤ 1073741824) (h : headOk s k = true) :
    Calls Try.prog 17 #[.string s, .int .i64 k] w (Same (if parseOk s k then parsed s k else noBlock) w) := by
  have hs : s.size ≤ 9223372036854775807 := by omega
  obtain ⟨hk10, g1, g2⟩ := headOk_yes h
  have hk : k < s.size := by omega
  have hk1 : k + 1 < s.size := by omega
  have e1 := byteAt_get s k hk
  have e2 := byteAt_get s (k + 1) hk1
  have h2 : s[k].toNat = 181 := by omega
  have h3 : s[k + 1].toNat ≤ 1 := by omega
  have nb := numAt_bd s (k + 6)
  obtain ⟨nb1, nb2⟩ := nb
  by_cases hfit : endAt s k + 2 ≤ s.size
  · obtain ⟨m, hm⟩ : ∃ m : Nat, numAt s (k + 6) = m := ⟨(numAt s (k + 6)).toNat, by omega⟩
    have hE : endAt s k = k + 8 + m := by unfold endAt; rw [hm]; rfl
    have hB : bodyAt s k = s.extract (k + 8) (k + 8 + m) := by unfold bodyAt; rw [hm]; rfl
    have hfit2 : k + 8 + m + 2 ≤ s.size := by omega
    have hN := numberAt_at s (k + 6) (k + 6) m (by omega) hm hs (by omega)
    rw [hm] at nb1 nb2
    obtain ⟨n2, hn2⟩ : ∃ n, n = numAt s (k + 2) := ⟨_, rfl⟩
    obtain ⟨n4, hn4⟩ : ∃ n, n = numAt s (k + 4) := ⟨_, rfl⟩
    have HP : Hid (parseOk s k = (formB n2 (byteAt s (k + 1) == 0) n4 (s.extract (k + 8) (k + 8 + m)) && (sumOf (s.extract (k + 1) (k + 8 + m)) == numAt s (k + 8 + m)))) := by
      unfold Hid parseOk
      rw [h, hE, hB, decide_eq_true hfit2, ← hn2, ← hn4]; rfl
    have HV : Hid (parsed s k = .tuple #[.agg #[.int .i64 n2, .bool (byteAt s (k + 1) == 0), .int .i64 n4, .string (s.extract (k + 8) (k + 8 + m))], .int .i64 ((k : Int) + 8 + m + 2), .bool true]) := by
      unfold Hid parsed; rw [hE, hB, ← hn2, ← hn4, show ((k + 8 + m + 2 : Nat) : Int) = (k : Int) + 8 + m + 2 from by omega]
    have hN2 := numberAt_at s (k + 2) (k + 2) n2 (by omega) hn2.symm hs (by omega)
    have hN4 := numberAt_at s (k + 4) (k + 4) n4 (by omega) hn4.symm hs (by omega)
    have e2' : ((s[k + 1].toNat : Int) == 0) = (byteAt s (k + 1) == 0) := by rw [e2]
    generalize hr : (byteAt s (k + 1) == 0) = r at *
    have hbs : (s.extract (k + 8) (k + 8 + m)).size = m := by simp; omega
    generalize hb : s.extract (k + 8) (k + 8 + m) = b at *
    have hbs' : b.size ≤ 9223372036854775807 := by omega
    clear h g1 g2 e1 e2 hE hB hn2 hn4 hr hm hfit
    cases hf : formB n2 r n4 b
    · rw [HP.out, hf, Bool.false_and, if_neg Bool.false_ne_true]
      unfold noBlock
      go_enter Try.func17, Try.ntmps17
      go_wp2_with (go_at_call 59; (with_reducible refine (hN _).mono ?_); rintro e w1 ⟨rfl, U1⟩; have B1 := bcell U1)
      refine wp_region_up 19 (by kernel_rfl) (by kernel_rfl) ?_
      simp only [List.take, List.drop]
      repeat (refine wpUp_step (fun K hK => ?_); go_simp; (try simp only [↓IntWalk.iteOmega]); first
        | (refine hK _ _ ?_; clear hK K)
        | (apply stepU_c
           · intro wq hwq; (have hbq := bcell hwq; (repeat (first | refine fills_no (by rfl) ?_ | refine fills_yes (by rfl) (fun vq hvq => ?_))); simp only [List.filter_nil, fills]; unfold upAt; (try (skip)); go_simp; (try go_bits); (try simp only [↓IntWalk.iteOmega]); (try (rw [dif_pos (by omega)]; go_simp; try go_bits)); first | exact upOut_value | (apply upOut_call; (go_at_call 59; with_reducible exact hN2 _)) | (apply upOut_eq; (go_at_call 59; with_reducible exact hN2 _)) | (apply upOut_call; (go_at_call 59; with_reducible exact hN4 _)) | (apply upOut_eq; (go_at_call 59; with_reducible exact hN4 _)))
           go_simp; refine hK _ _ ?_; clear hK K)
        | (refine stepU_m (by kernel_rfl) (Boxed w1.heap.size #[.int .i64 0, .bool false, .int .i64 0, .string ⟨#[]⟩] 24) (boxed_closed _ _ _) (fun wq hwq => ?_) ?_
           · (have hbq := bcell hwq; (repeat (first | refine fills_no (by rfl) ?_ | refine fills_yes (by rfl) (fun vq hvq => ?_))); simp only [List.filter_nil, fills]; unfold upAt; (try (skip)); go_simp; (try go_bits); (try simp only [↓IntWalk.iteOmega]); (try (rw [dif_pos (by omega)]; go_simp; try go_bits)); exact upOut_make ((Up.refl _).alloc _) (boxed_new hwq.size))
           refine hK _ _ ?_; clear hK K))
      refine wpUp_nil (fun wq hwq => ?_)
      simp only [fills]
      have U2 := hwq
      have B2 := bcell (U1.trans U2)
      rintro v ⟨q, rfl, hq, hblk⟩
      have Z1 := U1.size
      simp at Z1
      have c0 := box_cell hblk 0
      have c1 := box_cell hblk 1
      have c2 := box_cell hblk 2
      have c3 := box_cell hblk 3
      have f0 := box_free hblk 0
      have f1 := box_free hblk 1
      have f2 := box_free hblk 2
      have f3 := box_free hblk 3
      simp at c0 c1 c2 c3
      have hqn : w.heap.size ≠ q := by omega
      have hqa : (w.alloc (.cells #[.int .i64 0, .bool false, .int .i64 0, .string ⟨#[]⟩] 24)).heap.size ≤ q := by simp; omega
      have hst := box_set (box_set (box_set (box_set hblk 0 (.int .i64 n2)) 1 (.bool r)) 2 (.int .i64 n4)) 3 (.string b)
      simp at hst
      have U2' := ((((U1.trans U2).set hqa (.int .i64 n2) (p := ⟨q, 0, none⟩)).set hqa (.bool r) (p := ⟨q, 1, none⟩)).set hqa (.int .i64 n4) (p := ⟨q, 2, none⟩)).set hqa (.string b) (p := ⟨q, 3, none⟩)
      go_wp2_with (go_at_call 54; (with_reducible refine (blockValid_any _ _ _ _ _ hbs').mono ?_); rintro e w3 ⟨rfl, U3⟩; have B3 := bcell (U2'.trans U3); have C3 := box_cell (box_up U3 hst))
      refine bodyPost_ret (v := .tuple #[.agg #[.int .i64 0, .bool false, .int .i64 0, .string ByteArray.empty], .int .i64 0, .bool false]) (by simp [results, Try.results17, go_sem, B3]; rfl) rfl ⟨rfl, ?_⟩
      exact Up.set (Up.set (Up.set (Up.set (((Up.refl w).alloc _).trans (U2'.trans U3)) (Nat.le_refl _) _) (Nat.le_refl _) _) (Nat.le_refl _) _) (Nat.le_refl _) _
    · have hsm := sumI_any (s.extract (k + 1) (k + 8 + m))
      have hNe := numberAt_at s (k + 8 + m) (k + 8 + m) _ (by omega) rfl hs (by omega)
      have hsz : (s.extract (k + 1) (k + 8 + m)).size ≤ 9223372036854775807 := by simp; omega
      generalize hS : sumOf (s.extract (k + 1) (k + 8 + m)) = S at *
      generalize hM : numAt s (k + 8 + m) = M at *
      by_cases hSM : S = M
      · subst hSM
        rw [HP.out, hf]
        simp only [beq_self_eq_true, Bool.and_self, if_true]
        rw [HV.out]
        go_enter Try.func17, Try.ntmps17
        go_wp2_with (go_at_call 59; (with_reducible refine (hN _).mono ?_); rintro e w1 ⟨rfl, U1⟩; have B1 := bcell U1)
        refine wp_region_up 19 (by kernel_rfl) (by kernel_rfl) ?_
        simp only [List.take, List.drop]
        repeat (refine wpUp_step (fun K hK => ?_); go_simp; (try simp only [↓IntWalk.iteOmega]); first
          | (refine hK _ _ ?_; clear hK K)
          | (apply stepU_c
             · intro wq hwq; (have hbq := bcell hwq; (repeat (first | refine fills_no (by rfl) ?_ | refine fills_yes (by rfl) (fun vq hvq => ?_))); simp only [List.filter_nil, fills]; unfold upAt; (try (skip)); go_simp; (try go_bits); (try simp only [↓IntWalk.iteOmega]); (try (rw [dif_pos (by omega)]; go_simp; try go_bits)); first | exact upOut_value | (apply upOut_call; (go_at_call 59; with_reducible exact hN2 _)) | (apply upOut_eq; (go_at_call 59; with_reducible exact hN2 _)) | (apply upOut_call; (go_at_call 59; with_reducible exact hN4 _)) | (apply upOut_eq; (go_at_call 59; with_reducible exact hN4 _)))
             go_simp; refine hK _ _ ?_; clear hK K)
          | (refine stepU_m (by kernel_rfl) (Boxed w1.heap.size #[.int .i64 0, .bool false, .int .i64 0, .string ⟨#[]⟩] 24) (boxed_closed _ _ _) (fun wq hwq => ?_) ?_
             · (have hbq := bcell hwq; (repeat (first | refine fills_no (by rfl) ?_ | refine fills_yes (by rfl) (fun vq hvq => ?_))); simp only [List.filter_nil, fills]; unfold upAt; (try (skip)); go_simp; (try go_bits); (try simp only [↓IntWalk.iteOmega]); (try (rw [dif_pos (by omega)]; go_simp; try go_bits)); exact upOut_make ((Up.refl _).alloc _) (boxed_new hwq.size))
             refine hK _ _ ?_; clear hK K))
        refine wpUp_nil (fun wq hwq => ?_)
        simp only [fills]
        have U2 := hwq
        have B2 := bcell (U1.trans U2)
        rintro v ⟨q, rfl, hq, hblk⟩
        have Z1 := U1.size
        simp at Z1
        have c0 := box_cell hblk 0
        have c1 := box_cell hblk 1
        have c2 := box_cell hblk 2
        have c3 := box_cell hblk 3
        have f0 := box_free hblk 0
        have f1 := box_free hblk 1
        have f2 := box_free hblk 2
        have f3 := box_free hblk 3
        simp at c0 c1 c2 c3
        have hqn : w.heap.size ≠ q := by omega
        have hqa : (w.alloc (.cells #[.int .i64 0, .bool false, .int .i64 0, .string ⟨#[]⟩] 24)).heap.size ≤ q := by simp; omega
        have hst := box_set (box_set (box_set (box_set hblk 0 (.int .i64 n2)) 1 (.bool r)) 2 (.int .i64 n4)) 3 (.string b)
        simp at hst
        have U2' := ((((U1.trans U2).set hqa (.int .i64 n2) (p := ⟨q, 0, none⟩)).set hqa (.bool r) (p := ⟨q, 1, none⟩)).set hqa (.int .i64 n4) (p := ⟨q, 2, none⟩)).set hqa (.string b) (p := ⟨q, 3, none⟩)
        go_wp2_with (first | (go_at_call 54; (with_reducible refine (blockValid_any _ _ _ _ _ hbs').mono ?_); rintro e w3 ⟨rfl, U3⟩; have B3 := bcell (U2'.trans U3); have C3 := box_cell (box_up U3 hst)) | (go_at_call 56; (with_reducible refine (hsm _ hsz).mono ?_); rintro e w4 ⟨rfl, rfl⟩) | (go_at_call 59; (with_reducible refine (hNe _).mono ?_); rintro e w5 ⟨rfl, U5⟩; have B5 := bcell ((U2'.trans U3).trans U5); have C5 := box_cell (box_up U5 (box_up U3 hst))))
        refine bodyPost_ret (v := .tuple #[.agg #[.int .i64 n2, .bool r, .int .i64 n4, .string b], .int .i64 ((k : Int) + 8 + m + 2), .bool true]) (by simp [results, Try.results17, go_sem, B5]) rfl ⟨rfl, ?_⟩
        exact Up.set (Up.set (Up.set (Up.set (((Up.refl w).alloc _).trans ((U2'.trans U3).trans U5)) (Nat.le_refl _) _) (Nat.le_refl _) _) (Nat.le_refl _) _) (Nat.le_refl _) _
      · have hSMb : (S == M) = false := by simpa using hSM
        rw [HP.out, hf, hSMb, Bool.and_false, if_neg Bool.false_ne_true]
        unfold noBlock
        go_enter Try.func17, Try.ntmps17
        go_wp2_with (go_at_call 59; (with_reducible refine (hN _).mono ?_); rintro e w1 ⟨rfl, U1⟩; have B1 := bcell U1)
        refine wp_region_up 19 (by kernel_rfl) (by kernel_rfl) ?_
        simp only [List.take, List.drop]
        repeat (refine wpUp_step (fun K hK => ?_); go_simp; (try simp only [↓IntWalk.iteOmega]); first
          | (refine hK _ _ ?_; clear hK K)
          | (apply stepU_c
             · intro wq hwq; (have hbq := bcell hwq; (repeat (first | refine fills_no (by rfl) ?_ | refine fills_yes (by rfl) (fun vq hvq => ?_))); simp only [List.filter_nil, fills]; unfold upAt; (try (skip)); go_simp; (try go_bits); (try simp only [↓IntWalk.iteOmega]); (try (rw [dif_pos (by omega)]; go_simp; try go_bits)); first | exact upOut_value | (apply upOut_call; (go_at_call 59; with_reducible exact hN2 _)) | (apply upOut_eq; (go_at_call 59; with_reducible exact hN2 _)) | (apply upOut_call; (go_at_call 59; with_reducible exact hN4 _)) | (apply upOut_eq; (go_at_call 59; with_reducible exact hN4 _)))
             go_simp; refine hK _ _ ?_; clear hK K)
          | (refine stepU_m (by kernel_rfl) (Boxed w1.heap.size #[.int .i64 0, .bool false, .int .i64 0, .string ⟨#[]⟩] 24) (boxed_closed _ _ _) (fun wq hwq => ?_) ?_
             · (have hbq := bcell hwq; (repeat (first | refine fills_no (by rfl) ?_ | refine fills_yes (by rfl) (fun vq hvq => ?_))); simp only [List.filter_nil, fills]; unfold upAt; (try (skip)); go_simp; (try go_bits); (try simp only [↓IntWalk.iteOmega]); (try (rw [dif_pos (by omega)]; go_simp; try go_bits)); exact upOut_make ((Up.refl _).alloc _) (boxed_new hwq.size))
             refine hK _ _ ?_; clear hK K))
        refine wpUp_nil (fun wq hwq => ?_)
        simp only [fills]
        have U2 := hwq
        have B2 := bcell (U1.trans U2)
        rintro v ⟨q, rfl, hq, hblk⟩
        have Z1 := U1.size
        simp at Z1
        have c0 := box_cell hblk 0
        have c1 := box_cell hblk 1
        have c2 := box_cell hblk 2
        have c3 := box_cell hblk 3
        have f0 := box_free hblk 0
        have f1 := box_free hblk 1
        have f2 := box_free hblk 2
        have f3 := box_free hblk 3
        simp at c0 c1 c2 c3
        have hqn : w.heap.size ≠ q := by omega
        have hqa : (w.alloc (.cells #[.int .i64 0, .bool false, .int .i64 0, .string ⟨#[]⟩] 24)).heap.size ≤ q := by simp; omega
        have hst := box_set (box_set (box_set (box_set hblk 0 (.int .i64 n2)) 1 (.bool r)) 2 (.int .i64 n4)) 3 (.string b)
        simp at hst
        have U2' := ((((U1.trans U2).set hqa (.int .i64 n2) (p := ⟨q, 0, none⟩)).set hqa (.bool r) (p := ⟨q, 1, none⟩)).set hqa (.int .i64 n4) (p := ⟨q, 2, none⟩)).set hqa (.string b) (p := ⟨q, 3, none⟩)
        go_wp2_with (first | (go_at_call 54; (with_reducible refine (blockValid_any _ _ _ _ _ hbs').mono ?_); rintro e w3 ⟨rfl, U3⟩; have B3 := bcell (U2'.trans U3); have C3 := box_cell (box_up U3 hst)) | (go_at_call 56; (with_reducible refine (hsm _ hsz).mono ?_); rintro e w4 ⟨rfl, rfl⟩) | (go_at_call 59; (with_reducible refine (hNe _).mono ?_); rintro e w5 ⟨rfl, U5⟩; have B5 := bcell ((U2'.trans U3).trans U5); have C5 := box_cell (box_up U5 (box_up U3 hst))))
        refine bodyPost_ret (v := .tuple #[.agg #[.int .i64 0, .bool false, .int .i64 0, .string ByteArray.empty], .int .i64 0, .bool false]) (by simp [results, Try.results17, go_sem, B5]; rfl) rfl ⟨rfl, ?_⟩
        exact Up.set (Up.set (Up.set (Up.set (((Up.refl w).alloc _).trans ((U2'.trans U3).trans U5)) (Nat.le_refl _) _) (Nat.le_refl _) _) (Nat.le_refl _) _) (Nat.le_refl _) _
  · have hV : (if parseOk s k then parsed s k else noBlock) = noBlock := if_neg (by unfold parseOk; simp [hfit])
    rw [hV]
    unfold noBlock
    have hfit' : (s.size : Int) - 2 < k + 8 + numAt s (k + 6) := by unfold endAt at hfit; omega
    clear h g1 g2 e1 e2 hV hfit
    go_enter Try.func17, Try.ntmps17
    go_wp2_with (go_at_call 59; (with_reducible refine (numberAt_at s (k + 6) (k + 6) _ (by omega) rfl hs (by omega) _).mono ?_); rintro e w1 ⟨rfl, U1⟩; have B1 := bcell U1)
    exact bodyPost_ret (v := .tuple #[.agg #[.int .i64 0, .bool false, .int .i64 0, .string ByteArray.empty], .int .i64 0, .bool false]) (by simp [results, Try.results17, go_sem, B1]; rfl) rfl ⟨rfl, by (repeat (first | exact Up.refl _ | refine Up.alloc ?_ _ | refine Up.drew ?_ | refine Up.set ?_ (by first | exact Nat.le_refl _ | (simp; done) | (simp; omega)) _ | refine Up.trans ?_ (by with_reducible assumption)))⟩

theorem parseI_any (s : ByteArray) (at' : Int) (w : World) (hs0 : s.size ≤ 1073741824) :
    Calls Try.prog 17 #[.string s, .int .i64 at'] w (Same (parseV s at') w) := by
  by_cases h : at' < 0
  · have : parseV s at' = noBlock := by unfold parseV; rw [if_pos h]
    rw [this]; exact parseI_head s at' w hs0 (.inl h)
  · obtain ⟨k, rfl⟩ : ∃ k : Nat, at' = k := ⟨at'.toNat, by omega⟩
    cases hh : headOk s k
    · rw [headOk_not hh]; exact parseI_head s k w hs0 (.inr ⟨k, rfl, hh⟩)
    · have := parseI_body s k w hs0 hh
      cases hp : parseOk s k
      · rw [hp] at this; rw [parseV_not hp]; simpa using this
      · rw [hp] at this; rw [parseV_yes hp]; simpa using this

end Go.Proofs.Ythemmoecocjpjaa

/- Walk of the reference's ParseBlock. Conditions: the string's length is below 2^30. -/
import Derived.Test.YthemmoecocjpjaaParse2
import Derived.Test.YthemmoecocjpjaaBytes
namespace Go.Proofs.Ythemmoecocjpjaa
set_option linter.unusedVariables false
set_option linter.unusedSimpArgs false
open Go.RowKit

set_option maxRecDepth 100000 in
set_option maxHeartbeats 1000000 in
theorem parseS_head (s : ByteArray) (at' : Int) (w : World) (hs0 : s.size ≤ 1073741824) (h : at' < 0 ∨ ∃ k : Nat, at' = k ∧ headOk s k = false) :
    Calls Try.prog 20 #[.string s, .int .i64 at'] w (Same noBlock w) := by
  have hs : s.size ≤ 9223372036854775807 := by omega
  unfold noBlock
  rcases h with h | ⟨k, rfl, h⟩
  · go_enter Try.func20, Try.ntmps20
    go_wp2
    refine bodyPost_ret (v := .tuple #[.agg #[.int .i64 0, .bool false, .int .i64 0, .string ByteArray.empty], .int .i64 0, .bool false]) (by simp [results, Try.results20, go_sem]; rfl) rfl ⟨rfl, ?_⟩
    exact (Up.refl _).alloc _
  · by_cases h1 : (s.size : Int) < k
    · go_enter Try.func20, Try.ntmps20
      go_wp2
      refine bodyPost_ret (v := .tuple #[.agg #[.int .i64 0, .bool false, .int .i64 0, .string ByteArray.empty], .int .i64 0, .bool false]) (by simp [results, Try.results20, go_sem]; rfl) rfl ⟨rfl, ?_⟩
      exact (Up.refl _).alloc _
    by_cases h10 : (s.size : Int) - k < 10
    · go_enter Try.func20, Try.ntmps20
      go_wp2
      refine bodyPost_ret (v := .tuple #[.agg #[.int .i64 0, .bool false, .int .i64 0, .string ByteArray.empty], .int .i64 0, .bool false]) (by simp [results, Try.results20, go_sem]; rfl) rfl ⟨rfl, ?_⟩
      exact (Up.refl _).alloc _
    · have hk : k < s.size := by omega
      have hk1 : k + 1 < s.size := by omega
      have e1 := byteAt_get s k hk
      have e2 := byteAt_get s (k + 1) hk1
      simp only [headOk, Bool.and_eq_false_iff, decide_eq_false_iff_not, beq_eq_false_iff_ne] at h
      have b1 := byteAt_bd s k
      have b2 := byteAt_bd s (k + 1)
      by_cases h2 : s[k].toNat = 181
      · have h3 : 1 < s[k + 1].toNat := by omega
        clear h e1 e2
        go_enter Try.func20, Try.ntmps20
        go_wp2
        refine bodyPost_ret (v := .tuple #[.agg #[.int .i64 0, .bool false, .int .i64 0, .string ByteArray.empty], .int .i64 0, .bool false]) (by simp [results, Try.results20, go_sem]; rfl) rfl ⟨rfl, ?_⟩
        exact (Up.refl _).alloc _
      · clear h e1 e2
        go_enter Try.func20, Try.ntmps20
        go_wp2
        refine bodyPost_ret (v := .tuple #[.agg #[.int .i64 0, .bool false, .int .i64 0, .string ByteArray.empty], .int .i64 0, .bool false]) (by simp [results, Try.results20, go_sem]; rfl) rfl ⟨rfl, ?_⟩
        exact (Up.refl _).alloc _

set_option maxRecDepth 100000 in
set_option maxHeartbeats 2000000 in
theorem parseS_body (s : ByteArray) (k : Nat) (w : World) (hs0 : s.size ≤ 1073741824) (h : headOk s k = true) :
    Calls Try.prog 20 #[.string s, .int .i64 k] w (Same (if parseOk s k then parsed s k else noBlock) w) := by
  have hs : s.size ≤ 9223372036854775807 := by omega
  obtain ⟨hk10, g1, g2⟩ := headOk_yes h
  have hk : k < s.size := by omega
  have hk1 : k + 1 < s.size := by omega
  have e1 := byteAt_get s k hk
  have e2 := byteAt_get s (k + 1) hk1
  have h2 : s[k].toNat = 181 := by omega
  have h3 : s[k + 1].toNat ≤ 1 := by omega
  obtain ⟨nb1, nb2⟩ := numAt_bd s (k + 6)
  have pairAt : ∀ i : Nat, i + 2 ≤ s.size → ∀ v, numAt s i = v → ∀ w, Calls Try.prog 65 #[.string (s.extract i (i + 2))] w (Same (.int .i64 v) w) := by
    intro i hi v hv w
    subst hv
    have := l5Pair_any (s.extract i (i + 2)) w (by simp; omega) (by simp; omega)
    rwa [numAt_extract s i (i + 2) 0 hi (by omega)] at this
  by_cases hfit : endAt s k + 2 ≤ s.size
  · obtain ⟨m, hm⟩ : ∃ m : Nat, numAt s (k + 6) = m := ⟨(numAt s (k + 6)).toNat, by omega⟩
    have hE : endAt s k = k + 8 + m := by unfold endAt; rw [hm]; rfl
    have hB : bodyAt s k = s.extract (k + 8) (k + 8 + m) := by unfold bodyAt; rw [hm]; rfl
    have hfit2 : k + 8 + m + 2 ≤ s.size := by omega
    have hN := pairAt (k + 6) (by omega) m hm
    have hTX := text_at s k m hfit2 hm g1 g2
    rw [hm] at nb1 nb2
    obtain ⟨n2, hn2⟩ : ∃ n, n = numAt s (k + 2) := ⟨_, rfl⟩
    obtain ⟨n4, hn4⟩ : ∃ n, n = numAt s (k + 4) := ⟨_, rfl⟩
    have HP : Hid (parseOk s k = (formB n2 (byteAt s (k + 1) == 0) n4 (s.extract (k + 8) (k + 8 + m)) && (sumOf (s.extract (k + 1) (k + 8 + m)) == numAt s (k + 8 + m)))) := by
      unfold Hid parseOk
      rw [h, hE, hB, decide_eq_true hfit2, ← hn2, ← hn4]; rfl
    have HV : Hid (parsed s k = .tuple #[.agg #[.int .i64 n2, .bool (byteAt s (k + 1) == 0), .int .i64 n4, .string (s.extract (k + 8) (k + 8 + m))], .int .i64 ((k : Int) + 10 + m), .bool true]) := by
      unfold Hid parsed; rw [hE, hB, ← hn2, ← hn4, show ((k + 8 + m + 2 : Nat) : Int) = (k : Int) + 10 + m from by omega]
    have hN2 := pairAt (k + 2) (by omega) n2 hn2.symm
    have hN4 := pairAt (k + 4) (by omega) n4 hn4.symm
    rw [← hn2, ← hn4] at hTX
    have e2' : ((s[k + 1].toNat : Int) == 0) = (byteAt s (k + 1) == 0) := by rw [e2]
    generalize hr : (byteAt s (k + 1) == 0) = r at *
    have hbs : (s.extract (k + 8) (k + 8 + m)).size = m := by simp; omega
    generalize hb : s.extract (k + 8) (k + 8 + m) = b at *
    have hbs' : b.size ≤ 9223372036854775807 := by omega
    clear h g1 g2 e1 e2 hE hB hn2 hn4 hr hm hfit pairAt
    cases hf : formB n2 r n4 b
    · rw [HP.out, hf, Bool.false_and, if_neg Bool.false_ne_true]
      unfold noBlock
      clear hTX
      go_enter Try.func20, Try.ntmps20
      go_wp2_with (go_at_call 65; (with_reducible refine (hN _).mono ?_); rintro e w1 ⟨rfl, U1⟩; have B1 := bcell U1)
      refine wp_region_up 29 (by kernel_rfl) (by kernel_rfl) ?_
      simp only [List.take, List.drop]
      repeat (refine wpUp_step (fun K hK => ?_); go_simp; (try simp only [↓IntWalk.iteOmega]); first
        | (refine hK _ _ ?_; clear hK K)
        | (apply stepU_c
           · intro wq hwq; (have hbq := bcell hwq; (repeat (first | refine fills_no (by rfl) ?_ | refine fills_yes (by rfl) (fun vq hvq => ?_))); simp only [List.filter_nil, fills]; unfold upAt; (try (skip)); go_simp; (try go_bits); (try simp only [↓IntWalk.iteOmega]); (try (rw [dif_pos (by omega)]; go_simp; try go_bits)); first | exact upOut_value | (apply upOut_call; (go_at_call 65; with_reducible exact hN2 _)) | (apply upOut_eq; (go_at_call 65; with_reducible exact hN2 _)) | (apply upOut_call; (go_at_call 65; with_reducible exact hN4 _)) | (apply upOut_eq; (go_at_call 65; with_reducible exact hN4 _)))
           go_simp; refine hK _ _ ?_; clear hK K)
        | (refine stepU_m (by kernel_rfl) (Boxed w1.heap.size #[.int .i64 0, .bool false, .int .i64 0, .string ⟨#[]⟩] 24) (boxed_closed _ _ _) (fun wq hwq => ?_) ?_
           · (have hbq := bcell hwq; (repeat (first | refine fills_no (by rfl) ?_ | refine fills_yes (by rfl) (fun vq hvq => ?_))); simp only [List.filter_nil, fills]; unfold upAt; (try (skip)); go_simp; (try go_bits); (try simp only [↓IntWalk.iteOmega]); (try (rw [dif_pos (by omega)]; go_simp; try go_bits)); exact upOut_make ((Up.refl _).alloc _) (boxed_new hwq.size))
           refine hK _ _ ?_; clear hK K))
      refine wpUp_nil (fun wq hwq => ?_)
      simp only [fills]
      have U2 := hwq
      have B2 := bcell (U1.trans U2)
      rintro v ⟨q, rfl, hq, hblk⟩
      have Z1 := U1.size
      simp at Z1
      have c0 := box_cell hblk 0
      have c1 := box_cell hblk 1
      have c2 := box_cell hblk 2
      have c3 := box_cell hblk 3
      have f0 := box_free hblk 0
      have f1 := box_free hblk 1
      have f2 := box_free hblk 2
      have f3 := box_free hblk 3
      simp at c0 c1 c2 c3
      have hqn : w.heap.size ≠ q := by omega
      have hqa : (w.alloc (.cells #[.int .i64 0, .bool false, .int .i64 0, .string ⟨#[]⟩] 24)).heap.size ≤ q := by simp; omega
      have hst := box_set (box_set (box_set (box_set hblk 0 (.int .i64 n2)) 1 (.bool r)) 2 (.int .i64 n4)) 3 (.string b)
      simp at hst
      have U2' := ((((U1.trans U2).set hqa (.int .i64 n2) (p := ⟨q, 0, none⟩)).set hqa (.bool r) (p := ⟨q, 1, none⟩)).set hqa (.int .i64 n4) (p := ⟨q, 2, none⟩)).set hqa (.string b) (p := ⟨q, 3, none⟩)
      go_wp2
      have FF := hf
      refine wp_region_up 12 (by kernel_rfl) (by kernel_rfl) ?_
      simp only [List.take, List.drop]
      repeat (refine wpUp_step (fun K hK => ?_); go_simp; (try simp only [↓IntWalk.iteOmega]); first
        | (refine hK _ _ ?_; clear hK K)
        | (apply stepU_c
           · intro wq hwq; (have hbq := bcell hwq; (repeat (first | refine fills_no (by rfl) ?_ | refine fills_yes (by rfl) (fun vq hvq => ?_))); simp only [List.filter_nil, fills]; unfold upAt; (try ((have B3 := bcell (U2'.trans hwq); have C3 := box_cell (box_up hwq hst)))); go_simp; (try go_bits); (try simp only [↓IntWalk.iteOmega]); (try (rw [dif_pos (by omega)]; go_simp; try go_bits)); first | exact upOut_value | (apply upOut_call; (go_at_call 57; with_reducible exact l5Form_any _ _ _ _ _ hbs')) | (apply upOut_eq; (go_at_call 57; with_reducible exact l5Form_any _ _ _ _ _ hbs')))
           go_simp; refine hK _ _ ?_; clear hK K))
      refine wpUp_nil (fun wq hwq => ?_)
      simp only [fills]
      have B5 := bcell (U2'.trans hwq)
      have C5 := box_cell (box_up hwq hst)
      go_wp2
      refine bodyPost_ret (v := .tuple #[.agg #[.int .i64 0, .bool false, .int .i64 0, .string ByteArray.empty], .int .i64 0, .bool false]) (by simp [results, Try.results20, go_sem, B5]; rfl) rfl ⟨rfl, ?_⟩
      exact Up.set (Up.set (Up.set (Up.set (((Up.refl w).alloc _).trans (U2'.trans hwq)) (Nat.le_refl _) _) (Nat.le_refl _) _) (Nat.le_refl _) _) (Nat.le_refl _) _
    · obtain ⟨fb1, fb2, fb3⟩ := formB_bd hf
      have hT := fun w => l5Text_any n2 r n4 b w fb1 fb2 fb3
      generalize hS : textB n2 r n4 b = S at *
      generalize hM : s.extract k (k + 10 + m) = M at *
      by_cases hSM : S = M
      · have hsum := hTX.1 hSM
        subst hSM
        rw [HP.out, hf, hsum]
        simp only [beq_self_eq_true, Bool.and_self, if_true]
        rw [HV.out]
        clear hTX hsum fb1 fb2 fb3
        go_enter Try.func20, Try.ntmps20
        go_wp2_with (go_at_call 65; (with_reducible refine (hN _).mono ?_); rintro e w1 ⟨rfl, U1⟩; have B1 := bcell U1)
        refine wp_region_up 29 (by kernel_rfl) (by kernel_rfl) ?_
        simp only [List.take, List.drop]
        repeat (refine wpUp_step (fun K hK => ?_); go_simp; (try simp only [↓IntWalk.iteOmega]); first
          | (refine hK _ _ ?_; clear hK K)
          | (apply stepU_c
             · intro wq hwq; (have hbq := bcell hwq; (repeat (first | refine fills_no (by rfl) ?_ | refine fills_yes (by rfl) (fun vq hvq => ?_))); simp only [List.filter_nil, fills]; unfold upAt; (try (skip)); go_simp; (try go_bits); (try simp only [↓IntWalk.iteOmega]); (try (rw [dif_pos (by omega)]; go_simp; try go_bits)); first | exact upOut_value | (apply upOut_call; (go_at_call 65; with_reducible exact hN2 _)) | (apply upOut_eq; (go_at_call 65; with_reducible exact hN2 _)) | (apply upOut_call; (go_at_call 65; with_reducible exact hN4 _)) | (apply upOut_eq; (go_at_call 65; with_reducible exact hN4 _)))
             go_simp; refine hK _ _ ?_; clear hK K)
          | (refine stepU_m (by kernel_rfl) (Boxed w1.heap.size #[.int .i64 0, .bool false, .int .i64 0, .string ⟨#[]⟩] 24) (boxed_closed _ _ _) (fun wq hwq => ?_) ?_
             · (have hbq := bcell hwq; (repeat (first | refine fills_no (by rfl) ?_ | refine fills_yes (by rfl) (fun vq hvq => ?_))); simp only [List.filter_nil, fills]; unfold upAt; (try (skip)); go_simp; (try go_bits); (try simp only [↓IntWalk.iteOmega]); (try (rw [dif_pos (by omega)]; go_simp; try go_bits)); exact upOut_make ((Up.refl _).alloc _) (boxed_new hwq.size))
             refine hK _ _ ?_; clear hK K))
        refine wpUp_nil (fun wq hwq => ?_)
        simp only [fills]
        have U2 := hwq
        have B2 := bcell (U1.trans U2)
        rintro v ⟨q, rfl, hq, hblk⟩
        have Z1 := U1.size
        simp at Z1
        have c0 := box_cell hblk 0
        have c1 := box_cell hblk 1
        have c2 := box_cell hblk 2
        have c3 := box_cell hblk 3
        have f0 := box_free hblk 0
        have f1 := box_free hblk 1
        have f2 := box_free hblk 2
        have f3 := box_free hblk 3
        simp at c0 c1 c2 c3
        have hqn : w.heap.size ≠ q := by omega
        have hqa : (w.alloc (.cells #[.int .i64 0, .bool false, .int .i64 0, .string ⟨#[]⟩] 24)).heap.size ≤ q := by simp; omega
        have hst := box_set (box_set (box_set (box_set hblk 0 (.int .i64 n2)) 1 (.bool r)) 2 (.int .i64 n4)) 3 (.string b)
        simp at hst
        have U2' := ((((U1.trans U2).set hqa (.int .i64 n2) (p := ⟨q, 0, none⟩)).set hqa (.bool r) (p := ⟨q, 1, none⟩)).set hqa (.int .i64 n4) (p := ⟨q, 2, none⟩)).set hqa (.string b) (p := ⟨q, 3, none⟩)
        go_wp2
        have FF := hf
        refine wp_region_up 12 (by kernel_rfl) (by kernel_rfl) ?_
        simp only [List.take, List.drop]
        repeat (refine wpUp_step (fun K hK => ?_); go_simp; (try simp only [↓IntWalk.iteOmega]); first
          | (refine hK _ _ ?_; clear hK K)
          | (apply stepU_c
             · intro wq hwq; (have hbq := bcell hwq; (repeat (first | refine fills_no (by rfl) ?_ | refine fills_yes (by rfl) (fun vq hvq => ?_))); simp only [List.filter_nil, fills]; unfold upAt; (try ((have B3 := bcell (U2'.trans hwq); have C3 := box_cell (box_up hwq hst)))); go_simp; (try go_bits); (try simp only [↓IntWalk.iteOmega]); (try (rw [dif_pos (by omega)]; go_simp; try go_bits)); first | exact upOut_value | (apply upOut_call; (go_at_call 57; with_reducible exact l5Form_any _ _ _ _ _ hbs')) | (apply upOut_eq; (go_at_call 57; with_reducible exact l5Form_any _ _ _ _ _ hbs')) | (apply upOut_call; (go_at_call 58; with_reducible exact hT _)) | (apply upOut_eq; (go_at_call 58; with_reducible exact hT _)))
             go_simp; refine hK _ _ ?_; clear hK K))
        refine wpUp_nil (fun wq hwq => ?_)
        simp only [fills]
        have B5 := bcell (U2'.trans hwq)
        have C5 := box_cell (box_up hwq hst)
        go_wp2
        refine bodyPost_ret (v := .tuple #[.agg #[.int .i64 n2, .bool r, .int .i64 n4, .string b], .int .i64 ((k : Int) + 10 + m), .bool true]) (by simp [results, Try.results20, go_sem, B5]) rfl ⟨rfl, ?_⟩
        exact Up.set (Up.set (Up.set (Up.set (((Up.refl w).alloc _).trans (U2'.trans hwq)) (Nat.le_refl _) _) (Nat.le_refl _) _) (Nat.le_refl _) _) (Nat.le_refl _) _
      · have hsum : (sumOf (s.extract (k + 1) (k + 8 + m)) == numAt s (k + 8 + m)) = false := by
          cases hx : (sumOf (s.extract (k + 1) (k + 8 + m)) == numAt s (k + 8 + m))
          · rfl
          · exact absurd (hTX.2 (by simpa using hx)) hSM
        rw [HP.out, hf, hsum, Bool.and_false, if_neg Bool.false_ne_true]
        unfold noBlock
        have hSMt : (S.toList == M.toList) = false := ba_ne hSM
        clear hTX hsum fb1 fb2 fb3
        go_enter Try.func20, Try.ntmps20
        go_wp2_with (go_at_call 65; (with_reducible refine (hN _).mono ?_); rintro e w1 ⟨rfl, U1⟩; have B1 := bcell U1)
        refine wp_region_up 29 (by kernel_rfl) (by kernel_rfl) ?_
        simp only [List.take, List.drop]
        repeat (refine wpUp_step (fun K hK => ?_); go_simp; (try simp only [↓IntWalk.iteOmega]); first
          | (refine hK _ _ ?_; clear hK K)
          | (apply stepU_c
             · intro wq hwq; (have hbq := bcell hwq; (repeat (first | refine fills_no (by rfl) ?_ | refine fills_yes (by rfl) (fun vq hvq => ?_))); simp only [List.filter_nil, fills]; unfold upAt; (try (skip)); go_simp; (try go_bits); (try simp only [↓IntWalk.iteOmega]); (try (rw [dif_pos (by omega)]; go_simp; try go_bits)); first | exact upOut_value | (apply upOut_call; (go_at_call 65; with_reducible exact hN2 _)) | (apply upOut_eq; (go_at_call 65; with_reducible exact hN2 _)) | (apply upOut_call; (go_at_call 65; with_reducible exact hN4 _)) | (apply upOut_eq; (go_at_call 65; with_reducible exact hN4 _)))
             go_simp; refine hK _ _ ?_; clear hK K)
          | (refine stepU_m (by kernel_rfl) (Boxed w1.heap.size #[.int .i64 0, .bool false, .int .i64 0, .string ⟨#[]⟩] 24) (boxed_closed _ _ _) (fun wq hwq => ?_) ?_
             · (have hbq := bcell hwq; (repeat (first | refine fills_no (by rfl) ?_ | refine fills_yes (by rfl) (fun vq hvq => ?_))); simp only [List.filter_nil, fills]; unfold upAt; (try (skip)); go_simp; (try go_bits); (try simp only [↓IntWalk.iteOmega]); (try (rw [dif_pos (by omega)]; go_simp; try go_bits)); exact upOut_make ((Up.refl _).alloc _) (boxed_new hwq.size))
             refine hK _ _ ?_; clear hK K))
        refine wpUp_nil (fun wq hwq => ?_)
        simp only [fills]
        have U2 := hwq
        have B2 := bcell (U1.trans U2)
        rintro v ⟨q, rfl, hq, hblk⟩
        have Z1 := U1.size
        simp at Z1
        have c0 := box_cell hblk 0
        have c1 := box_cell hblk 1
        have c2 := box_cell hblk 2
        have c3 := box_cell hblk 3
        have f0 := box_free hblk 0
        have f1 := box_free hblk 1
        have f2 := box_free hblk 2
        have f3 := box_free hblk 3
        simp at c0 c1 c2 c3
        have hqn : w.heap.size ≠ q := by omega
        have hqa : (w.alloc (.cells #[.int .i64 0, .bool false, .int .i64 0, .string ⟨#[]⟩] 24)).heap.size ≤ q := by simp; omega
        have hst := box_set (box_set (box_set (box_set hblk 0 (.int .i64 n2)) 1 (.bool r)) 2 (.int .i64 n4)) 3 (.string b)
        simp at hst
        have U2' := ((((U1.trans U2).set hqa (.int .i64 n2) (p := ⟨q, 0, none⟩)).set hqa (.bool r) (p := ⟨q, 1, none⟩)).set hqa (.int .i64 n4) (p := ⟨q, 2, none⟩)).set hqa (.string b) (p := ⟨q, 3, none⟩)
        go_wp2
        have FF := hf
        refine wp_region_up 12 (by kernel_rfl) (by kernel_rfl) ?_
        simp only [List.take, List.drop]
        repeat (refine wpUp_step (fun K hK => ?_); go_simp; (try simp only [↓IntWalk.iteOmega]); first
          | (refine hK _ _ ?_; clear hK K)
          | (apply stepU_c
             · intro wq hwq; (have hbq := bcell hwq; (repeat (first | refine fills_no (by rfl) ?_ | refine fills_yes (by rfl) (fun vq hvq => ?_))); simp only [List.filter_nil, fills]; unfold upAt; (try ((have B3 := bcell (U2'.trans hwq); have C3 := box_cell (box_up hwq hst)))); go_simp; (try go_bits); (try simp only [↓IntWalk.iteOmega]); (try (rw [dif_pos (by omega)]; go_simp; try go_bits)); first | exact upOut_value | (apply upOut_call; (go_at_call 57; with_reducible exact l5Form_any _ _ _ _ _ hbs')) | (apply upOut_eq; (go_at_call 57; with_reducible exact l5Form_any _ _ _ _ _ hbs')) | (apply upOut_call; (go_at_call 58; with_reducible exact hT _)) | (apply upOut_eq; (go_at_call 58; with_reducible exact hT _)))
             go_simp; refine hK _ _ ?_; clear hK K))
        refine wpUp_nil (fun wq hwq => ?_)
        simp only [fills]
        have B5 := bcell (U2'.trans hwq)
        have C5 := box_cell (box_up hwq hst)
        go_wp2
        refine bodyPost_ret (v := .tuple #[.agg #[.int .i64 0, .bool false, .int .i64 0, .string ByteArray.empty], .int .i64 0, .bool false]) (by simp [results, Try.results20, go_sem, B5]; rfl) rfl ⟨rfl, ?_⟩
        exact Up.set (Up.set (Up.set (Up.set (((Up.refl w).alloc _).trans (U2'.trans hwq)) (Nat.le_refl _) _) (Nat.le_refl _) _) (Nat.le_refl _) _) (Nat.le_refl _) _
  · have hV : (if parseOk s k then parsed s k else noBlock) = noBlock := if_neg (by unfold parseOk; simp [hfit])
    rw [hV]
    unfold noBlock
    have hN := pairAt (k + 6) (by omega) _ rfl
    have hfit' : (s.size : Int) - k - 10 < numAt s (k + 6) := by unfold endAt at hfit; omega
    clear h g1 g2 e1 e2 hV hfit pairAt
    go_enter Try.func20, Try.ntmps20
    go_wp2_with (go_at_call 65; (with_reducible refine (hN _).mono ?_); rintro e w1 ⟨rfl, U1⟩; have B1 := bcell U1)
    refine bodyPost_ret (v := .tuple #[.agg #[.int .i64 0, .bool false, .int .i64 0, .string ByteArray.empty], .int .i64 0, .bool false]) (by simp [results, Try.results20, go_sem, B1]; rfl) rfl ⟨rfl, ?_⟩
    exact Up.set (Up.set (Up.set (Up.set (((Up.refl w).alloc _).trans U1) (Nat.le_refl _) _) (Nat.le_refl _) _) (Nat.le_refl _) _) (Nat.le_refl _) _

theorem parseS_any (s : ByteArray) (at' : Int) (w : World) (hs0 : s.size ≤ 1073741824) :
    Calls Try.prog 20 #[.string s, .int .i64 at'] w (Same (parseV s at') w) := by
  by_cases h : at' < 0
  · have : parseV s at' = noBlock := by unfold parseV; rw [if_pos h]
    rw [this]; exact parseS_head s at' w hs0 (.inl h)
  · obtain ⟨k, rfl⟩ : ∃ k : Nat, at' = k := ⟨at'.toNat, by omega⟩
    cases hh : headOk s k
    · rw [headOk_not hh]; exact parseS_head s k w hs0 (.inr ⟨k, rfl, hh⟩)
    · have := parseS_body s k w hs0 hh
      cases hp : parseOk s k
      · rw [hp] at this; rw [parseV_not hp]; simpa using this
      · rw [hp] at this; rw [parseV_yes hp]; simpa using this

end Go.Proofs.Ythemmoecocjpjaa

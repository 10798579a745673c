/- Texts joined into one: the walks and laws that the last text leans on. Conditions: as each says. -/
import Derived.Test.YtgbakgaegldomaaGreatMFnWriterKnownLawK
import Derived.Test.YtgbakgaegldomaaGreatMFnWriterKnownLawQ
import Derived.Test.YtgbakgaegldomaaGreatMFnWriterKnownLawI

set_option linter.unusedVariables false
set_option linter.unusedSimpArgs false
/- A region whose order is open, whose operations draw or make memory, and one of which appends onto a row that another one has made: walked once in the order of the text. Conditions: those of the theorem wp_region_rk. -/
namespace Go.Proofs.YtgbakgaegldomaaGreat
open Go Go.RowKit
def KpD (wr : World) (rb : Nat) (B : Value) (DD : Nat → Value → World → Prop) (w w' : World) : Prop := (∀ C, RdUp rb B C wr w → RdUp rb B C wr w') ∧ ∀ i v, DD i v w → DD i v w'
def rkR (wr : World) (rb : Nat) (B : Value) (n0 c j0 : Nat) (DD : Nat → Value → World → Prop) (j : Nat) (w w' : World) : Prop := if j = j0 then KpD wr rb B DD w w' else RdUp rb B (if j < n0 then c else 0) w w'
def rkK (wr : World) (rb : Nat) (B : Value) (DD : Nat → Value → World → Prop) (j : Nat) (w w' : World) : Prop := w.grownBy w' (some rb) ∨ KpD wr rb B DD w w'
section
variable {P : Program} {ops : Array Oper}
structure WK (P : Program) (ops : Array Oper) (wr : World) (rb : Nat) (B : Value) (n0 c M j0 : Nat) (DD : Nat → Value → World → Prop) (Z : Act → World → Prop) (l : List Oper) (k : Nat) (E : List Mk) (a : Act) : Prop where
  out : wpG P ops (rkR wr rb B n0 c j0 DD) (rkK wr rb B DD) (rC wr rb B M) Z l k E a
theorem wp_region_rk (n0 j0 rb : Nat) (B : Value) (c N0 : Nat) (DD : Nat → Value → World → Prop) {id : Nat} {Q : Exit → Act → World → Prop} {a : Act} {w : World} {l : List Oper} (hm : P.follows .mixedOrders = true) (hB : flB l.toArray n0 = true) (hr : Rdr rb B w N0)
    (h : WK P l.toArray w rb B n0 c (N0 + c * n0) j0 DD (fun a' w' => wpList P l.toArray (onlyN Q) (l.drop n0) a' w') (l.take n0) 0 [] a) : (Code.region id l.toArray true).wp P Q a w := by
  have T := flB_text hB
  have hle : n0 ≤ l.length := by simpa using T.le
  obtain ⟨D, hU, hT, hZ⟩ := wpF_text (R := rkR w rb B n0 c j0 DD) (Kc := rkK w rb B DD) (C := rC w rb B (N0 + c * n0)) (Z := fun a' w' => wpList P l.toArray (onlyN Q) (l.drop n0) a' w') (a0 := a) (n0 := n0) T (l.take n0) 0 [] a (fun _ => False) (fun _ => undef) (fun _ _ _ => False) (by simp [hle]) (fun j hj => by
    simp only [List.length_take] at hj
    simp [show j < n0 by omega]) ⟨(Desc.refl a (fun _ => undef)).congr (fun i => by simp) (fun _ h => h.elim), fun i hi => absurd hi (Nat.not_lt_zero _), fun m hm => (by cases hm), fun i hi => absurd hi (Nat.not_lt_zero _)⟩
    (fun i hi => absurd hi (Nat.not_lt_zero _)) (fun j o hj => absurd hj (Nat.not_lt_zero _)) h.out
  refine wp_region_any hm (wpAny_gf (R := rkR w rb B n0 c j0 DD) (Kc := rkK w rb B DD) (C := rC w rb B (N0 + c * n0)) (I := fun S w' => ∃ C, RdUp rb B C w w' ∧ C + c * unS n0 S ≤ c * n0) (fun S w' j hI hS => ?_) (fun S w1 w2 j hI hS hR => ?_) (fun j w' => ?_) (fun k j w1 w2 hne hR => ?_) (a0 := a) (Q := Q) (Q' := onlyN Q) T (fun _ _ h => h) (fun _ _ _ h => h) onlyN_out hU hT (by simpa using hZ) _ (List.range n0) _ a _ (fun _ => undef) (by simp; omega) (fun i hi _ => List.mem_range.2 hi) (fun i hi => ?_) (by simp) (fun i hi his => by
    have : i < l.length := by simpa using his
    simp [this]) (fun j o ho hj => ?_) ?_ ?_ ?_)
  · obtain ⟨C, h1, h2⟩ := hI
    exact ⟨h1.1, (h1.2 _ hr).mono (by omega)⟩
  · obtain ⟨C, h1, h2⟩ := hI
    unfold rkR at hR
    by_cases hj0 : j = j0
    · rw [if_pos hj0] at hR
      refine ⟨C, hR.1 C h1, ?_⟩
      by_cases hj : j < n0
      · have := unS_less hj hS
        rw [← this, Nat.mul_add, Nat.mul_one] at h2
        omega
      · rw [unS_same (by omega)]
        omega
    · rw [if_neg hj0] at hR
      refine ⟨_, h1.trans hR, ?_⟩
      by_cases hj : j < n0
      · rw [if_pos hj]
        have := unS_less hj hS
        rw [← this, Nat.mul_add, Nat.mul_one] at h2
        omega
      · rw [if_neg hj, unS_same (by omega)]
        omega
  · unfold rkR
    split
    · exact ⟨fun _ h => h, fun _ _ h => h⟩
    · exact RdUp.refl _ _ _ _
  · unfold rkR at hR
    split at hR
    · exact .inr hR
    · exact .inl hR.1
  · have hin := List.mem_range.1 hi
    have : i < l.length := by omega
    exact ⟨hin, by simp [this]⟩
  · rw [getD_replicate_false] at hj; cases hj
  · have hu := Up.drew (Up.refl w)
    have := unS_le n0 (fun i => ((Array.replicate l.toArray.size false).getD i false = true))
    refine ⟨0, RdUp.of hu, ?_⟩
    have := Nat.mul_le_mul_left c this
    omega
  · exact (Desc.refl a (fun _ => undef)).congr (fun i => by rw [getD_replicate_false]; simp) (fun _ h => h.elim)
  · intro i hi; rw [getD_replicate_false] at hi; cases hi
section
variable {wr : World} {rb : Nat} {B : Value} {n0 c M j0 : Nat} {DD : Nat → Value → World → Prop} {Z : Act → World → Prop} {o : Oper} {rest : List Oper} {k : Nat} {E : List Mk} {a : Act}
def stepK (P : Program) (ops : Array Oper) (wr : World) (rb : Nat) (B : Value) (n0 c M j0 : Nat) (DD : Nat → Value → World → Prop) (E : List Mk) (k : Nat) (o : Oper) (a : Act) (K : List Mk → Act → Prop) : Prop :=
  (∃ v, (∀ w, rC wr rb B M k w → fills (E.filter fun m => waitsB o m.1) a w (fun a' => gAt P (rkR wr rb B n0 c j0 DD k) o a' w (fun v' _ => v' = v))) ∧ K E (a.put o.dst v)) ∨
  (∃ D, guardFree ops k = true ∧ (∀ v w w', D v w → rkK wr rb B DD k w w' → D v w') ∧ (∀ w, rC wr rb B M k w → fills (E.filter fun m => waitsB o m.1) a w (fun a' => gAt P (rkR wr rb B n0 c j0 DD k) o a' w D)) ∧ K ((k, o.dst, D) :: E) a)
theorem wpK_step (h : ∀ K : List Mk → Act → Prop, (∀ E a, WK P ops wr rb B n0 c M j0 DD Z rest (k + 1) E a → K E a) → if Region.wanted o (yielded ops a.tmps) then stepK P ops wr rb B n0 c M j0 DD E k o a K else K E (a.put o.dst undef)) : WK P ops wr rb B n0 c M j0 DD Z (o :: rest) k E a := by
  have := h (fun E a => wpG P ops (rkR wr rb B n0 c j0 DD) (rkK wr rb B DD) (rC wr rb B M) Z rest (k + 1) E a) fun _ _ h => h.out
  refine ⟨?_⟩
  unfold wpG
  exact this
theorem rkR_ne (hk : (k == j0) = false) {w w' : World} (h : Up w w') : rkR wr rb B n0 c j0 DD k w w' := by
  have hk' : ¬ k = j0 := by simpa using hk
  unfold rkR
  rw [if_neg hk']
  exact RdUp.of h
theorem stepK_c {K : List Mk → Act → Prop} (hk : (k == j0) = false) (v : Value) (h1 : ∀ w, wr.grownBy w (some rb) → Rdr rb B w M → fills (E.filter fun m => waitsB o m.1) a w (fun a' => upAt P o a' w (fun v' _ => v' = v))) (h2 : K E (a.put o.dst v)) : stepK P ops wr rb B n0 c M j0 DD E k o a K :=
  .inl ⟨v, fun w hC => fills_mono (fun a' h => gAt_rd (fun w' h => rkR_ne hk h) (gAt_up h)) (h1 w hC.1 hC.2), h2⟩
theorem stepK_m {K : List Mk → Act → Prop} (hk : (k == j0) = false) (hg : guardFree ops k = true) (D : Value → World → Prop) (hD : ∀ v w w', D v w → rkK wr rb B DD k w w' → D v w')
    (h1 : ∀ w, wr.grownBy w (some rb) → Rdr rb B w M → fills (E.filter fun m => waitsB o m.1) a w (fun a' => upAt P o a' w D)) (h2 : K ((k, o.dst, D) :: E) a) : stepK P ops wr rb B n0 c M j0 DD E k o a K :=
  .inr ⟨D, hg, hD, fun w hC => fills_mono (fun a' h => gAt_rd (fun w' h => rkR_ne hk h) (gAt_up h)) (h1 w hC.1 hC.2), h2⟩
theorem stepK_at {K : List Mk → Act → Prop} (j : Nat) (hj : (k == j) = true) (hk : (k == j0) = false) (hg : guardFree ops k = true) (D : Value → World → Prop) (hD : ∀ v w w', D v w → rkK wr rb B DD k w w' → D v w')
    (h1 : ∀ w, wr.grownBy w (some rb) → Rdr rb B w M → fills (E.filter fun m => waitsB o m.1) a w (fun a' => upAt P o a' w D)) (h2 : K ((k, o.dst, D) :: E) a) : stepK P ops wr rb B n0 c M j0 DD E k o a K := stepK_m hk hg D hD h1 h2
theorem stepK_d {K : List Mk → Act → Prop} (hkj : (k == j0) = false) (hk : decide (k < n0) = true) (hg : guardFree ops k = true) (D : Value → World → Prop) (hD : ∀ v w w', D v w → rkK wr rb B DD k w w' → D v w')
    (h1 : ∀ w, wr.grownBy w (some rb) → Rdr rb B w M → fills (E.filter fun m => waitsB o m.1) a w (fun a' => gAt P (RdUp rb B c) o a' w D)) (h2 : K ((k, o.dst, D) :: E) a) : stepK P ops wr rb B n0 c M j0 DD E k o a K := by
  refine .inr ⟨D, hg, hD, fun w hC => ?_, h2⟩
  have e : rkR wr rb B n0 c j0 DD k = RdUp rb B c := by
    funext w w'; unfold rkR; rw [if_neg (by simpa using hkj), if_pos (of_decide_eq_true hk)]
  rw [e]
  exact h1 w hC.1 hC.2
theorem stepK_own {K : List Mk → Act → Prop} (hk : (k == j0) = true) (hg : guardFree ops k = true) (D : Value → World → Prop) (hD : ∀ v w w', D v w → rkK wr rb B DD k w w' → D v w')
    (h1 : ∀ w, wr.grownBy w (some rb) → Rdr rb B w M → fills (E.filter fun m => waitsB o m.1) a w (fun a' => gAt P (KpD wr rb B DD) o a' w D)) (h2 : K ((k, o.dst, D) :: E) a) : stepK P ops wr rb B n0 c M j0 DD E k o a K := by
  refine .inr ⟨D, hg, hD, fun w hC => ?_, h2⟩
  have e : rkR wr rb B n0 c j0 DD k = KpD wr rb B DD := by
    funext w w'; unfold rkR; rw [if_pos (by simpa using hk)]
  rw [e]
  exact h1 w hC.1 hC.2
theorem wpK_nil (h : ∀ w, wr.grownBy w (some rb) → Rdr rb B w M → fills E a w (fun a' => Z a' w)) : WK P ops wr rb B n0 c M j0 DD Z [] k E a := ⟨fun w hC => h w hC.1 hC.2⟩
theorem fills_same {w : World} {K : Act → Prop} (t : Tmp) : ∀ (L : List Mk) (a : Act), (∀ m ∈ L, m.2.1 ≠ some t) → (∀ a', a'.tmps.getD t undef = a.tmps.getD t undef → K a') → fills L a w K
  | [], a, _, h => h a rfl
  | (k, d, D) :: L, a, hL, h => fun v hv => fills_same t L (a.put d v) (fun m hm => hL m (List.mem_cons_of_mem _ hm)) (fun a' ha => h a' (ha.trans (by
      have hd : d ≠ some t := hL (k, d, D) (List.mem_cons_self ..)
      cases d with
      | none => rfl
      | some u =>
        have hu : u ≠ t := fun e => hd (by rw [e])
        simp [Act.put, Array.getD_eq_getD_getElem?, Array.getElem?_setIfInBounds, hu])))
theorem not_dst {E : List Mk} {p : Mk → Bool} {t : Tmp} (h : some t ∉ E.map (fun m => m.2.1)) : ∀ m ∈ E.filter p, m.2.1 ≠ some t := fun m hm e => h (List.mem_map.2 ⟨m, (List.mem_filter.1 hm).1, e⟩)
theorem fills_get {w : World} {K : Act → Prop} : ∀ (L : List Mk) (a : Act), (L.map (fun m => m.2.1)).Nodup → (∀ a', (∀ m ∈ L, ∀ t, m.2.1 = some t → t < a.tmps.size → m.2.2 (a'.tmps.getD t undef) w) → (∀ t, (∀ m ∈ L, m.2.1 ≠ some t) → a'.tmps.getD t undef = a.tmps.getD t undef) → K a') → fills L a w K
  | [], a, _, h => h a (fun m hm => by cases hm) (fun _ _ => rfl)
  | (k, d, D) :: L, a, hn, h => fun v hv => by
    simp only [List.map_cons, List.nodup_cons, List.mem_map, not_exists, not_and] at hn
    have hput : ∀ t, d ≠ some t → (a.put d v).tmps.getD t undef = a.tmps.getD t undef := fun t hd => by
      cases d with
      | none => rfl
      | some u =>
        have hu : u ≠ t := fun e => hd (by rw [e])
        simp [Act.put, Array.getD_eq_getD_getElem?, Array.getElem?_setIfInBounds, hu]
    have hsz : (a.put d v).tmps.size = a.tmps.size := by
      cases d with
      | none => rfl
      | some u => simp [Act.put]
    refine fills_get L (a.put d v) hn.2 (fun a' h1 h2 => h a' (fun m hm t ht hlt => ?_) (fun t ht => ?_))
    · rcases List.mem_cons.1 hm with rfl | hm
      · have ht : d = some t := ht
        subst ht
        have hne : ∀ m ∈ L, m.2.1 ≠ some t := fun m hm e => hn.1 m hm e
        rw [h2 t hne]
        have : (a.put (some t) v).tmps.getD t undef = v := by simp [Act.put, Array.getD_eq_getD_getElem?, Array.getElem?_setIfInBounds, hlt]
        rw [this]
        exact hv
      · exact h1 m hm t ht (by rw [hsz]; exact hlt)
    · rw [h2 t (fun m hm => ht m (List.mem_cons_of_mem _ hm)), hput t (ht (k, d, D) (List.mem_cons_self ..))]
theorem run_append_split (base : Nat) (t ty e : TypeId) (i : TypeInfo) (z : Value) (size bytes : Nat) (ht : P.underlying t = some (.slice e)) (hi : P.info? e = some i) (hz : i.zero = some z)
    (hsize : i.size = size) (hby : i.bytes = bytes) (hzs : z.cells.size = size) (hsz : 0 < size)
    (w : World) (v : Value) (n : Nat) (xs : List Value) (hown : w.ownsRow base e size v n xs)
    (ad : Addr) (m c : Nat) (news : List Value) (hl : news.length = m * size) (hnews : ∀ j u, news[j]? = some u → w.cell? (ad.add j) = some u) (h1 : ∀ u ∈ news, u.oneCell' = true)
    (h63 : n + m ≤ maxLen) (hbytes : (n + m) * bytes ≤ 140737488355328) {v' : Value} {w' : World} (hr : (Builtin.append_ #[t, t] ty #[v, .slice (some ad) m c]).run P w = .ok v' w') :
    Up w w' ∨ ∃ g cap, v = .slice (some ⟨g, 0, none⟩) n cap ∧ v' = .slice (some ⟨g, 0, none⟩) (n + m) cap := by
  subst hsize hby
  rcases hown.2 with ⟨rfl, rfl⟩ | ⟨g, cap, cur, rfl, hbg, hg, hnc, hcm, hcs, htake⟩
  · have hx : xs = [] := List.eq_nil_of_length_eq_zero (by simpa using hown.1)
    subst hx
    obtain ⟨v2, w2, hr2, h2, h3, -⟩ := run_append_own (P := P) w w.heap.size t ty e i z i.size i.bytes ht hi hz rfl rfl hzs hsz (.slice none 0 0) 0 [] (World.ownsRow_nil _ _ _ _) ad m c news hl hnews h1 h63 hbytes (Nat.le_refl _)
    rw [hr] at hr2
    simp only [Result.ok.injEq] at hr2
    obtain ⟨rfl, rfl⟩ := hr2
    exact .inl (Up.grown (Up.refl w) h3 (fun k hk => by cases hk))
  · by_cases hroom : n + m ≤ cap
    · have hfit : n * i.size + news.length ≤ cur.size := by rw [hl, hcs, ← Nat.add_mul]; exact Nat.mul_le_mul_right _ hroom
      have hr2 := run_append_room (P := P) w t ty e i ht hi g n cap cur hg ad m c news hl hnews h1 hroom hfit
      rw [hr] at hr2
      simp only [Result.ok.injEq] at hr2
      obtain ⟨rfl, -⟩ := hr2
      exact .inr ⟨g, cap, rfl, rfl⟩
    · have hr2 := run_append_grow (P := P) w t ty e i z ht hi hz ⟨g, 0, none⟩ n cap xs hown.1 (hown.cells (g := g) rfl) ad m c news hl hnews (by omega) (by unfold maxLen at h63; omega) (growslice_fits (by omega) hbytes)
      rw [hr] at hr2
      simp only [Result.ok.injEq] at hr2
      obtain ⟨-, rfl⟩ := hr2
      exact .inl (((Up.refl _).drew).alloc _)
theorem ownsRow_inplace {w w' : World} {base base2 : Nat} {e : TypeId} {size n m cap : Nat} {g : Nat} {xs news : List Value} (hsz : 0 < size) (hown : w.ownsRow base e size (.slice (some ⟨g, 0, none⟩) n cap) n xs) (hown' : w'.ownsRow base e size (.slice (some ⟨g, 0, none⟩) (n + m) cap) (n + m) (xs ++ news)) (hg : w.grownBy w' (some g))
    {u : Value} {p : Nat} {ys : List Value} (hu : w.ownsRow base2 e size u p ys) : (p ≤ n → w'.ownsRow base2 e size u p ys) ∧ (p = n + m → w'.ownsRow base2 e size u p ys ∨ w'.ownsRow base2 e size u p (xs ++ news)) := by
  by_cases hb : u.ownBlock = some g
  · obtain ⟨hxl, hx⟩ := hown
    obtain ⟨hul, hx2⟩ := hu
    rcases hx2 with ⟨rfl, -⟩ | ⟨g2, c2, cur2, rfl, hbg2, hg2, hnc2, hcm2, hcs2, ht2⟩
    · cases hb
    · simp only [Value.ownBlock, Option.some.injEq] at hb
      subst hb
      rcases hx with ⟨h, -⟩ | ⟨g3, c3, cur3, h3, hbg3, hg3, hnc3, hcm3, hcs3, ht3⟩
      · cases h
      · simp only [Value.slice.injEq, Option.some.injEq, Addr.mk.injEq, and_true] at h3
        obtain ⟨rfl, -, rfl⟩ := h3
        rw [hg2] at hg3
        simp only [Option.some.injEq, Obj.cells.injEq, and_true] at hg3
        obtain ⟨rfl, -⟩ := hg3
        have hcc : c2 = cap := by
          have := hcs2.symm.trans hcs3
          exact Nat.eq_of_mul_eq_mul_right hsz this
        subst hcc
        obtain ⟨hxl', hx'⟩ := hown'
        rcases hx' with ⟨h, -⟩ | ⟨g4, c4, cur4, h4, hbg4, hg4, hnc4, hcm4, hcs4, ht4⟩
        · cases h
        · simp only [Value.slice.injEq, Option.some.injEq, Addr.mk.injEq, and_true] at h4
          obtain ⟨rfl, -, rfl⟩ := h4
          refine ⟨fun hp => ⟨hul, .inr ⟨g2, c2, cur4, rfl, hbg2, hg4, hnc2, hcm2, hcs4, ?_⟩⟩, fun hp => .inr ⟨by rw [hp]; exact hxl', .inr ⟨g2, c2, cur4, rfl, hbg2, hg4, hnc2, hcm2, hcs4, by rw [hp]; exact ht4⟩⟩⟩
          have hpm : p * size ≤ n * size := Nat.mul_le_mul_right _ hp
          have hpm2 : p * size ≤ (n + m) * size := Nat.mul_le_mul_right _ (by omega)
          have e1 : cur4.toList.take (p * size) = (xs ++ news).take (p * size) := by rw [← ht4, List.take_take]; congr 1; omega
          rw [e1, List.take_append_of_le_length (by omega), ← ht3, List.take_take, ← ht2]
          congr 1
          omega
  · have := hu.kept hg (by
      cases hv : u.ownBlock with
      | none => exact .inl rfl
      | some y => exact .inr fun e => hb (by rw [hv, e]))
    exact ⟨fun _ => this, fun _ => .inl this⟩
theorem ownsRow_otype {w w' : World} {base base2 : Nat} {e e2 : TypeId} {size size2 n cap : Nat} {g : Nat} {xs : List Value} (hne : e2 ≠ e) (hown : w.ownsRow base e size (.slice (some ⟨g, 0, none⟩) n cap) n xs) (hg : w.grownBy w' (some g))
    {u : Value} {p : Nat} {ys : List Value} (hu : w.ownsRow base2 e2 size2 u p ys) : w'.ownsRow base2 e2 size2 u p ys := by
  have hno : u.ownBlock ≠ some g := fun hv => by
    rcases hown.2 with ⟨h, -⟩ | ⟨g3, c3, cur3, h3, hbg3, hg3, -⟩
    · cases h
    · simp only [Value.slice.injEq, Option.some.injEq, Addr.mk.injEq, and_true] at h3
      obtain ⟨rfl, -, rfl⟩ := h3
      rcases hu.2 with ⟨rfl, -⟩ | ⟨g2, c2, cur2, rfl, hbg2, hg2, -⟩
      · cases hv
      · simp only [Value.ownBlock, Option.some.injEq] at hv
        subst hv
        rw [hg2] at hg3
        simp only [Option.some.injEq, Obj.cells.injEq, and_true] at hg3
        exact hne hg3.2
  exact hu.kept hg (by
    cases hv : u.ownBlock with
    | none => exact .inl rfl
    | some y => exact .inr fun e => hno (by rw [hv, e]))
end
end
def DDp (base : Nat) (ps : List PairD) (Y : PairD → Prop) (L : List Value) (i : Nat) (v : Value) (w : World) : Prop :=
  match i with
  | 0 => MtP base v w
  | 1 => w.ownsRow base 3 1 v L.length L
  | 3 => ownPr w base v ps
  | 7 => ∃ q, Y q ∧ w.ownsRow base 118 2 v 1 (prC q)
  | 8 => ∃ q, Y q ∧ ownPr w base v (ps ++ [q])
  | _ => True
theorem ddp_grown {rb base : Nat} {ps : List PairD} {Y : PairD → Prop} {L : List Value} (hb : rb < base) (i : Nat) (v : Value) (w w' : World) (h : DDp base ps Y L i v w) (hg : w.grownBy w' (some rb)) : DDp base ps Y L i v w' := by
  unfold DDp at *
  split at h
  · obtain ⟨g, h1, h2⟩ := h
    exact ⟨g, h1, own_rd h2 hb hg⟩
  · exact own_rd h hb hg
  · exact own_rd h hb hg
  · obtain ⟨q, h1, h2⟩ := h
    exact ⟨q, h1, own_rd h2 hb hg⟩
  · obtain ⟨q, h1, h2⟩ := h
    exact ⟨q, h1, own_rd h2 hb hg⟩
  · trivial
theorem ddp_closed {wr : World} {rb base : Nat} {B : Value} {ps : List PairD} {Y : PairD → Prop} {L : List Value} (hb : rb < base) (i k : Nat) : ∀ v w w', DDp base ps Y L i v w → rkK wr rb B (DDp base ps Y L) k w w' → DDp base ps Y L i v w' := fun v w w' h hk => hk.elim (ddp_grown hb i v w w' h) (fun hp => hp.2 i v h)
theorem ddp_pair {base : Nat} {ps : List PairD} {Y : PairD → Prop} {L : List Value} {w : World} (q : PairD) (hq : Y q) (hb : base ≤ w.heap.size) : DDp base ps Y L 7 (.slice (some ⟨w.heap.size, 0, none⟩) 1 1) (w.alloc (.cells #[.int .i64 q.pre, .int .i64 q.byt] 118)) :=
  ⟨q, hq, rfl, .inr ⟨w.heap.size, 1, #[.int .i64 q.pre, .int .i64 q.byt], rfl, hb, (MapKept.heap_alloc w _).1, Nat.le_refl _, by unfold maxLen; omega, rfl, rfl⟩⟩
theorem ddp_ints {base : Nat} {ps : List PairD} {Y : PairD → Prop} {w : World} (x y : Int) (hb : base ≤ w.heap.size) : DDp base ps Y [.int .i64 x, .int .i64 y] 1 (.slice (some ⟨w.heap.size, 0, none⟩) 2 2) (w.alloc (.cells #[.int .i64 x, .int .i64 y] 3)) :=
  ⟨rfl, .inr ⟨w.heap.size, 2, #[.int .i64 x, .int .i64 y], rfl, hb, (MapKept.heap_alloc w _).1, Nat.le_refl _, by unfold maxLen; omega, rfl, rfl⟩⟩
theorem ddp_rd {rb base : Nat} {ps : List PairD} {Y : PairD → Prop} {w : World} {v : Value} {x y : Int} (h : DDp base ps Y [.int .i64 x, .int .i64 y] 1 v w) (hb : rb < base) : RdInts rb w v [x, y] := by
  have h : w.ownsRow base 3 1 v 2 [.int .i64 x, .int .i64 y] := h
  rcases h.2 with ⟨-, h'⟩ | ⟨g, cap, cur, rfl, hbg, hg, hnc, hcm, -⟩
  · cases h'
  · have hc := h.cells (g := g) rfl
    refine ⟨g, 0, cap, rfl, hnc, hcm, (Array.getElem?_eq_some_iff.1 hg).1, by omega, fun i z hz => ?_⟩
    have := hc i (.int .i64 z) (by
      match i, hz with
      | 0, hz => simpa using hz
      | 1, hz => simpa using hz)
    have hadd : (⟨g, 0, none⟩ : Addr).add i = ⟨g, i, none⟩ := by unfold Addr.add; split <;> simp_all
    rw [hadd] at this
    rw [Nat.zero_add]
    exact this
theorem gAt_append_keep {o : Oper} {a : Act} {wr w : World} {rb : Nat} {B : Value} {Y : PairD → Prop} {L : List Value} (s x : Operand) (ho : o.op = .call { callee := .builtin .append, args := #[s, x], argTypes := #[25, 25] })
    (v u : Value) (ps : List PairD) (hs : a.eval s = v) (hown : DDp wr.heap.size ps Y L 3 v w) (hx : a.eval x = u) (hu : DDp wr.heap.size ps Y L 7 u w) (hl : ps.length ≤ 1048576) (hrb : rb < wr.heap.size) (hbase : wr.heap.size ≤ w.heap.size) :
    gAt Tryz.prog (KpD wr rb B (DDp wr.heap.size ps Y L)) o a w (DDp wr.heap.size ps Y L 8) := by
  obtain ⟨i0, hi, hz0, hz1, hz2⟩ := info_parts infoPair
  obtain ⟨q, hq, hqo⟩ := hu
  have hown : ownPr w wr.heap.size v ps := hown
  obtain ⟨ax, cx, rfl⟩ := ownsRow_shape hqo
  rcases hqo.2 with ⟨h, h'⟩ | ⟨g0, c0, cur0, h0, hbg0, hg0, hnc0, hcm0, hcs0, ht0⟩
  · cases h'
  simp only [Value.slice.injEq] at h0
  obtain ⟨rfl, -, rfl⟩ := h0
  have hnews : ∀ j z, (prC q)[j]? = some z → w.cell? ((⟨g0, 0, none⟩ : Addr).add j) = some z := by
    intro j z hz
    exact hqo.cells (g := g0) rfl j z hz
  obtain ⟨v', w', hr, h2, h3, h4⟩ := run_append_own (P := Tryz.prog) w wr.heap.size 25 o.type 118 i0 (.agg #[.int .i64 0, .int .i64 0]) 2 16 Tryz.underlying25 hi hz0 hz1 hz2 rfl (by decide) v ps.length (cellsPr ps) hown ⟨g0, 0, none⟩ 1 cx (prC q) rfl hnews (prC_one q) (by unfold maxLen; omega) (by omega) hbase
  have hsp := run_append_split (P := Tryz.prog) wr.heap.size 25 o.type 118 i0 (.agg #[.int .i64 0, .int .i64 0]) 2 16 Tryz.underlying25 hi hz0 hz1 hz2 rfl (by decide) w v ps.length (cellsPr ps) hown ⟨g0, 0, none⟩ 1 cx (prC q) rfl hnews (prC_one q) (by unfold maxLen; omega) (by omega) hr
  unfold gAt execOp
  simp only [ho, resolve, invoke, builtin, Sem.run_bind, Sem.run_pure, Result.andThen_ok, List.map_toArray, List.map_cons, List.map_nil, hs, hx, hr]
  have h8 : ownPr w' wr.heap.size v' (ps ++ [q]) := by unfold ownPr; rw [cellsPr_snoc, List.length_append]; exact h2
  refine ⟨⟨fun C hC => ?_, fun i z hz => ?_⟩, q, hq, h8⟩
  · rcases hsp with hup | ⟨g, cap, rfl, rfl⟩
    · exact hC.ups hup
    · exact hC.gr h3 (fun k hk => row_ge hown k hk)
  · rcases hsp with hup | ⟨g, cap, rfl, rfl⟩
    · exact ddp_grown hrb i z w w' hz (up_grownBy hup _)
    · have hin := fun {base2 : Nat} {u : Value} {p : Nat} {ys : List Value} (hu : w.ownsRow base2 118 2 u p ys) => ownsRow_inplace (by decide) hown h2 h3 hu
      unfold DDp at hz ⊢
      split at hz
      · obtain ⟨g9, h1, h2⟩ := hz
        exact ⟨g9, h1, (hin h2).1 (Nat.zero_le _)⟩
      · exact ownsRow_otype (by decide) hown h3 hz
      · exact (hin hz).1 (Nat.le_refl _)
      · obtain ⟨q', hq', hz⟩ := hz
        rcases Nat.eq_zero_or_pos ps.length with h0 | h0
        · have hp0 : ps = [] := List.eq_nil_of_length_eq_zero h0
          subst hp0
          rcases (hin hz).2 rfl with h | h
          · exact ⟨q', hq', h⟩
          · exact ⟨q, hq, h⟩
        · exact ⟨q', hq', (hin hz).1 h0⟩
      · obtain ⟨q', hq', hz⟩ := hz
        unfold ownPr at hz
        rcases (hin hz).2 (by simp) with h | h
        · exact ⟨q', hq', h⟩
        · refine ⟨q, hq, ?_⟩
          unfold ownPr
          rw [cellsPr_snoc, List.length_append]
          rw [List.length_append] at h
          exact h
      · trivial
end Go.Proofs.YtgbakgaegldomaaGreat


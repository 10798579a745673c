/- Arguments that are slices of bytes, and a string repeated. Conditions: as each says. -/
import Derived.Test.YthemmoecocjpjaaDraw8
import Derived.Test.YthemmoecocjpjaaLaw
namespace Go.Proofs.Ythemmoecocjpjaa
set_option linter.unusedVariables false
set_option linter.unusedSimpArgs false
open Go.ChangeShapes Go.WideShapes Go.ChangeAt Go.RowKit Go.Joins
open Go.ChangeMaps (open_string shut_string)

theorem open_argU {H : Type} {enc : TypeId × Value → H} {W : World} {fuel : Nat} {a0 : Option Addr} {len cap : Nat} {d : DataW H} {p : List MemPlace}
    (h : DataW.trod enc Try.prog W 0 (fun _ => true) true fuel 22 [.slice a0 len cap] = some (d, p)) (hlt : ∀ x ∈ p, x.block < W.heap.size) : ∃ l, ArgU W (.slice a0 len cap) l := by
  rcases open_ints Try.underlying22 Try.underlying5 (by kernel_rfl) h with ⟨hcs, hx⟩ | ⟨a, len', cap', zs, hcs, _, hl, hm, hz, hx, hcell, hwz⟩
  · simp only [List.cons.injEq, and_true] at hcs
    cases hcs
    exact ⟨[], none, 0, rfl, Nat.le_refl _, by unfold maxLen; omega, fun h => absurd h (Nat.lt_irrefl _)⟩
  · simp only [List.cons.injEq, and_true] at hcs
    cases hcs
    simp only [Prod.mk.injEq] at hx
    obtain ⟨rfl, rfl⟩ := hx
    simp only [if_true] at hz
    have hlen : ((zs.take len).map fun n => UInt8.ofNat n.toNat).length = len := by simp; omega
    refine ⟨(zs.take len).map fun n => UInt8.ofNat n.toNat, some a, cap, by rw [hlen], by rw [hlen]; exact hl, hm, fun hp => ?_⟩
    rw [hlen] at hp
    obtain ⟨b, off, spot⟩ := a
    have hspot : spot = none := by simpa [Addr.add] using World.cell?_spot (hcell 0 (by omega))
    subst hspot
    refine ⟨b, off, rfl, hlt (.cell b off) (by simp only [MemPlace.row, List.mem_map, List.mem_range]; exact ⟨0, by omega, rfl⟩), fun i x hi => ?_⟩
    have hil : i < len := by
      have := (List.getElem?_eq_some_iff.1 hi).1
      rw [hlen] at this; exact this
    have hcj := hcell i (by omega)
    rw [Addr.add_lit] at hcj
    rw [hcj]
    have hb := range_u8 hwz i
    have e : zs.getD i 0 = zs[i]'(by omega) := by simp [List.getD, List.getElem?_eq_getElem (show i < zs.length by omega)]
    rw [List.getD_eq_getElem?_getD] at e ⊢
    rw [e] at hb ⊢
    have hx : x = UInt8.ofNat (zs[i]'(by omega)).toNat := by
      have : i < zs.length := by omega
      simp [List.getElem?_take, hil, this] at hi
      exact hi.symm
    rw [hx]
    congr 2
    simp only [UInt8.toNat_ofNat']
    omega

def RelSM (s : ByteArray) (n : Nat) (w : World) (out i : Value) (wr : World) : Prop := ∃ k : Nat, k ≤ n ∧ i = .int .i64 k ∧ out = .string (bs (rep k s.data.toList)) ∧ w = wr
theorem rep_snoc (n : Nat) (l : List UInt8) : rep n l ++ l = rep (n + 1) l := by
  induction n with
  | zero => simp [rep]
  | succ n ih => rw [rep_succ n, List.append_assoc, ih, rep_succ (n + 1)]

set_option maxRecDepth 100000 in
set_option maxHeartbeats 1000000 in
theorem soMany_any (s : ByteArray) (n : Nat) (m : Int) (hm : m = n) (w : World) (hn : n ≤ 1000) (hs : s.size ≤ 1000) :
    Calls Try.prog 18  #[.string s, .int .i64 m] w (fun e w' => e = .returned (.string (bs (rep n s.data.toList))) ∧ w = w') := by
  subst hm
  have hsl := ba_len s
  go_enter Try.func18, Try.ntmps18
  go_wp2
  go_loopw [5, 6] (fun out i wr => RelSM s n w out i wr) (fun _ i _ => n - (intOf i).toNat)
  case atStart => exact ⟨0, Nat.zero_le _, rfl, rfl, rfl⟩
  case round =>
    obtain ⟨k, hk, rfl, rfl, rfl⟩ := hrel
    have hz := bs_size (rep k s.data.toList)
    rw [rep_length, hsl] at hz
    have hz2 : (bs (rep k s.data.toList)).size ≤ 1000000 := by
      rw [hz]; exact Nat.le_trans (Nat.mul_le_mul (Nat.le_trans hk hn) hs) (by decide)
    have HE : Hid (bs (rep k s.data.toList) ++ s = bs (rep (k + 1) s.data.toList)) := by
      unfold Hid
      conv => lhs; arg 2; rw [← bs_self s]
      rw [bs_app, rep_snoc]
    by_cases hlt : k < n
    · clear hz
      go_wp2
      go_roundw
      case rel => exact ⟨k + 1, by omega, by go_num, congrArg Value.string HE.out, rfl⟩
      case measure => simp [intOf]; omega
    · have e : k = n := by omega
      subst e
      clear hz
      go_wp2
      go_ret
      exact ⟨rfl, rfl⟩

theorem soMany_one (s : ByteArray) (n : Nat) (m : Int) (hm : m = n) (w : World) (hn : n ≤ 1000) (hs : s.size = 1) :
    Calls Try.prog 18  #[.string s, .int .i64 m] w (fun e w' => ∃ A : ByteArray, e = .returned (.string A) ∧ A.size = n ∧ w = w') :=
  (soMany_any s n m hm w hn (by omega)).mono fun e w' ⟨he, hw⟩ => ⟨_, he, by rw [bs_size, rep_length, ba_len, hs, Nat.mul_one], hw⟩

end Go.Proofs.Ythemmoecocjpjaa

/- Walks of the reference's functions that learn a dictionary. Conditions: the settings are valid where it says so. -/
import Derived.Test.YtekogcjdaolcbaaGreatDoorLz2
import Derived.Test.YtekogcjdaolcbaaGreatDoorAfter
import Derived.Test.YtekogcjdaolcbaaGreatDoorKV
namespace Go.Proofs.YtekogcjdaolcbaaGreatDoor
set_option linter.unusedVariables false
set_option linter.unusedSimpArgs false
open Go Go.RowKit

/-- Data that fits. -/
def fitsB (s : SetD) (d : List UInt8) : Bool := setOk s && decide (d.length ≤ 2000) && litsL (clr s) d

set_option maxRecDepth 100000 in
set_option maxHeartbeats 1000000 in
theorem fitsS_any (s : SetD) (d : ByteArray) (w : World) (hd : d.size ≤ 1073741824) :
    Calls Tryz.prog 44  #[setV s, .string d] w (Same (.bool (fitsB s d.data.toList)) w) := by
  have cS := fun w => setS_any s.ord s.lit s.most w
  rw [setD_eta] at cS
  have hlen := ba_len d
  unfold fitsB
  rw [hlen]
  cases h : setOk s
  · rw [h] at cS
    clear h
    simp only [setV]
    go_enter Tryz.func44, Tryz.ntmps44
    go_wp2_with ((go_at_call 103; (with_reducible refine (cS _).mono ?_); rintro e w1 ⟨rfl, U1⟩; have B1 := bcell U1; have Z1 := U1.size; (try simp at Z1); (try rw [Nat.add_one_le_iff] at Z1)))
    go_ret
    refine ⟨ret_bool (by first | rfl | simp), ?_⟩
    (repeat (first | exact Up.refl _ | refine Up.alloc ?_ _ | refine Up.drew ?_ | refine Up.set ?_ (by first | exact Nat.le_refl _ | (simp; done) | (simp; omega)) _ | refine Up.trans ?_ (by with_reducible assumption)))
  · rw [h] at cS
    have cF := fun w => l1Fits_any s.ord s.lit s.most d w (by rw [setD_eta]; exact h) hd
    rw [setD_eta] at cF
    generalize litsL (clr s) d.data.toList = lb at *
    clear h
    simp only [setV]
    by_cases h2 : d.size ≤ 2000
    all_goals
      go_enter Tryz.func44, Tryz.ntmps44
      go_wp2_with (first | (go_at_call 103; (with_reducible refine (cS _).mono ?_); rintro e w1 ⟨rfl, U1⟩; have B1 := bcell U1; have Z1 := U1.size; (try simp at Z1); (try rw [Nat.add_one_le_iff] at Z1)) | (go_at_call 104; (with_reducible refine (cF _).mono ?_); rintro e w2 ⟨rfl, U2⟩; have B2 := bcell U2; have Z2 := U2.size; (try simp at Z2); (try rw [Nat.add_one_le_iff] at Z2)))
      go_ret
      refine ⟨ret_bool (by first | rfl | simp [h2]), ?_⟩
      (repeat (first | exact Up.refl _ | refine Up.alloc ?_ _ | refine Up.drew ?_ | refine Up.set ?_ (by first | exact Nat.le_refl _ | (simp; done) | (simp; omega)) _ | refine Up.trans ?_ (by with_reducible assumption)))

theorem upOut_known {f : FuncId} {args : Array Value} {w : World} {k : KnD} {base : Nat} (h : Calls Tryz.prog f args w (KnPost k w)) (hb : base ≤ w.heap.size) : upOut Tryz.prog (KnO base k) w (.ok (.enter f args) w) :=
  ⟨rfl, h.mono fun e w' ⟨v, he, ho, hu⟩ => ⟨kV k v, he, hu, v, rfl, ownsRow_base ho hb⟩⟩

def RelTL (K : KnD) (w : World) (t : Value) (wr : World) : Prop := ∃ (k : KnD) (d : List UInt8) (v : Value) (n : Nat), t = .string (bs d) ∧ d.length ≤ n ∧ d.length ≤ 2000 ∧ learnN n k d = K ∧ k.Ok ∧ (∀ b ∈ d, b.toNat < k.c) ∧ KnAt w.heap.size k v wr ∧ ownPr wr (w.heap.size + 2) v k.ps ∧ KnAt (w.heap.size + 1) ⟨⟨0, 0, 0⟩, [], 0, 0⟩ (.slice none 0 0) wr ∧ Up w wr
theorem bs_drop (l : List UInt8) (i : Nat) : (bs l).extract i (bs l).size = bs (l.drop i) := by
  rw [bs_ext, bs_size, List.take_of_length_le (by rw [List.length_drop]; exact Nat.le_refl _)]
theorem bs_drop' (l : List UInt8) (i n : Nat) (hn : n = l.length) : (bs l).extract i n = bs (l.drop i) := by
  subst hn; rw [← bs_size, bs_drop]
def slen : Value → Nat
  | .string s => s.size
  | _ => 0

end Go.Proofs.YtekogcjdaolcbaaGreatDoor

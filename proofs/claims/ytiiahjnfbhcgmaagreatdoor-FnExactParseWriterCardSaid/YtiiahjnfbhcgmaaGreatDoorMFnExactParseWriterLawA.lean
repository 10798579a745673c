/- Texts joined into one: the walks and laws that the last text leans on. Conditions: as each says. -/
import Derived.Test.YtiiahjnfbhcgmaaGreatDoorRd

set_option linter.unusedVariables false
set_option linter.unusedSimpArgs false
/- Walks of the reference's reader. Conditions: the reader is one (Rdr), its place is bounded. -/
namespace Go.Proofs.YtiiahjnfbhcgmaaGreatDoor
set_option linter.unusedVariables false
set_option linter.unusedSimpArgs false
open Go Go.RowKit

theorem Rdr.set {rb : Nat} {B : Value} {w : World} {p : Nat} (h : w.heap[rb]? = some (.cells #[B, .int .i64 p] 135)) : RdUp rb B 1 w (w.setCell ⟨rb, 1, none⟩ (.int .i64 (p + 1))) := by
  have hg : w.grownBy (w.setCell ⟨rb, 1, none⟩ (.int .i64 (p + 1))) (some rb) := grownBy_set (grownBy_refl w (some rb)) 1 _
  refine ⟨hg, fun N hN => ⟨⟨p + 1, ?_, ?_⟩, hN.2.gr hg⟩⟩
  · obtain ⟨⟨q, h1, h2⟩, _⟩ := hN
    rw [h] at h2
    simp at h2
    omega
  · have := box_set h 1 (.int .i64 (p + 1))
    simpa using this

/-- What has been drawn and made since a call's begin, step by step. -/
theorem RdUp.step {rb : Nat} {B : Value} {c : Nat} {w0 w w' : World} (h : RdUp rb B c w0 w) (hg : w0.grownBy w' (some rb)) (hrb : rb < w0.heap.size → w'.heap[rb]? = w.heap[rb]?) : RdUp rb B c w0 w' :=
  ⟨hg, fun N hN => by
    obtain ⟨p, h1, h2⟩ := (h.2 N hN).1
    exact ⟨⟨p, h1, (hrb hN.lt).trans h2⟩, hN.2.gr hg⟩⟩
theorem RdUp.alloc {rb : Nat} {B : Value} {c : Nat} {w0 w : World} (h : RdUp rb B c w0 w) (o : Obj) : RdUp rb B c w0 (w.alloc o) :=
  h.trans (d := 0) (RdUp.of ((Up.refl w).alloc o))
theorem RdUp.drew {rb : Nat} {B : Value} {c : Nat} {w0 w : World} (h : RdUp rb B c w0 w) : RdUp rb B c w0 w.drew :=
  h.trans (d := 0) (RdUp.of ((Up.refl w).drew))
theorem RdUp.set {rb : Nat} {B : Value} {c : Nat} {w0 w : World} (h : RdUp rb B c w0 w) {p : Addr} (hp : w0.heap.size ≤ p.block) (u : Value) : RdUp rb B c w0 (w.setCell p u) :=
  h.step ⟨h.1.os, h.1.tape, h.1.output, by simpa [World.setCell] using h.1.size, fun k hk hne => (Below.heap_setCell w p u k (by omega)).trans (h.1.block k hk hne)⟩ (fun hr => Below.heap_setCell w p u rb (by omega))
theorem RdUp.gr {rb : Nat} {B : Value} {c : Nat} {w0 w w' : World} (h : RdUp rb B c w0 w) {row : Option Nat} (hg : w.grownBy w' row) (hr : ∀ k, row = some k → w0.heap.size ≤ k) : RdUp rb B c w0 w' :=
  h.step ⟨hg.os.trans h.1.os, hg.tape.trans h.1.tape, hg.output.trans h.1.output, Nat.le_trans h.1.size hg.size, fun k hk hne => (hg.block k (Nat.lt_of_lt_of_le hk h.1.size) (fun e => by have := hr k e.symm; omega)).trans (h.1.block k hk hne)⟩
    (fun hlt => hg.block rb (Nat.lt_of_lt_of_le hlt h.1.size) (fun e => by have := hr rb e.symm; omega))

end Go.Proofs.YtiiahjnfbhcgmaaGreatDoor


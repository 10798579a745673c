/- Texts joined into one: the walks and laws that the last text leans on. Conditions: as each says. -/
import Derived.Test.YtgbakgaegldomaaGreatRn
import Derived.Test.YtgbakgaegldomaaGreatCopy
import Derived.Test.YtgbakgaegldomaaGreatMFnWholeTravelLawC
import Derived.Test.YtgbakgaegldomaaGreatComp

set_option linter.unusedVariables false
set_option linter.unusedSimpArgs false
/- Walks of the reference's l1Unpack and UnpackCodes. Conditions: what is known is valid and can be read; the string's length is bounded. -/
namespace Go.Proofs.YtgbakgaegldomaaGreat
open Go Go.RowKit
structure UnR where
  codes : List Int
  fin : Int
  used : Nat
structure UnB (lo : Nat) (w : World) (k : KnD) (v : Value) (cs : List Int) (vc : Value) (wr : World) : Prop where
  kn : KnAt w.heap.size k v wr
  pr : RdP lo w v k.ps ∨ ownPr wr (w.heap.size + 1) v k.ps
  own : ownI wr (w.heap.size + 1) vc cs
  up : Up w wr
theorem UnB.upd {lo : Nat} {w : World} {k : KnD} {v : Value} {cs : List Int} {vc : Value} {wr w' : World} (h : UnB lo w k v cs vc wr) (hu : Up wr w') : UnB lo w k v cs vc w' :=
  ⟨h.kn.up hu, h.pr.imp id fun h => ownsRow_up h hu, ownsRow_up h.own hu, h.up.trans hu⟩
structure UnD (T : RdR) (o : Int) (bits : List UInt8) (k0 : KnD) (m : Nat) (k : KnD) (p : Nat) (cs : List Int) (d : List UInt8) : Prop where
  inv : RdInv bits 0 k0 k p cs d
  tot : readN o bits 0 0 m k p cs d = T
  len : bits.length ≤ p + m
  cl : cs.length < 3100
end Go.Proofs.YtgbakgaegldomaaGreat

/- Walks of the reference's Decompress, DecompressWith, l5Data, BlockData. Conditions: what is known is valid and can be read; strings are no longer than 2^30 bytes. -/
namespace Go.Proofs.YtgbakgaegldomaaGreat
open Go Go.RowKit
theorem RdI.low {lo lo' : Nat} {w : World} {v : Value} {l : List Int} (h : RdI lo w v l) (hl : lo' ≤ lo) : RdI lo' w v l := by
  obtain ⟨a, cap, h1, h2, h3, h4⟩ := h
  exact ⟨a, cap, h1, h2, h3, fun hp => by
    obtain ⟨b, off, e1, e2, e3⟩ := h4 hp
    exact ⟨b, off, e1, Nat.le_trans hl e2, e3⟩⟩
end Go.Proofs.YtgbakgaegldomaaGreat


/- Texts joined into one: the walks and laws that the last text leans on. Conditions: as each says. -/
import Derived.Test.YtbimdjlcjcdbnaaMFnRoundTripLawF
import Derived.Test.YtbimdjlcjcdbnaaRt
import Derived.Test.YtbimdjlcjcdbnaaMFnRoundTripLawE
import Derived.Test.YtbimdjlcjcdbnaaWc
import Derived.Test.YtbimdjlcjcdbnaaRn
import Derived.Test.YtbimdjlcjcdbnaaCopy
import Derived.Test.YtbimdjlcjcdbnaaMFnRoundTripLawA
import Derived.Test.YtbimdjlcjcdbnaaComp

/- Plain: a stream of data is no longer than 4000 bytes, and the data is read from it. Conditions: as each says. -/
namespace Go.Proofs.Ytbimdjlcjcdbnaa
set_option linter.unusedVariables false
set_option linter.unusedSimpArgs false
open Go Go.RowKit

theorem compL_4000 {k : KnD} {d : List UInt8} (h : k.Ok) (hl : ∀ b ∈ d, b.toNat < k.c) (hd : d.length ≤ 2000) : (compL k d).length ≤ 4000 := by
  obtain ⟨g1, g2, g3, g4, g5⟩ := walk_greedy h hl hd
  have g6 := greedy_tight h hl hd
  have h9 := packC_len10 k.set.ord (greedy k d) (walkN k (greedy k d) [] []).ws (fun x hx => ⟨by have := (g4 x hx).1; omega, (g4 x hx).2⟩)
  unfold compL
  rw [packL_length]
  omega
end Go.Proofs.Ytbimdjlcjcdbnaa

/- Plain: what is known, cleared, is greedy alike (for FnRoundTrip). Conditions: as each says. -/
namespace Go.Proofs.Ytbimdjlcjcdbnaa
set_option linter.unusedVariables false
set_option linter.unusedSimpArgs false
open Go Go.RowKit

theorem cleared_twice (k : KnD) : k.cleared.cleared = k.cleared := by
  unfold KnD.cleared
  simp [List.take_take]
theorem greedy_cleared (k : KnD) (d : List UInt8) : greedy k.cleared d = greedy k d := by
  unfold greedy
  rw [cleared_twice]
  rfl
/-- Both streams give the data back. -/
theorem round_both {k : KnD} {d : List UInt8} (hk : k.Ok) (hf : fitsB k.set d = true) : (compL k d).length ≤ 4000 ∧ decK k (compL k d) = ⟨d, 0, (compL k d).length⟩ ∧ decK k.cleared (compL k.cleared d) = ⟨d, 0, (compL k.cleared d).length⟩ := by
  obtain ⟨f1, f2, f3⟩ := fitsB_lits hf
  have h4 := compL_4000 hk (d := d) f3 f2
  have h5 := compL_4000 (KnD.cleared_ok hk) (d := d) f3 f2
  exact ⟨h4, dec_comp hk f3 f2 h4, dec_comp (KnD.cleared_ok hk) f3 f2 h5⟩

end Go.Proofs.Ytbimdjlcjcdbnaa

/- Walks of the program's learn, LearnKnown, StartWith. Conditions: what is known is valid and can be read. -/
namespace Go.Proofs.Ytbimdjlcjcdbnaa
set_option linter.unusedVariables false
set_option linter.unusedSimpArgs false
open Go Go.RowKit

/-- The plain state of learn; its memory. -/
structure LiD (T : KnD) (k0 : KnD) (L : List UInt8) (m : Nat) (k : KnD) (n : Nat) : Prop where
  len : L.length ≤ n + m
  le : n ≤ L.length
  tot : learnN m k (L.drop n) = T
  ok : k.Ok
  set : k.set = k0.set
structure LiW (w : World) (tb : Nat) (k : KnD) (vp vn vi : Value) (wr : World) : Prop where
  tree : TreeAt (w.heap.size + 2) tb k vp vn vi wr
  res : KnAt (w.heap.size + 1) ⟨⟨0, 0, 0⟩, [], 0, 0⟩ (.slice none 0 0) wr
  up : Up w wr
theorem LiW.upd {w : World} {tb : Nat} {k : KnD} {vp vn vi : Value} {wr w' : World} (h : LiW w tb k vp vn vi wr) (hu : Up wr w') : LiW w tb k vp vn vi w' := ⟨h.tree.up hu, h.res.up hu, h.up.trans hu⟩
theorem LiW.tr {w : World} {tb : Nat} {k k' : KnD} {vp vn vi : Value} {wr w' : World} (h : LiW w tb k vp vn vi wr) (hp : TrPost (w.heap.size + 2) tb k' vp vn vi wr w') : ∃ vp' vn' vi', LiW w tb k' vp' vn' vi' w' := by
  obtain ⟨vp', vn', vi', hT, hF, hO⟩ := hp
  exact ⟨vp', vn', vi', hT, hF.box h.res (fun ho => by have := (h.tree.own_lo _ ho).1; omega), Fr.upto h.up hF (fun b hb => by have := (h.tree.own_lo b hb).1; omega)⟩
theorem LiD.step {T k0 : KnD} {L : List UInt8} {m : Nat} {k : KnD} {n : Nat} (h : LiD T k0 L m k n) (hn : n < L.length) (hl : ∀ b ∈ L, b.toNat < k0.c) :
    k.follows (k.find (k.longest (L.drop n))) = true ∧ ¬ k.find (k.longest (L.drop n)) = (k.c : Int) ∧ 1 ≤ (k.longest (L.drop n)).length ∧ n + (k.longest (L.drop n)).length ≤ L.length ∧ LiD T k0 L (m - 1) (k.after (k.find (k.longest (L.drop n)))) (n + (k.longest (L.drop n)).length) := by
  have hde : L.drop n ≠ [] := fun e => by rw [List.drop_eq_nil_iff] at e; omega
  have hll := KnD.longest_le (k := k) (L.drop n)
  have hlp := KnD.longest_pos (k := k) hde
  have hl2 : ∀ b ∈ L.drop n, b.toNat < k.c := fun b hb => by rw [c_of h.set]; exact hl b (List.mem_of_mem_drop hb)
  obtain ⟨hfw, -⟩ := KnD.find_any h.ok hde hl2
  rw [List.length_drop] at hll
  have h1 := h.len; have h4 := h.tot
  obtain ⟨m', rfl⟩ : ∃ m', m = m' + 1 := ⟨m - 1, by omega⟩
  refine ⟨hfw, (KnD.fol_ne h.ok hfw).1, hlp, by omega, by omega, by omega, ?_, KnD.after_ok h.ok hfw, h.set⟩
  rw [learnN_step hde, List.drop_drop] at h4
  exact h4
end Go.Proofs.Ytbimdjlcjcdbnaa

/- Walks of the reference's l1Unpack and UnpackCodes. Conditions: what is known is valid and can be read; the string's length is bounded. -/
namespace Go.Proofs.Ytbimdjlcjcdbnaa
set_option linter.unusedVariables false
set_option linter.unusedSimpArgs false
open Go Go.RowKit

/-- What reading the codes of a stream gives. -/
structure UnR where
  codes : List Int
  fin : Int
  used : Nat
/-- The memory of UnpackCodes. -/
structure UnB (lo : Nat) (w : World) (k : KnD) (v : Value) (cs : List Int) (vc : Value) (wr : World) : Prop where
  kn : KnAt w.heap.size k v wr
  pr : RdP lo w v k.ps ∨ ownPr wr (w.heap.size + 1) v k.ps
  own : ownI wr (w.heap.size + 1) vc cs
  up : Up w wr
theorem UnB.upd {lo : Nat} {w : World} {k : KnD} {v : Value} {cs : List Int} {vc : Value} {wr w' : World} (h : UnB lo w k v cs vc wr) (hu : Up wr w') : UnB lo w k v cs vc w' :=
  ⟨h.kn.up hu, h.pr.imp id fun h => ownsRow_up h hu, ownsRow_up h.own hu, h.up.trans hu⟩
theorem UnB.stored {lo : Nat} {w : World} {k k' : KnD} {v v' : Value} {cs : List Int} {vc : Value} {wr : World} (h : UnB lo w k v cs vc wr) (hp : ownPr wr (w.heap.size + 1) v' k'.ps) : UnB lo w k' v' cs vc (KnW wr w.heap.size k' v') :=
  ⟨KnAt.store h.kn k' v', .inr (KnW.own hp (low_ne (w := w) hp (by omega)) k' v'), KnW.own h.own (low_ne (w := w) h.own (by omega)) k' v', KnW.up h.up (Nat.le_refl _) k' v'⟩
/-- Its plain state. -/
structure UnD (T : RdR) (o : Int) (bits : List UInt8) (k0 : KnD) (m : Nat) (k : KnD) (p : Nat) (cs : List Int) (d : List UInt8) : Prop where
  inv : RdInv bits 0 k0 k p cs d
  tot : readN o bits 0 0 m k p cs d = T
  len : bits.length ≤ p + m
  cl : cs.length < 3100
end Go.Proofs.Ytbimdjlcjcdbnaa

/- Walks of the reference's Decompress, DecompressWith, l5Data, BlockData. Conditions: what is known is valid and can be read; strings are no longer than 2^30 bytes. -/
namespace Go.Proofs.Ytbimdjlcjcdbnaa
set_option linter.unusedVariables false
set_option linter.unusedSimpArgs false
open Go Go.RowKit

theorem RdI.low {lo lo' : Nat} {w : World} {v : Value} {l : List Int} (h : RdI lo w v l) (hl : lo' ≤ lo) : RdI lo' w v l := by
  obtain ⟨a, cap, h1, h2, h3, h4⟩ := h
  exact ⟨a, cap, h1, h2, h3, fun hp => by
    obtain ⟨b, off, e1, e2, e3⟩ := h4 hp
    exact ⟨b, off, e1, Nat.le_trans hl e2, e3⟩⟩
end Go.Proofs.Ytbimdjlcjcdbnaa


/- Texts joined into one: the walks and laws that the last text leans on. Conditions: as each says. -/
import Derived.Test.YtekogcjdaolcbaaGreatDoorMFnTravelLawE
import Derived.Test.YtekogcjdaolcbaaGreatDoorMFnTravelLawB
import Derived.Lib.Join
import Derived.Lib.ItoaLen

set_option linter.unusedVariables false
set_option linter.unusedSimpArgs false
/- Plain: the text of places. Conditions: none. -/
namespace Go.Proofs.YtekogcjdaolcbaaGreatDoor
open Go
def someL (l:List UInt8):List UInt8:=if l= [] then [45] else l
theorem join_snoc (xs:List (List UInt8)) (y sep:List UInt8) (h:xs≠ []):Lib.join (xs++ [y]) sep=Lib.join xs sep++sep++y:=by
 cases xs with
 |nil=>exact absurd rfl h
 |cons x r =>
  rw [List.cons_append,Lib.join_cons,Lib.join_cons]
  simp [Lib.joinTail]
theorem lens_le (c:Nat): ∀ xs:List (List UInt8),(∀ x∈xs,x.length≤c)→Lib.lens xs≤c * xs.length
 | [],_=>by simp [Lib.lens]
 |x :: r,h=>by
  have h1:=lens_le c r (fun y hy=>h y (List.mem_cons_of_mem _ hy))
  have h2:=h x (List.mem_cons_self ..)
  simp only [Lib.lens,List.map_cons,List.sum_cons,List.length_cons,Nat.mul_add,Nat.mul_one] at *
  omega
theorem join_le (c:Nat) (xs:List (List UInt8)) (b:UInt8) (h: ∀ x∈xs,x.length≤c):(Lib.join xs [b]).length≤(c+1) * xs.length:=by
 cases xs with
 |nil=>simp [Lib.join_nil]
 |cons x r =>
  have h1:=lens_le c (x :: r) h
  have h2:=Lib.join_length x r [b]
  have h3: [b].length * r.length=r.length:=by simp
  rw [h2,h3,List.length_cons,Nat.add_mul,Nat.one_mul]
  rw [List.length_cons] at h1
  omega
theorem itoa_le {n:Int} (h0: -1000000≤n) (h1:n≤1000000):(Lib.itoa n).length≤21:=Lib.itoa_length_le n (by omega) (by omega)
end Go.Proofs.YtekogcjdaolcbaaGreatDoor

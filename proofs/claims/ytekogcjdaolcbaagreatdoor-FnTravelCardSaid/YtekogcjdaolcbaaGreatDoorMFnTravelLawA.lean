/- Texts joined into one: the walks and laws that the last text leans on. Conditions: as each says. -/
import Derived.Test.YtekogcjdaolcbaaGreatDoorRows
import Derived.WalkKit
import Derived.WalkSpells
import Derived.WalkLawsBesides
import Derived.Lib.Hide
import Derived.Lib.SmallJoins
import Derived.BigQuiet
import Derived.ProofKit
import Derived.StillTail

set_option linter.unusedVariables false
set_option linter.unusedSimpArgs false
/- Texts joined into one: Base, Up, Blk1, Blk2, Blk3, Parse1, Bytes, Parse2, Parse3, Cont0, Cont2, Cont1, Cont3, Cont4, Ints, Rws. Conditions: as each says. -/
/- Small lemmas on worlds and on the form of contracts: for every walk of this seat. Conditions: none. -/
namespace Go.Proofs.YtekogcjdaolcbaaGreatDoor
open Go.RowKit
theorem bcell {W w1:World} (hb:Below W.heap.size W w1):(∀ b o,b<W.heap.size→w1.cell? ⟨b,o,none⟩=W.cell? ⟨b,o,none⟩)∧(∀ b o,b<W.heap.size→w1.frozen? ⟨b,o,none⟩=W.frozen? ⟨b,o,none⟩) :=
 ⟨fun b o h=>hb.cell (p:=⟨b,o,none⟩) h,fun b o h=>hb.frozen (p:=⟨b,o,none⟩) h⟩
end Go.Proofs.YtekogcjdaolcbaaGreatDoor
/- A region whose order is open, whose operations and callees only make new memory, is walked once in the order of the text. Conditions: those of the theorem wp_region_up. -/
namespace Go.Proofs.YtekogcjdaolcbaaGreatDoor
open Go Go.RowKit
abbrev Up (w w':World):Prop:=Below w.heap.size w w'
theorem Up.refl (w:World):Up w w:=Below.refl _ _
theorem Up.trans {a b c:World} (h:Up a b) (k:Up b c):Up a c:=Below.trans h (k.mono h.size)
def UpClosed (p:World→Prop):Prop:= ∀ w w',p w→Up w w'→p w'
section
variable {P:Program} {ops:Array Oper}
def upOut (P:Program) (D:Value→World→Prop) (w:World):Result Next→Prop
 | .ok (.value v) w'=>Up w w'∧D v w'
 | .ok .skip w'=>Up w w'∧D undef w'
 | .ok (.enter f args) w'=>w'=w∧Calls P f args w (fun e w''=> ∃ v,e= .returned v∧Up w w''∧D v w'')
 |_=>False
def upAt (P:Program) (o:Oper) (a:Act) (w:World) (D:Value→World→Prop):Prop:=upOut P D w ((execOp a.eval o).run P w)
theorem upAt.wp {o:Oper} {a:Act} {w:World} {D:Value→World→Prop} {K:Act→World→Prop} {Q:Exit→Act→World→Prop} (h:upAt P o a w D) (hK: ∀ v w',Up w w'→D v w'→K (a.put o.dst v) w'):o.wp P a w K Q:=by
 unfold upAt at h
 unfold Oper.wp
 generalize (execOp a.eval o).run P w=r at *
 cases r with
 |ok n w' =>
  cases n <;> simp only [upOut] at h <;> simp only [Oper.upon]
  case value v=>exact hK _ _ h.1 h.2
  case skip=>exact hK _ _ h.1 h.2
  case enter f args =>
   obtain ⟨rfl,hc⟩:=h
   exact hc.mono fun e w'' ⟨v,he,hu,hd⟩=>by subst he;exact hK _ _ hu hd
 |halt x w'=>simp only [upOut] at h
def waitsB (o:Oper) (i:Nat):Bool:=o.after.toList.any fun e=>Region.binds .any e && e.on == i
theorem waitsB_spec {o:Oper} {i:Nat} (h:waitsB o i=true): ∃ e∈o.after,Region.binds .any e=true∧e.on=i:=by
 obtain ⟨e,he,hb⟩:=List.any_eq_true.1 h
 simp only [Bool.and_eq_true,beq_iff_eq] at hb
 exact ⟨e,by simpa using he,hb⟩
def upB (ops:Array Oper) (n0:Nat):Bool :=
 Region.noSelect ops && decide (n0≤ops.size) &&
 ((List.range ops.size).all fun j=>match ops[j]? with
   |none=>true
   |some o=>(o.after.all fun e=> !Region.binds .any e || decide (e.on<j)) &&
    ((List.range j).all fun i=>match ops[i]? with
      |none=>true
      |some x=>if j<n0 then (waitsB o i || x.apart ops o) && (match x.dst with|some d=>o.dst != some d|none=>true) else waitsB o i))
def reachB (ops:Array Oper):Nat→Nat→Nat→Bool
 |0,_,_=>false
 |f+1,j,i=>match ops[j]? with
  |none=>false
  |some o=>(o.after.any fun e=>Region.binds .any e && e.on == i) || (o.after.any fun e=>Region.binds .any e && reachB ops f e.on i)
theorem reach_listed {listed:Array Bool} (hcl: ∀ (j:Nat) (o:Oper),ops[j]? =some o→listed.getD j false=true→ ∀ e∈o.after,Region.binds .any e=true→listed.getD e.on false=true) :
  ∀ (f j i:Nat),reachB ops f j i=true→(∀ o,ops[j]? =some o→ ∀ e∈o.after,Region.binds .any e=true→listed.getD e.on false=true)→listed.getD i false=true:=by
 intro f
 induction f with
 |zero=>intro j i h;cases h
 |succ f ih =>
  intro j i h hj
  unfold reachB at h
  split at h
  ·cases h
  ·next o ho =>
   rw [Bool.or_eq_true] at h
   rcases h with h|h
   ·obtain ⟨e,he,hb⟩:=Array.any_eq_true'.1 h
    simp only [Bool.and_eq_true,beq_iff_eq] at hb
    rw [← hb.2]
    exact hj o ho e he hb.1
   ·obtain ⟨e,he,hb⟩:=Array.any_eq_true'.1 h
    simp only [Bool.and_eq_true] at hb
    exact ih e.on i hb.2 fun x hx=>hcl e.on x hx (hj o ho e he hb.1)
theorem waits_reach {j i f:Nat} {o:Oper} (ho:ops[j]? =some o) (h:waitsB o i=true):reachB ops (f+1) j i=true:=by
 obtain ⟨e,he,hb⟩:=waitsB_spec h
 unfold reachB
 rw [ho]
 simp only [Bool.or_eq_true]
 exact .inl (Array.any_eq_true'.2 ⟨e,he,by simp [hb.1,hb.2]⟩)
structure UpText (ops:Array Oper) (n0:Nat):Prop where
 sel: ∀ (j:Nat) (o:Oper) cs b,ops[j]? =some o→o.op≠ .select cs b
 le:n0≤ops.size
 lex: ∀ (j:Nat) (o:Oper),ops[j]? =some o→ ∀ e∈o.after,Region.binds .any e=true→e.on<j
 pair: ∀ (i j:Nat) (x o:Oper),i<j→j<n0→ops[i]? =some x→ops[j]? =some o→waitsB o i=true∨x.apart ops o=true
 dist: ∀ (i j:Nat) (x o:Oper) (d:Tmp),i<j→j<n0→ops[i]? =some x→ops[j]? =some o→x.dst=some d→o.dst≠some d
 tail: ∀ (i j:Nat) (o:Oper),i<j→n0≤j→ops[j]? =some o→reachB ops 12 j i=true
structure TxC (ops:Array Oper) (n0:Nat):Prop where
 sel: ∀ (j:Nat) (o:Oper) cs b,ops[j]? =some o→o.op≠ .select cs b
 le:n0≤ops.size
 lex: ∀ (j:Nat) (o:Oper),ops[j]? =some o→ ∀ e∈o.after,Region.binds .any e=true→e.on<j
 pair: ∀ (i j:Nat) (x o:Oper),i<j→j<n0→ops[i]? =some x→ops[j]? =some o→waitsB o i=true∨x.apart ops o=true
 dist: ∀ (i j:Nat) (x o:Oper) (d:Tmp),i<j→j<n0→ops[i]? =some x→ops[j]? =some o→x.dst=some d→o.dst≠some d
theorem UpText.c {n0:Nat} (T:UpText ops n0):TxC ops n0:=⟨T.sel,T.le,T.lex,T.pair,T.dist⟩
theorem upB_text {n0:Nat} (h:upB ops n0=true):UpText ops n0:=by
 unfold upB at h
 simp only [Bool.and_eq_true,decide_eq_true_eq] at h
 obtain ⟨⟨h1,h2⟩,h3⟩:=h
 have h3:=List.all_eq_true.1 h3
 have hj: ∀ (j:Nat) (o:Oper),ops[j]? =some o→(∀ e∈o.after,Region.binds .any e=true→e.on<j)∧ ∀ (i:Nat) (x:Oper),i<j→ops[i]? =some x→(if j<n0 then (waitsB o i || x.apart ops o) && (match x.dst with|some d=>o.dst != some d|none=>true) else waitsB o i)=true:=by
  intro j o ho
  have hlt:j<ops.size:=(Array.getElem?_eq_some_iff.1 ho).1
  have:=h3 j (List.mem_range.2 hlt)
  simp only [ho,Bool.and_eq_true] at this
  obtain ⟨ha,hb⟩:=this
  refine ⟨fun e he hb=>?_,fun i x hi hx=>?_⟩
  ·have:=Array.all_eq_true_iff_forall_mem.1 ha e he
   simpa [hb] using this
  ·have:=List.all_eq_true.1 hb i (List.mem_range.2 hi)
   simpa only [hx] using this
 refine ⟨fun j o cs b ho=>Region.noSelect_spec h1 j o cs b ho,h2,fun j o ho=>(hj j o ho).1,fun i j x o hi hn hx ho=>?_,fun i j x o d hi hn hx ho hd=>?_,fun i j o hi hn ho=>?_⟩
 ·have:=(hj j o ho).2 i x hi hx
  simp only [hn,if_true,Bool.and_eq_true,Bool.or_eq_true] at this
  exact this.1
 ·have:=(hj j o ho).2 i x hi hx
  simp only [hn,if_true,Bool.and_eq_true,hd] at this
  simpa using this.2
 ·have hlt:j<ops.size:=(Array.getElem?_eq_some_iff.1 ho).1
  have hx:ops[i]? =some ops[i]:=by simp [show i<ops.size by omega]
  have:=(hj j o ho).2 i _ hi hx
  exact waits_reach ho (by simpa only [show ¬ j<n0 by omega,if_false] using this)
structure Desc (ops:Array Oper) (a:Act) (S:Nat→Prop) (vals:Nat→Value) (b:Act):Prop where
 defers:b.defers=a.defers
 size:b.tmps.size=a.tmps.size
 old: ∀ t,(∀ i o,S i→ops[i]? =some o→o.dst≠some t)→b.tmps[t]? =a.tmps[t]?
 new: ∀ t i o,S i→ops[i]? =some o→o.dst=some t→t<a.tmps.size→b.tmps[t]? =some (vals i)
theorem Desc.refl (a:Act) (vals:Nat→Value):Desc ops a (fun _=>False) vals a:=⟨rfl,rfl,fun _ _=>rfl,fun _ _ _ h=>h.elim⟩
theorem Desc.congr {a b:Act} {S S':Nat→Prop} {vals vals':Nat→Value} (h:Desc ops a S vals b) (hS: ∀ i,S i↔S' i) (hv: ∀ i,S i→vals i=vals' i):Desc ops a S' vals' b :=
 ⟨h.defers,h.size,fun t ht=>h.old t fun i o hi=>ht i o ((hS i).1 hi),fun t i o hi ho hd hl=>(h.new t i o ((hS i).2 hi) ho hd hl).trans (by rw [hv i ((hS i).2 hi)])⟩
theorem Desc.put {a b:Act} {S:Nat→Prop} {vals:Nat→Value} {j:Nat} {o:Oper} (h:Desc ops a S vals b) (hj:ops[j]? =some o)
  (hd: ∀ i x d,S i→i≠j→ops[i]? =some x→x.dst=some d→o.dst≠some d):Desc ops a (fun i=>S i∨i=j) vals (b.put o.dst (vals j)):=by
 cases hdst:o.dst with
 |none =>
  refine ⟨h.defers,h.size,fun t ht=>h.old t fun i o hi=>ht i o (.inl hi),fun t i x hi ho hd' hl=>?_⟩
  rcases hi with hi|rfl
  ·exact h.new t i x hi ho hd' hl
  ·rw [hj] at ho;cases ho;rw [hdst] at hd';cases hd'
 |some d =>
  refine ⟨h.defers,by simp [Act.put,h.size],fun t ht=>?_,fun t i x hi ho hd' hl=>?_⟩
  ·have hne:d≠t:=fun e=>ht j o (.inr rfl) hj (by rw [hdst,e])
   simp only [Act.put,Array.getElem?_setIfInBounds_ne hne]
   exact h.old t fun i o hi=>ht i o (.inl hi)
  ·by_cases hdt:d=t
   ·subst hdt
    have:i=j:=by
     rcases hi with hi|rfl
     ·by_cases hij:i=j
      ·exact hij
      ·exact absurd hdst (hd i x d hi hij ho hd')
     ·rfl
    subst this
    simp [Act.put,h.size,hl]
   ·simp only [Act.put,Array.getElem?_setIfInBounds_ne hdt]
    rcases hi with hi|rfl
    ·exact h.new t i x hi ho hd' hl
    ·rw [hj] at ho;cases ho;rw [hdst] at hd';cases hd';exact absurd rfl hdt
theorem Desc.agree {a b b':Act} {S S':Nat→Prop} {vals vals':Nat→Value} (h:Desc ops a S vals b) (h':Desc ops a S' vals' b') (t:Tmp)
  (hs: ∀ i o,ops[i]? =some o→o.dst=some t→(S i↔S' i)∧(S i→vals i=vals' i)):b.tmps[t]? =b'.tmps[t]? :=by
 by_cases hex: ∃ i o,S i∧ops[i]? =some o∧o.dst=some t
 ·obtain ⟨i,o,hi,ho,hd⟩:=hex
  obtain ⟨h1,h2⟩:=hs i o ho hd
  by_cases hl:t<a.tmps.size
  ·rw [h.new t i o hi ho hd hl,h'.new t i o (h1.1 hi) ho hd hl,h2 hi]
  ·have hl':a.tmps.size≤t:=Nat.le_of_not_lt hl
   rw [Array.getElem?_eq_none (by rw [h.size];exact hl'),Array.getElem?_eq_none (by rw [h'.size];exact hl')]
 ·rw [h.old t fun i o hi ho hd=>hex ⟨i,o,hi,ho,hd⟩,h'.old t fun i o hi ho hd=>hex ⟨i,o,(hs i o ho hd).1.2 hi,ho,hd⟩]
theorem exec_agree {o:Oper} (hs: ∀ cs b,o.op≠ .select cs b) {b b':Act} (h: ∀ t∈o.looksAt ops,b.tmps[t]? =b'.tmps[t]?):execOp b.eval o=execOp b'.eval o :=
 execOp_congr o hs fun x hx=>by
  cases x with
  |tmp t =>
   have:=h t (List.mem_append_left _ (List.mem_filterMap.2 ⟨.tmp t,by simpa using hx,rfl⟩))
   simp only [Act.eval,Array.getD_eq_getD_getElem?,this]
  |_=>rfl
theorem wanted_agree {o:Oper} {b b':Act} (h: ∀ g w t,o.guard=some (g,w)→(ops[g]?).bind (·.dst)=some t→b.tmps[t]? =b'.tmps[t]?):Region.wanted o (yielded ops b.tmps)=Region.wanted o (yielded ops b'.tmps):=by
 unfold Region.wanted
 cases hg:o.guard with
 |none=>rfl
 |some gw =>
  obtain ⟨g,w⟩:=gw
  have:yielded ops b.tmps g=yielded ops b'.tmps g:=by
   unfold yielded
   cases hd:(ops[g]?).bind (·.dst) with
   |none=>rfl
   |some t=>simp only [Option.bind_some,h g w t hg hd]
  simp only [this]
abbrev Mk:=Nat × Option Tmp × (Value→World→Prop)
def fills:List Mk→Act→World→(Act→Prop)→Prop
 | [],a,_,K=>K a
 |(_,d,D) :: E,a,w,K=> ∀ v,D v w→fills E (a.put d v) w K
def fillWith (vals:Nat→Value):List Mk→Act→Act
 | [],a=>a
 |(i,d,_) :: E,a=>fillWith vals E (a.put d (vals i))
theorem fills.inst {vals:Nat→Value} {w:World} {K:Act→Prop} : ∀ {E:List Mk} {a:Act},fills E a w K→(∀ m∈E,m.2.2 (vals m.1) w)→K (fillWith vals E a)
 | [],_,h,_=>h
 |(i,_,_) :: E,_,h,hE=>fills.inst (E:=E) (h (vals i) (hE _ (List.mem_cons_self ..))) fun m hm=>hE m (List.mem_cons_of_mem _ hm)
def guardFree (ops:Array Oper) (k:Nat):Bool :=
 match (ops[k]?).bind (·.dst) with
 |none=>true
 |some d=>ops.all fun o=>match o.guard with
  |some (g,_)=>(ops[g]?).bind (·.dst) != some d
  |none=>true
theorem guardFree_spec {k:Nat} {d:Tmp} (h:guardFree ops k=true) (hd:(ops[k]?).bind (·.dst)=some d) {o:Oper} (ho:o∈ops) {g:Nat} {b:Bool} (hg:o.guard=some (g,b)):(ops[g]?).bind (·.dst)≠some d:=by
 unfold guardFree at h
 simp only [hd] at h
 have:=Array.all_eq_true_iff_forall_mem.1 h o ho
 simpa [hg] using this
def wpUp (P:Program) (ops:Array Oper) (C:World→Prop) (Z:Act→World→Prop):List Oper→Nat→List Mk→Act→Prop
 | [],_,E,a=> ∀ w,C w→fills E a w (fun a'=>Z a' w)
 |o :: rest,k,E,a =>
  if Region.wanted o (yielded ops a.tmps) then
   (∃ v,(∀ w,C w→fills (E.filter fun m=>waitsB o m.1) a w (fun a'=>upAt P o a' w (fun v' _=>v'=v)))∧wpUp P ops C Z rest (k+1) E (a.put o.dst v)) ∨
   (∃ D,guardFree ops k=true∧(∀ v,UpClosed (D v))∧(∀ w,C w→fills (E.filter fun m=>waitsB o m.1) a w (fun a'=>upAt P o a' w D))∧wpUp P ops C Z rest (k+1) ((k,o.dst,D) :: E) a)
  else wpUp P ops C Z rest (k+1) E (a.put o.dst undef)
structure Lex (ops:Array Oper) (a0:Act) (k:Nat) (E:List Mk) (a:Act) (Cc:Nat→Prop) (cv:Nat→Value) (D:Nat→Value→World→Prop):Prop where
 desc:Desc ops a0 (fun i=>i<k∧Cc i) cv a
 const: ∀ i,i<k→Cc i→ ∀ v w,D i v w→v=cv i
 mem: ∀ m∈E,m.1<k∧ ¬ Cc m.1∧m.2.1=(ops[m.1]?).bind (·.dst)∧m.2.2=D m.1∧guardFree ops m.1=true
 all: ∀ i,i<k→ ¬ Cc i→ ∃ m∈E,m.1=i
theorem Desc.fill {a0:Act} {n0:Nat} (T:TxC ops n0) {vals:Nat→Value} : ∀ (E:List Mk) (S:Nat→Prop) (a:Act),(∀ i,S i→i<n0)→Desc ops a0 S vals a →
  (∀ m∈E,m.1<n0∧m.2.1=(ops[m.1]?).bind (·.dst))→Desc ops a0 (fun i=>S i∨ ∃ m∈E,m.1=i) vals (fillWith vals E a)
 | [],S,a,_,h,_=>h.congr (fun i=>by simp) (fun _ _=>rfl)
 |(i,d,D) :: E,S,a,hS,h,hE=>by
  obtain ⟨hi,hd⟩:=hE _ (List.mem_cons_self ..)
  have hlt:i<ops.size:=Nat.lt_of_lt_of_le hi T.le
  have ho:ops[i]? =some ops[i]:=by simp [hlt]
  simp only at hd hi
  rw [ho,Option.bind_some] at hd
  have h1:=h.put (j:=i) ho fun i' x d' hi' hne hx hd'=>by
   rcases Nat.lt_or_ge i' i with hl|hl
   ·exact T.dist i' i x _ d' hl hi hx ho hd'
   ·intro e
    exact T.dist i i' _ x d' (by omega) (hS _ hi') ho hx e hd'
  have h2:=Desc.fill T E _ _ (fun i' hi'=>hi'.elim (hS i') (fun e=>e▸hi)) h1 (fun m hm=>hE m (List.mem_cons_of_mem _ hm))
  show Desc ops a0 _ vals (fillWith vals E (a.put d (vals i)))
  rw [hd]
  refine h2.congr (fun i'=>?_) (fun _ _=>rfl)
  simp only [List.mem_cons,exists_eq_or_imp]
  constructor
  ·rintro ((h|h)|h)
   ·exact .inl h
   ·exact .inr (.inl h.symm)
   ·exact .inr (.inr h)
  ·rintro (h|h|h)
   ·exact .inl (.inl h)
   ·exact .inl (.inr h.symm)
   ·exact .inr h
theorem not_apart {x y:Oper} {t:Tmp} (hx:x.dst=some t) (ht:t∈y.looksAt ops):x.apart ops y=false:=by
 cases h:x.apart ops y with
 |false=>rfl
 |true=>exact absurd ht ((Oper.apart_spec h).1 t hx)
theorem not_apart' {x y:Oper} {t:Tmp} (hx:y.dst=some t) (ht:t∈x.looksAt ops):x.apart ops y=false:=by
 cases h:x.apart ops y with
 |false=>rfl
 |true=>exact absurd ht ((Oper.apart_spec h).2.2 t hx)
theorem guard_looks {o:Oper} {g:Nat} {b:Bool} {t:Tmp} (hg:o.guard=some (g,b)) (hd:(ops[g]?).bind (·.dst)=some t):t∈o.looksAt ops:=by
 refine List.mem_append_right _ ?_
 simp only [hg,hd,Option.toList_some,List.mem_singleton]
def gOut (P:Program) (R:World→World→Prop) (D:Value→World→Prop) (w:World):Result Next→Prop
 | .ok (.value v) w'=>R w w'∧D v w'
 | .ok .skip w'=>R w w'∧D undef w'
 | .ok (.enter f args) w'=>w'=w∧Calls P f args w (fun e w''=> ∃ v,e= .returned v∧R w w''∧D v w'')
 |_=>False
def gAt (P:Program) (R:World→World→Prop) (o:Oper) (a:Act) (w:World) (D:Value→World→Prop):Prop:=gOut P R D w ((execOp a.eval o).run P w)
theorem gAt.wp {o:Oper} {a:Act} {w:World} {D:Value→World→Prop} {K:Act→World→Prop} {Q:Exit→Act→World→Prop} {R:World→World→Prop} (h:gAt P R o a w D) (hK: ∀ v w',R w w'→D v w'→K (a.put o.dst v) w'):o.wp P a w K Q:=by
 unfold gAt at h
 unfold Oper.wp
 generalize (execOp a.eval o).run P w=r at *
 cases r with
 |ok n w' =>
  cases n <;> simp only [gOut] at h <;> simp only [Oper.upon]
  case value v=>exact hK _ _ h.1 h.2
  case skip=>exact hK _ _ h.1 h.2
  case enter f args =>
   obtain ⟨rfl,hc⟩:=h
   exact hc.mono fun e w'' ⟨v,he,hu,hd⟩=>by subst he;exact hK _ _ hu hd
 |halt x w'=>simp only [gOut] at h
def wpG (P:Program) (ops:Array Oper) (R:Nat→World→World→Prop) (Kc:Nat→World→World→Prop) (C:Nat→World→Prop) (Z:Act→World→Prop):List Oper→Nat→List Mk→Act→Prop
 | [],k,E,a=> ∀ w,C k w→fills E a w (fun a'=>Z a' w)
 |o :: rest,k,E,a =>
  if Region.wanted o (yielded ops a.tmps) then
   (∃ v,(∀ w,C k w→fills (E.filter fun m=>waitsB o m.1) a w (fun a'=>gAt P (R k) o a' w (fun v' _=>v'=v)))∧wpG P ops R Kc C Z rest (k+1) E (a.put o.dst v)) ∨
   (∃ D,guardFree ops k=true∧(∀ v w w',D v w→Kc k w w'→D v w')∧(∀ w,C k w→fills (E.filter fun m=>waitsB o m.1) a w (fun a'=>gAt P (R k) o a' w D))∧wpG P ops R Kc C Z rest (k+1) ((k,o.dst,D) :: E) a)
  else wpG P ops R Kc C Z rest (k+1) E (a.put o.dst undef)
def TurnG (P:Program) (ops:Array Oper) (n0:Nat) (R:Nat→World→World→Prop) (C:Nat→World→Prop) (a0:Act) (D:Nat→Value→World→Prop) (j:Nat) (o:Oper):Prop :=
 ∀ (b:Act) (w:World) (vals:Nat→Value) (S:Nat→Prop),C j w→Desc ops a0 S vals b→(∀ i,S i→i<n0)→(∀ i,S i→i<j→D i (vals i) w)→(∀ i,waitsB o i=true→S i) →
   (∀ i x,S i→ops[i]? =some x→i≠j∧waitsB x j=false) →
   (Region.wanted o (yielded ops b.tmps)=true∧gAt P (R j) o b w (D j))∨(Region.wanted o (yielded ops b.tmps)=false∧D j undef w)
theorem wpG_text {R Kc:Nat→World→World→Prop} {C:Nat→World→Prop} {Z:Act→World→Prop} {a0:Act} {n0:Nat} (T:TxC ops n0): ∀ (l:List Oper) (k:Nat) (E:List Mk) (a:Act) (Cc:Nat→Prop) (cv:Nat→Value) (D:Nat→Value→World→Prop),
  k+l.length=n0→(∀ j,j<l.length→l[j]? =ops[k+j]?)→Lex ops a0 k E a Cc cv D→(∀ i,i<k→ ∀ v w w',D i v w→Kc i w w'→D i v w')→(∀ j o,j<k→ops[j]? =some o→TurnG P ops n0 R C a0 D j o)→wpG P ops R Kc C Z l k E a →
  ∃ D':Nat→Value→World→Prop,(∀ i,i<n0→ ∀ v w w',D' i v w→Kc i w w'→D' i v w')∧(∀ j o,j<n0→ops[j]? =some o→TurnG P ops n0 R C a0 D' j o) ∧
    (∀ (b:Act) (w:World) (vals:Nat→Value),C n0 w→Desc ops a0 (fun i=>i<n0) vals b→(∀ i,i<n0→D' i (vals i) w)→Z b w)
 | [],k,E,a,Cc,cv,D,hk,_,L,hU,hT,h=>by
   simp only [List.length_nil,Nat.add_zero] at hk
   subst hk
   refine ⟨D,hU,hT,fun b w vals hC hb hD=>?_⟩
   classical
   have hf:=(h w hC).inst (vals:=vals) fun m hm=>by
    obtain ⟨h1,_,_,h4,_⟩:=L.mem m hm
    rw [h4];exact hD _ h1
   have hd:=L.desc.congr (S':=fun i=>i<k∧Cc i) (vals':=vals) (fun _=>Iff.rfl) (fun i hi=>(L.const i hi.1 hi.2 _ _ (hD i hi.1)).symm)
   have hd:=Desc.fill T E _ a (fun i hi=>hi.1) hd (fun m hm=>⟨(L.mem m hm).1,(L.mem m hm).2.2.1⟩)
   have:fillWith vals E a=b:=by
    have hag: ∀ t,(fillWith vals E a).tmps[t]? =b.tmps[t]? :=fun t=>hd.agree hb t fun i o ho hdst=>⟨⟨fun hi=>?_,fun hi=>?_⟩,fun _=>rfl⟩
    ·have h1:(fillWith vals E a).tmps=b.tmps:=Array.ext_getElem? hag
     have h2:(fillWith vals E a).defers=b.defers:=hd.defers.trans hb.defers.symm
     cases hx:fillWith vals E a;cases hy:b
     rw [hx,hy] at h1 h2
     simp only at h1 h2
     rw [h1,h2]
    ·rcases hi with hi|⟨m,hm,rfl⟩
     ·exact hi.1
     ·exact (L.mem m hm).1
    ·by_cases hc:Cc i
     ·exact .inl ⟨hi,hc⟩
     ·exact .inr (L.all i hi hc)
   rw [this] at hf
   exact hf
 |o :: rest,k,E,a,Cc,cv,D,hk,hl,L,hU,hT,h=>by
  classical
  simp only [List.length_cons] at hk
  have ho:ops[k]? =some o:=by have:=hl 0 (by simp);simpa using this.symm
  have hkn:k<n0:=by omega
  have hmemo:o∈ops:=Array.mem_of_getElem? ho
  -- what the guard sees
  have hwant: ∀ (b:Act) (w:World) (vals:Nat→Value) (S:Nat→Prop),Desc ops a0 S vals b→(∀ i,S i→i<k→D i (vals i) w)→(∀ i,waitsB o i=true→S i) →
   (∀ i x,S i→ops[i]? =some x→i≠k∧waitsB x k=false)→(∀ i,S i→i<n0)→Region.wanted o (yielded ops b.tmps)=Region.wanted o (yielded ops a.tmps):=by
   intro b w vals S hb hD hw hS hSn
   refine wanted_agree fun g bb t hg hd=>hb.agree L.desc t fun i x hx hxd=>?_
   have hlook:=guard_looks hg hd
   rcases Nat.lt_trichotomy i k with hik|rfl|hik
   ·have hwi:waitsB o i=true:=by
     rcases T.pair i k x o hik hkn hx ho with h|h
     ·exact h
     ·rw [not_apart hxd hlook] at h;cases h
    have hSi:=hw i hwi
    have hCc:Cc i:=by
     by_cases hc:Cc i
     ·exact hc
     ·obtain ⟨m,hm,rfl⟩:=L.all i hik hc
      obtain ⟨_,_,_,_,hgf⟩:=L.mem m hm
      exact absurd hd (guardFree_spec hgf (by rw [hx,Option.bind_some,hxd]) hmemo hg)
    exact ⟨⟨fun _=>⟨hik,hCc⟩,fun _=>hSi⟩,fun _=>L.const i hik hCc _ _ (hD i hSi hik)⟩
   ·exact ⟨⟨fun hi=>absurd rfl (hS i x hi hx).1,fun hi=>absurd hi.1 (Nat.lt_irrefl _)⟩,fun hi=>absurd rfl (hS i x hi hx).1⟩
   ·have hno: ¬ S i:=fun hi=>by
     rcases T.pair k i o x hik (hSn i hi) ho hx with h|h
     ·rw [(hS i x hi hx).2] at h;cases h
     ·rw [not_apart' hxd hlook] at h;cases h
    exact ⟨⟨fun hi=>absurd hi hno,fun hi=>absurd hi.1 (by omega)⟩,fun hi=>absurd hi hno⟩
  have hexec: ∀ (b:Act) (w:World) (vals:Nat→Value) (S:Nat→Prop) (D1:Value→World→Prop),Desc ops a0 S vals b→(∀ i,S i→i<k→D i (vals i) w)→(∀ i,waitsB o i=true→S i) →
   (∀ i x,S i→ops[i]? =some x→i≠k∧waitsB x k=false)→(∀ i,S i→i<n0)→fills (E.filter fun m=>waitsB o m.1) a w (fun a'=>gAt P (R k) o a' w D1)→gAt P (R k) o b w D1:=by
   intro b w vals S D1 hb hD hw hS hSn hf
   have hf:=hf.inst (vals:=fun i=>if Cc i then cv i else vals i) fun m hm=>by
    obtain ⟨hm1,hm2⟩:=List.mem_filter.1 hm
    obtain ⟨h1,h2,_,h4,_⟩:=L.mem m hm1
    rw [h4,if_neg h2]
    exact hD _ (hw _ hm2) h1
   have hd:=L.desc.congr (S':=fun i=>i<k∧Cc i) (vals':=fun i=>if Cc i then cv i else vals i) (fun _=>Iff.rfl) (fun i hi=>by simp only [hi.2,if_true])
   have hd:=Desc.fill T (E.filter fun m=>waitsB o m.1) _ a (fun i hi=>Nat.lt_trans hi.1 hkn) hd (fun m hm=>by
    obtain ⟨h1,_,h3,_⟩:=L.mem m (List.mem_filter.1 hm).1
    exact ⟨Nat.lt_trans h1 hkn,h3⟩)
   have he:execOp b.eval o=execOp (fillWith (fun i=>if Cc i then cv i else vals i) (E.filter fun m=>waitsB o m.1) a).eval o:=by
    refine exec_agree (ops:=ops) (T.sel k o · · ho) fun t hlook=>hb.agree hd t fun i x hx hxd=>?_
    rcases Nat.lt_trichotomy i k with hik|rfl|hik
    ·have hwi:waitsB o i=true:=by
      rcases T.pair i k x o hik hkn hx ho with h|h
      ·exact h
      ·rw [not_apart hxd hlook] at h;cases h
     have hSi:=hw i hwi
     by_cases hc:Cc i
     ·exact ⟨⟨fun _=> .inl ⟨hik,hc⟩,fun _=>hSi⟩,fun _=>by simp only [hc,if_true];exact L.const i hik hc _ _ (hD i hSi hik)⟩
     ·obtain ⟨m,hm,rfl⟩:=L.all i hik hc
      exact ⟨⟨fun _=> .inr ⟨m,List.mem_filter.2 ⟨hm,hwi⟩,rfl⟩,fun _=>hSi⟩,fun _=>by simp only [hc,if_false]⟩
    ·refine ⟨⟨fun hi=>absurd rfl (hS i x hi hx).1,fun hi=>?_⟩,fun hi=>absurd rfl (hS i x hi hx).1⟩
     rcases hi with hi|⟨m,hm,hmi⟩
     ·exact absurd hi.1 (Nat.lt_irrefl _)
     ·exact absurd (hmi▸(L.mem m (List.mem_filter.1 hm).1).1) (Nat.lt_irrefl _)
    ·have hno: ¬ S i:=fun hi=>by
      rcases T.pair k i o x hik (hSn i hi) ho hx with h|h
      ·rw [(hS i x hi hx).2] at h;cases h
      ·rw [not_apart' hxd hlook] at h;cases h
     refine ⟨⟨fun hi=>absurd hi hno,fun hi=>?_⟩,fun hi=>absurd hi hno⟩
     rcases hi with hi|⟨m,hm,rfl⟩
     ·exact absurd hi.1 (by omega)
     ·exact absurd (L.mem m (List.mem_filter.1 hm).1).1 (by omega)
   unfold gAt at hf ⊢
   rw [he]
   exact hf
  have hrest:k+1+rest.length=n0:=by omega
  have hlrest: ∀ j,j<rest.length→rest[j]? =ops[k+1+j]? :=fun j hj=>by
   have:=hl (j+1) (by simp only [List.length_cons];omega)
   rw [List.getElem?_cons_succ] at this
   rw [this,Nat.add_assoc,Nat.add_comm 1 j]
  have hdst: ∀ (i:Nat) (x:Oper) (d:Tmp),i<k→ops[i]? =some x→x.dst=some d→o.dst≠some d:=fun i x d hi hx hd=>T.dist i k x o d hi hkn hx ho hd
  have hotk: ∀ (Dk:Value→World→Prop) (i:Nat),i<k→(fun i=>if i=k then Dk else D i) i=D i:=fun Dk i hi=>by simp only [show ¬ i=k by omega,if_false]
  have hTurn: ∀ (Dk:Value→World→Prop),TurnG P ops n0 R C a0 (fun i=>if i=k then Dk else D i) k o→ ∀ j x,j<k+1→ops[j]? =some x→TurnG P ops n0 R C a0 (fun i=>if i=k then Dk else D i) j x:=fun Dk h0 j x hj hx=>by
   by_cases hjk:j=k
   ·subst hjk
    rw [ho] at hx;cases hx
    exact h0
   ·intro b w vals S hC hb hSn hD hw hS
    have:=hT j x (by omega) hx b w vals S hC hb hSn (fun i hi hij=>by have:=hD i hi hij;rwa [hotk Dk i (by omega)] at this) hw hS
    rw [hotk Dk j (by omega)]
    exact this
  have hUp: ∀ (Dk:Value→World→Prop),(∀ v w w',Dk v w→Kc k w w'→Dk v w')→ ∀ i,i<k+1→ ∀ v w w',(fun i=>if i=k then Dk else D i) i v w→Kc i w w'→(fun i=>if i=k then Dk else D i) i v w':=fun Dk h0 i hi v=>by
   by_cases hik:i=k
   ·subst hik;simp only [if_true];exact h0 v
   ·rw [hotk Dk i (by omega)];exact hU i (by omega) v
  have hLexC: ∀ (u:Value),Lex ops a0 (k+1) E (a.put o.dst u) (fun i=>Cc i∨i=k) (fun i=>if i=k then u else cv i) (fun i=>if i=k then (fun v' _=>v'=u) else D i):=fun u=>by
   refine ⟨?_,?_,?_,?_⟩
   ·have h1:=L.desc.congr (S':=fun i=>i<k∧Cc i) (vals':=fun i=>if i=k then u else cv i) (fun _=>Iff.rfl) (fun i hi=>by simp only [show ¬ i=k by omega,if_false])
    have h2:=h1.put (j:=k) ho fun i x d hi _ hx hd=>hdst i x d hi.1 hx hd
    simp only [if_true] at h2
    refine h2.congr (fun i=>?_) (fun _ _=>rfl)
    constructor
    ·rintro (⟨h,h'⟩|rfl)
     ·exact ⟨by omega,.inl h'⟩
     ·exact ⟨by omega,.inr rfl⟩
    ·rintro ⟨h,h'|rfl⟩
     ·by_cases hik:i=k
      ·exact .inr hik
      ·exact .inl ⟨by omega,h'⟩
     ·exact .inr rfl
   ·intro i hi hc v w hD
    by_cases hik:i=k
    ·simp only [hik,if_true] at hD ⊢;exact hD
    ·simp only [hik,if_false] at hD ⊢
     exact L.const i (by omega) (hc.resolve_right hik) v w hD
   ·intro m hm
    obtain ⟨h1,h2,h3,h4,h5⟩:=L.mem m hm
    exact ⟨by omega,fun h=>h.elim h2 (by omega),h3,by rw [h4];simp only [show ¬ m.1=k by omega,if_false],h5⟩
   ·intro i hi hc
    exact L.all i (by have:i≠k:=fun h=>hc (.inr h);omega) (fun h=>hc (.inl h))
  have hLexM: ∀ (Dk:Value→World→Prop),guardFree ops k=true→Lex ops a0 (k+1) ((k,o.dst,Dk) :: E) a (fun i=>Cc i∧i≠k) cv (fun i=>if i=k then Dk else D i):=fun Dk hg=>by
   refine ⟨?_,?_,?_,?_⟩
   ·refine L.desc.congr (fun i=>?_) (fun _ _=>rfl)
    constructor
    ·rintro ⟨h,h'⟩;exact ⟨by omega,h',by omega⟩
    ·rintro ⟨h,h',h''⟩;exact ⟨by omega,h'⟩
   ·intro i hi hc v w hD
    simp only [hc.2,if_false] at hD
    exact L.const i (by have:=hc.2;omega) hc.1 v w hD
   ·intro m hm
    rcases List.mem_cons.1 hm with rfl|hm
    ·exact ⟨by simp,fun h=>h.2 rfl,by simp only [ho,Option.bind_some],by simp only [if_true],hg⟩
    ·obtain ⟨h1,h2,h3,h4,h5⟩:=L.mem m hm
     exact ⟨by omega,fun h=>h2 h.1,h3,by rw [h4];simp only [show ¬ m.1=k by omega,if_false],h5⟩
   ·intro i hi hc
    by_cases hik:i=k
    ·exact ⟨_,List.mem_cons_self ..,hik.symm⟩
    ·obtain ⟨m,hm,hmi⟩:=L.all i (by omega) (fun h=>hc ⟨h,hik⟩)
     exact ⟨m,List.mem_cons_of_mem _ hm,hmi⟩
  unfold wpG at h
  by_cases hwt:Region.wanted o (yielded ops a.tmps)=true
  ·simp only [hwt,if_true] at h
   rcases h with ⟨v,h1,h2⟩|⟨Dk,hg,hcl,h1,h2⟩
   ·refine wpG_text T rest (k+1) E _ _ _ _ hrest hlrest (hLexC v) (hUp _ fun _ _ _ h _=>h) (hTurn _ ?_) h2
    intro b w vals S hC hb hSn hD hw hS
    have hD': ∀ i,S i→i<k→D i (vals i) w:=fun i hi hik=>by have:=hD i hi hik;rwa [hotk _ i hik] at this
    refine .inl ⟨(hwant b w vals S hb hD' hw hS hSn).trans hwt,?_⟩
    simp only [if_true]
    exact hexec b w vals S _ hb hD' hw hS hSn (h1 w hC)
   ·refine wpG_text T rest (k+1) _ _ _ _ _ hrest hlrest (hLexM Dk hg) (hUp _ hcl) (hTurn _ ?_) h2
    intro b w vals S hC hb hSn hD hw hS
    have hD': ∀ i,S i→i<k→D i (vals i) w:=fun i hi hik=>by have:=hD i hi hik;rwa [hotk _ i hik] at this
    refine .inl ⟨(hwant b w vals S hb hD' hw hS hSn).trans hwt,?_⟩
    simp only [if_true]
    exact hexec b w vals S _ hb hD' hw hS hSn (h1 w hC)
  ·simp only [hwt] at h
   refine wpG_text T rest (k+1) E _ _ _ _ hrest hlrest (hLexC undef) (hUp _ fun _ _ _ h _=>h) (hTurn _ ?_) h
   intro b w vals S hC hb hSn hD hw hS
   have hD': ∀ i,S i→i<k→D i (vals i) w:=fun i hi hik=>by have:=hD i hi hik;rwa [hotk _ i hik] at this
   refine .inr ⟨(hwant b w vals S hb hD' hw hS hSn).trans (by simpa using hwt),?_⟩
   simp only [if_true]
theorem ready_one {n0 k:Nat} (T:UpText ops n0) {listed:Array Bool} (hk:k<ops.size) (h1: ∀ i,i<k→listed.getD i false=true) (h2: ∀ i,k≤i→i<ops.size→listed.getD i true=false) (hn:n0≤k) :
  ∀ i,i∈Region.ready .any ops listed→i=k:=by
 intro i hi
 obtain ⟨hun,o,ho,hall⟩:=mem_ready.1 hi
 have hlt:i<ops.size:=(Array.getElem?_eq_some_iff.1 ho).1
 rcases Nat.lt_trichotomy i k with h|h|h
 ·have:=h1 i h
  have:=getD_both hun
  simp_all
 ·exact h
 ·have hcl: ∀ (j:Nat) (o:Oper),ops[j]? =some o→listed.getD j false=true→ ∀ e∈o.after,Region.binds .any e=true→listed.getD e.on false=true:=fun j x hj hl e he hb=>by
   have hjs:j<ops.size:=(Array.getElem?_eq_some_iff.1 hj).1
   rcases Nat.lt_or_ge j k with hjk|hjk
   ·exact h1 _ (by have:=T.lex j x hj e he hb;omega)
   ·have:=getD_both (h2 j hjk hjs);simp_all
  have hr:=reach_listed hcl 12 i k (T.tail k i o h (by omega) ho) (fun o' ho'=>by rw [ho] at ho';cases ho';exact hall)
  have:=getD_both (h2 k (Nat.le_refl _) hk)
  simp_all
theorem wpAny_tail {n0:Nat} (T:UpText ops n0) {Q:Exit→Act→World→Prop} : ∀ (l:List Oper) (k fuel:Nat) (listed:Array Bool) (a:Act) (w:World),n0≤k→k+l.length=ops.size→l.length≤fuel→(∀ j,j<l.length→l[j]? =ops[k+j]?) →
  listed.size=ops.size→(∀ i,i<k→listed.getD i false=true)→(∀ i,k≤i→i<ops.size→listed.getD i true=false)→wpList P ops Q l a w→wpAny P .any ops Q fuel listed a w
 | [],k,fuel,listed,a,w,_,hk,_,_,hsz,h1,_,h=>by
   simp only [List.length_nil,Nat.add_zero] at hk
   have hr:Region.ready .any ops listed= []:=by
    rcases hx:Region.ready .any ops listed with _|⟨i,xs⟩
    ·rfl
    ·have hi:i∈Region.ready .any ops listed:=by rw [hx];exact List.mem_cons_self ..
     obtain ⟨hun,o,ho,_⟩:=mem_ready.1 hi
     have hlt:i<ops.size:=(Array.getElem?_eq_some_iff.1 ho).1
     have:=h1 i (by omega)
     have:=getD_both hun
     simp_all
   cases fuel with
   |zero=>exact ⟨hr,h⟩
   |succ f=>exact ⟨fun _=>h,fun i hi=>by rw [hr] at hi;cases hi⟩
 |o :: l,k,fuel,listed,a,w,hn,hk,hf,hl,hsz,h1,h2,h=>by
  simp only [List.length_cons] at hk hf
  obtain ⟨f,rfl⟩: ∃ f,fuel=f+1:=⟨fuel - 1,by omega⟩
  have ho:ops[k]? =some o:=by have:=hl 0 (by simp);simpa using this.symm
  have hlt:k<ops.size:=(Array.getElem?_eq_some_iff.1 ho).1
  have hkr:k∈Region.ready .any ops listed:=mem_ready.2 ⟨h2 k (Nat.le_refl _) hlt,o,ho,fun e he hb=>h1 _ (T.lex k o ho e he hb)⟩
  refine ⟨fun hr=>(by rw [hr] at hkr;cases hkr),fun i hi=>?_⟩
  obtain rfl:=ready_one T hlt h1 h2 hn i hi
  unfold wpList at h
  unfold wpOp
  have hnext: ∀ a w,wpList P ops Q l a w→wpAny P .any ops Q f (listed.setIfInBounds i true) a w:=fun a w h=>by
   refine wpAny_tail T l (i+1) f _ a w (by omega) (by omega) (by omega) (fun j hj=>?_) (by simp [hsz]) (fun j hj=>?_) (fun j hj hjs=>?_) h
   ·have:=hl (j+1) (by simp only [List.length_cons];omega)
    rw [List.getElem?_cons_succ] at this
    rw [this,Nat.add_assoc,Nat.add_comm 1 j]
   ·by_cases hji:i=j
    ·subst hji;simp [hsz,hlt]
    ·exact getD_set_true (h1 j (by omega))
   ·rw [getD_set_ne true (by omega)];exact h2 j (by omega) hjs
  simp only [ho]
  split
  ·rename_i hw
   simp only [hw,if_true] at h
   exact h.imp (Oper.wp_mono hnext) id
  ·rename_i hw
   simp only [hw] at h
   exact hnext _ _ h
theorem wpAny_g {R Kc:Nat→World→World→Prop} {C:Nat→World→Prop} {I:(Nat→Prop)→World→Prop} (hIC: ∀ S w j,I S w→ ¬ S j→C j w) (hIR: ∀ S w w' j,I S w→ ¬ S j→R j w w'→I (fun i=>S i∨i=j) w') (hRr: ∀ j w,R j w w) (hRK: ∀ k j w w',j≠k→R j w w'→Kc k w w') {a0:Act} {n0:Nat} (T:UpText ops n0) {D:Nat→Value→World→Prop} {Q:Exit→Act→World→Prop} (hU: ∀ i,i<n0→ ∀ v w w',D i v w→Kc i w w'→D i v w') (hT: ∀ j o,j<n0→ops[j]? =some o→TurnG P ops n0 R C a0 D j o)
  (hZ: ∀ (b:Act) (w:World) (vals:Nat→Value),C n0 w→Desc ops a0 (fun i=>i<n0) vals b→(∀ i,i<n0→D i (vals i) w)→wpList P ops Q (ops.toList.drop n0) b w) :
  ∀ (fuel:Nat) (L:List Nat) (listed:Array Bool) (a:Act) (w:World) (vals:Nat→Value),L.length+(ops.size - n0)≤fuel→(∀ i,i<n0→listed.getD i true=false→i∈L)→listed.size=ops.size →
    (∀ i,n0≤i→i<ops.size→listed.getD i true=false)→(∀ j o,ops[j]? =some o→listed.getD j false=true→ ∀ e∈o.after,Region.binds .any e=true→listed.getD e.on false=true) →
    I (fun i=>listed.getD i false=true) w→Desc ops a0 (fun i=>listed.getD i false=true) vals a→(∀ i,listed.getD i false=true→D i (vals i) w)→wpAny P .any ops Q fuel listed a w:=by
 intro fuel
 induction fuel with
 |zero =>
  intro L listed a w vals hL hun hsz htl hcl hC hd hD
  have hnot: ¬ listed.getD n0 false=true:=fun e=>by
   rcases Nat.lt_or_ge n0 ops.size with h|h
   ·have:=getD_both (htl n0 (Nat.le_refl _) h);simp_all
   ·rw [Array.getD_eq_getD_getElem?,Array.getElem?_eq_none (by omega)] at e;cases e
  have hL0:L= []:=List.length_eq_zero_iff.1 (by omega)
  subst hL0
  have hn:n0=ops.size:=by have:=T.le;omega
  have hall: ∀ i,i<n0→listed.getD i false=true:=fun i hi=>by
   cases h:listed.getD i false with
   |true=>rfl
   |false=>exact absurd (hun i hi (getD_in (by omega) h)) List.not_mem_nil
  refine wpAny_tail T (ops.toList.drop n0) n0 0 listed a w (Nat.le_refl _) (by simp;omega) (by simp;omega) (fun j hj=>by simp) hsz hall (fun i h1 h2=>by omega) (hZ a w vals (hIC _ w n0 hC hnot) (hd.congr (fun i=>⟨fun h=>?_,hall i⟩) fun _ _=>rfl) (fun i hi=>hD i (hall i hi)))
  rcases Nat.lt_or_ge i n0 with hi|hi
  ·exact hi
  ·rw [Array.getD_eq_getD_getElem?,Array.getElem?_eq_none (by omega)] at h;cases h
 |succ fuel ih =>
  intro L listed a w vals hL hun hsz htl hcl hC hd hD
  have hnot: ¬ listed.getD n0 false=true:=fun e=>by
   rcases Nat.lt_or_ge n0 ops.size with h|h
   ·have:=getD_both (htl n0 (Nat.le_refl _) h);simp_all
   ·rw [Array.getD_eq_getD_getElem?,Array.getElem?_eq_none (by omega)] at e;cases e
  by_cases hall: ∀ i,i<n0→listed.getD i false=true
  ·refine wpAny_tail T (ops.toList.drop n0) n0 (fuel+1) listed a w (Nat.le_refl _) (by simp;have:=T.le;omega) (by simp;omega) (fun j hj=>by simp) hsz hall htl (hZ a w vals (hIC _ w n0 hC hnot) (hd.congr (fun i=>⟨fun h=>?_,hall i⟩) fun _ _=>rfl) (fun i hi=>hD i (hall i hi)))
   rcases Nat.lt_or_ge i n0 with hi|hi
   ·exact hi
   ·rcases Nat.lt_or_ge i ops.size with his|his
    ·have:=getD_both (htl i hi his);simp_all
    ·rw [Array.getD_eq_getD_getElem?,Array.getElem?_eq_none (by omega)] at h;cases h
  · -- the least one that is not listed is ready
    have hready:Region.ready .any ops listed≠ []∧ ∀ i∈Region.ready .any ops listed,i<n0:=by
     obtain ⟨m,hm,hmn,hmin⟩: ∃ m,m<n0∧listed.getD m false=false∧ ∀ i,i<m→listed.getD i false=true:=by
      have: ∀ d,(∀ i,i<d→listed.getD i false=true)∨ ∃ m,m<d∧listed.getD m false=false∧ ∀ i,i<m→listed.getD i false=true:=by
       intro d
       induction d with
       |zero=>exact .inl fun i hi=>absurd hi (Nat.not_lt_zero _)
       |succ d ihd =>
        rcases ihd with h|⟨m,h1,h2⟩
        ·cases hx:listed.getD d false with
         |false=>exact .inr ⟨d,by omega,hx,h⟩
         |true =>
          refine .inl fun i hi=>?_
          rcases Nat.lt_or_ge i d with h'|h'
          ·exact h i h'
          ·have hid:i=d:=by omega
           rw [hid];exact hx
        ·exact .inr ⟨m,by omega,h2⟩
      rcases this n0 with h|h
      ·exact absurd h hall
      ·exact h
     have hms:m<ops.size:=Nat.lt_of_lt_of_le hm T.le
     have hmt:listed.getD m true=false:=getD_in (by omega) hmn
     refine ⟨fun hr=>?_,fun i hi=>?_⟩
     ·have:m∈Region.ready .any ops listed:=mem_ready.2 ⟨hmt,ops[m],by simp [hms],fun e he hb=>hmin _ (T.lex m _ (by simp [hms]) e he hb)⟩
      rw [hr] at this;cases this
     ·obtain ⟨_,o,ho,hal⟩:=mem_ready.1 hi
      rcases Nat.lt_or_ge i n0 with h|h
      ·exact h
      ·have hr:=reach_listed hcl 12 i m (T.tail m i o (by omega) h ho) (fun o' ho'=>by rw [ho] at ho';cases ho';exact hal)
       rw [hmn] at hr
       cases hr
    refine ⟨fun hr=>absurd hr hready.1,fun i hi=>?_⟩
    have hin:=hready.2 i hi
    obtain ⟨hunl,o,ho,hal⟩:=mem_ready.1 hi
    have his:i<ops.size:=(Array.getElem?_eq_some_iff.1 ho).1
    have hilf:listed.getD i false=false:=getD_both hunl
    have hSn: ∀ j,listed.getD j false=true→j<n0:=fun j hj=>by
     rcases Nat.lt_or_ge j n0 with h|h
     ·exact h
     ·rcases Nat.lt_or_ge j ops.size with his|his
      ·have:=getD_both (htl j h his);simp_all
      ·rw [Array.getD_eq_getD_getElem?,Array.getElem?_eq_none (by omega)] at hj;cases hj
    have hturn:=hT i o hin ho a w vals (fun j=>listed.getD j false=true) (hIC _ w i hC (by rw [hilf];simp)) hd hSn (fun j hj _=>hD j hj) (fun j hj=>by
     obtain ⟨e,he,hb⟩:=waitsB_spec hj
     rw [← hb.2];exact hal e he hb.1) (fun j x hj hx=>⟨fun hji=>(by subst hji;rw [hilf] at hj;cases hj),by
     cases hxw:waitsB x i with
     |false=>rfl
     |true =>
      obtain ⟨e,he,hb⟩:=waitsB_spec hxw
      have:=hcl j x hx hj e he hb.1
      rw [hb.2,hilf] at this
      cases this⟩)
    -- what follows, the value being v, the world w'
    have hnext: ∀ v w',R i w w'→D i v w'→wpAny P .any ops Q fuel (listed.setIfInBounds i true) (a.put o.dst v) w':=by
     intro v w' hu hv
     refine ih (L.erase i) (listed.setIfInBounds i true) _ w' (fun j=>if j=i then v else vals j) ?_ ?_ (by simp [hsz]) ?_ ?_ (by have h1:=hIR _ w w' i hC (by rw [hilf];simp) hu;have e:(fun j=>listed.getD j false=true∨j=i)=(fun j=>(listed.setIfInBounds i true).getD j false=true):=(by funext j;by_cases hji:j=i;(· subst hji;simp [hsz,his]);(· rw [getD_set_ne false (Ne.symm hji)];simp [hji]));rw [e] at h1;exact h1) ?_ ?_
     ·have hmem:=hun i hin hunl
      have:=List.length_erase_of_mem hmem
      have hpos:0<L.length:=List.length_pos_of_mem hmem
      omega
     ·intro j hj hjl
      by_cases hji:j=i
      ·subst hji;simp [hsz,his] at hjl
      ·rw [getD_set_ne true (Ne.symm hji)] at hjl
       exact (List.mem_erase_of_ne hji).2 (hun j hj hjl)
     ·intro j hj hjs
      rw [getD_set_ne true (by omega)];exact htl j hj hjs
     ·intro j x hx hjl e he hb
      by_cases hji:j=i
      ·subst hji
       rw [ho] at hx;cases hx
       exact getD_set_true (hal e he hb)
      ·rw [getD_set_ne false (Ne.symm hji)] at hjl
       exact getD_set_true (hcl j x hx hjl e he hb)
     ·have h1:=hd.congr (S':=fun j=>listed.getD j false=true) (vals':=fun j=>if j=i then v else vals j) (fun _=>Iff.rfl) (fun j hj=>by
       have: ¬ j=i:=fun h=>by subst h;rw [hilf] at hj;cases hj
       simp only [this,if_false])
      have h2:=h1.put (j:=i) ho fun j x d hj hne hx hd'=>by
       rcases Nat.lt_or_ge j i with hl|hl
       ·exact T.dist j i x o d hl hin hx ho hd'
       ·intro e
        exact T.dist i j o x d (by omega) (hSn j hj) ho hx e hd'
      simp only [if_true] at h2
      refine h2.congr (fun j=>?_) (fun _ _=>rfl)
      by_cases hji:j=i
      ·subst hji;simp [hsz,his]
      ·rw [getD_set_ne false (Ne.symm hji)];simp [hji]
     ·intro j hj
      by_cases hji:j=i
      ·subst hji;simp only [if_true];exact hv
      ·rw [getD_set_ne false (Ne.symm hji)] at hj
       simp only [hji,if_false]
       exact hU j (hSn j hj) _ _ _ (hD j hj) (hRK j i _ _ (fun e=>hji e.symm) hu)
    unfold wpOp
    simp only [ho]
    rcases hturn with ⟨hw,hat⟩|⟨hw,hdu⟩
    ·simp only [hw,if_true]
     exact .inl (hat.wp hnext)
    ·simp only [hw,Bool.false_eq_true,if_false]
     exact hnext undef w (hRr i w) hdu
theorem gAt_up {o:Oper} {a:Act} {w:World} {D:Value→World→Prop} (h:upAt P o a w D):gAt P Up o a w D:=by
 unfold upAt at h
 unfold gAt
 generalize (execOp a.eval o).run P w=r at *
 cases r with
 |ok n w'=>cases n <;> exact h
 |halt x w'=>exact h
theorem fills_mono {w:World} {K K':Act→Prop} (h: ∀ a,K a→K' a): ∀ {E:List Mk} {a:Act},fills E a w K→fills E a w K'
 | [],_,hf=>h _ hf
 |(_,_,_) :: _,_,hf=>fun v hv=>fills_mono h (hf v hv)
theorem wpUp_wpG {C:World→Prop} {Z:Act→World→Prop} : ∀ (l:List Oper) (k:Nat) (E:List Mk) (a:Act),wpUp P ops C Z l k E a→wpG P ops (fun _=>Up) (fun _=>Up) (fun _=>C) Z l k E a
 | [],k,E,a,h=>h
 |o :: rest,k,E,a,h=>by
  unfold wpUp at h
  unfold wpG
  split
  ·next hw =>
   simp only [hw,if_true] at h
   rcases h with ⟨v,h1,h2⟩|⟨D,hg,hc,h1,h2⟩
   ·exact .inl ⟨v,fun w hC=>fills_mono (fun a' h=>gAt_up h) (h1 w hC),wpUp_wpG rest _ _ _ h2⟩
   ·exact .inr ⟨D,hg,fun v w w' hd hu=>hc v w w' hd hu,fun w hC=>fills_mono (fun a' h=>gAt_up h) (h1 w hC),wpUp_wpG rest _ _ _ h2⟩
  ·next hw =>
   simp only [hw] at h
   exact wpUp_wpG rest _ _ _ h
structure WUp (P:Program) (ops:Array Oper) (C:World→Prop) (Z:Act→World→Prop) (l:List Oper) (k:Nat) (E:List Mk) (a:Act):Prop where
 out:wpUp P ops C Z l k E a
theorem wp_region_up (n0:Nat) {id:Nat} {Q:Exit→Act→World→Prop} {a:Act} {w:World} {l:List Oper} (hm:P.follows .mixedOrders=true) (hB:upB l.toArray n0=true)
  (h:WUp P l.toArray (fun w'=>Up w w') (fun a' w'=>wpList P l.toArray Q (l.drop n0) a' w') (l.take n0) 0 [] a):(Code.region id l.toArray true).wp P Q a w:=by
 have T:=upB_text hB
 have hle:n0≤l.length:=by simpa using T.le
 obtain ⟨D,hU,hT,hZ⟩:=wpG_text (R:=fun _=>Up) (Kc:=fun _=>Up) (C:=fun _ w'=>Up w w') (Z:=fun a' w'=>wpList P l.toArray Q (l.drop n0) a' w') (a0:=a) (n0:=n0) T.c (l.take n0) 0 [] a (fun _=>False) (fun _=>undef) (fun _ _ _=>False) (by simp [hle]) (fun j hj=>by
  simp only [List.length_take] at hj
  simp [show j<n0 by omega]) ⟨(Desc.refl a (fun _=>undef)).congr (fun i=>by simp) (fun _ h=>h.elim),fun i hi=>absurd hi (Nat.not_lt_zero _),fun m hm=>(by cases hm),fun i hi=>absurd hi (Nat.not_lt_zero _)⟩
  (fun i hi=>absurd hi (Nat.not_lt_zero _)) (fun j o hj=>absurd hj (Nat.not_lt_zero _)) (wpUp_wpG _ _ _ _ h.out)
 refine wp_region_any hm (wpAny_g (R:=fun _=>Up) (Kc:=fun _=>Up) (C:=fun _ w'=>Up w w') (I:=fun _ w'=>Up w w') (fun S w' j hI hS=>hI) (fun S w1 w2 j hI hS hR=>hI.trans hR) (fun j w'=>Up.refl _) (fun k j w1 w2 hne hR=>hR) (a0:=a) T hU hT (by simpa using hZ) _ (List.range n0) _ a _ (fun _=>undef) (by simp;omega) (fun i hi _=>List.mem_range.2 hi) (by simp) (fun i hi his=>by
  have:i<l.length:=by simpa using his
  simp [this]) (fun j o ho hj=>?_) ?_ ?_ ?_)
 ·rw [getD_replicate_false] at hj;cases hj
 ·exact ⟨rfl,rfl,rfl,Nat.le_refl _,fun _ _=>rfl⟩
 ·exact (Desc.refl a (fun _=>undef)).congr (fun i=>by rw [getD_replicate_false];simp) (fun _ h=>h.elim)
 ·intro i hi;rw [getD_replicate_false] at hi;cases hi
section
variable {C:World→Prop} {Z:Act→World→Prop} {o:Oper} {rest:List Oper} {k:Nat} {E:List Mk} {a:Act}
def stepU (P:Program) (ops:Array Oper) (C:World→Prop) (E:List Mk) (k:Nat) (o:Oper) (a:Act) (K:List Mk→Act→Prop):Prop :=
 (∃ v,(∀ w,C w→fills (E.filter fun m=>waitsB o m.1) a w (fun a'=>upAt P o a' w (fun v' _=>v'=v)))∧K E (a.put o.dst v)) ∨
 (∃ D,guardFree ops k=true∧(∀ v,UpClosed (D v))∧(∀ w,C w→fills (E.filter fun m=>waitsB o m.1) a w (fun a'=>upAt P o a' w D))∧K ((k,o.dst,D) :: E) a)
theorem wpUp_step (h: ∀ K:List Mk→Act→Prop,(∀ E a,WUp P ops C Z rest (k+1) E a→K E a)→if Region.wanted o (yielded ops a.tmps) then stepU P ops C E k o a K else K E (a.put o.dst undef)):WUp P ops C Z (o :: rest) k E a:=by
 have:=h (fun E a=>wpUp P ops C Z rest (k+1) E a) fun _ _ h=>h.out
 refine ⟨?_⟩
 unfold wpUp
 exact this
theorem stepU_c {K:List Mk→Act→Prop} (v:Value) (h1: ∀ w,C w→fills (E.filter fun m=>waitsB o m.1) a w (fun a'=>upAt P o a' w (fun v' _=>v'=v))) (h2:K E (a.put o.dst v)):stepU P ops C E k o a K:= .inl ⟨v,h1,h2⟩
theorem stepU_m {K:List Mk→Act→Prop} (hg:guardFree ops k=true) (D:Value→World→Prop) (hD: ∀ v,UpClosed (D v))
  (h1: ∀ w,C w→fills (E.filter fun m=>waitsB o m.1) a w (fun a'=>upAt P o a' w D)) (h2:K ((k,o.dst,D) :: E) a):stepU P ops C E k o a K:= .inr ⟨D,hg,hD,h1,h2⟩
theorem fills_no {x:Oper} {i:Nat} {d:Option Tmp} {D:Value→World→Prop} {w:World} {K:Act→Prop} (h:waitsB x i=false) (hf:fills (E.filter fun m=>waitsB x m.1) a w K):fills (((i,d,D) :: E).filter fun m=>waitsB x m.1) a w K:=by
 rw [List.filter_cons_of_neg (by simp [h])];exact hf
theorem fills_yes {x:Oper} {i:Nat} {d:Option Tmp} {D:Value→World→Prop} {w:World} {K:Act→Prop} (h:waitsB x i=true) (hf: ∀ v,D v w→fills (E.filter fun m=>waitsB x m.1) (a.put d v) w K):fills (((i,d,D) :: E).filter fun m=>waitsB x m.1) a w K:=by
 rw [List.filter_cons_of_pos (by simp [h])];exact hf
theorem wpUp_nil (h: ∀ w,C w→fills E a w (fun a'=>Z a' w)):WUp P ops C Z [] k E a:=⟨h⟩
end
abbrev Same (v:Value) (w:World) (e:Ending) (w':World):Prop:=e= .returned v∧Up w w'
theorem upOut_value {w:World} {v:Value} :upOut P (fun v' _=>v'=v) w (.ok (.value v) w):=⟨Up.refl _,rfl⟩
theorem upOut_call {f:FuncId} {args:Array Value} {w:World} {v:Value} (h:Calls P f args w (Same v w)):upOut P (fun v' _=>v'=v) w (.ok (.enter f args) w) :=
 ⟨rfl,h.mono fun _ _ ⟨he,hu⟩=>⟨v,he,hu,rfl⟩⟩
theorem upOut_eq {f:FuncId} {args:Array Value} {w:World} {v:Value} (h:Calls P f args w (fun e w'=>e= .returned v∧w=w')):upOut P (fun v' _=>v'=v) w (.ok (.enter f args) w) :=
 ⟨rfl,h.mono fun _ _ ⟨he,hu⟩=>⟨v,he,hu▸Up.refl _,rfl⟩⟩
theorem upOut_make {w w':World} {v:Value} {D:Value→World→Prop} (hu:Up w w') (h:D v w'):upOut P D w (.ok (.value v) w'):=⟨hu,h⟩
theorem Up.alloc {a w:World} (h:Up a w) (o:Obj):Up a (w.alloc o):=Below.alloc h h.size o
theorem Up.set {a w:World} (h:Up a w) {p:Addr} (hp:a.heap.size≤p.block) (u:Value):Up a (w.setCell p u):=Below.setCell h hp u
theorem Up.drew {a w:World} (h:Up a w):Up a w.drew:=Below.drew h
def Boxed (B0:Nat) (cs:Array Value) (T:TypeId) (v:Value) (w:World):Prop:= ∃ b,v= .pointer (some ⟨b,0,none⟩)∧B0≤b∧w.heap[b]? =some (.cells cs T)
theorem boxed_closed (B0:Nat) (cs:Array Value) (T:TypeId) (v:Value):UpClosed (Boxed B0 cs T v):=fun w w' ⟨b,h1,h2,h3⟩ hu =>
 ⟨b,h1,h2,(hu.block b (Array.getElem?_eq_some_iff.1 h3).1).trans h3⟩
theorem boxed_new {B0:Nat} {cs:Array Value} {T:TypeId} {w:World} (h:B0≤w.heap.size):Boxed B0 cs T (.pointer (some ⟨w.heap.size,0,none⟩)) (w.alloc (.cells cs T)) :=
 ⟨_,rfl,h,(MapKept.heap_alloc w _).1⟩
theorem box_cell {w:World} {b:Nat} {cs:Array Value} {T:TypeId} (h:w.heap[b]? =some (.cells cs T)) (i:Nat):w.cell? ⟨b,i,none⟩=cs[i]? :=by
 unfold World.cell?
 simp [h]
theorem box_free {w:World} {b:Nat} {cs:Array Value} {T:TypeId} (h:w.heap[b]? =some (.cells cs T)) (i:Nat):w.frozen? ⟨b,i,none⟩=false:=by
 unfold World.frozen?
 simp [h]
theorem box_set {w:World} {b:Nat} {cs:Array Value} {T:TypeId} (h:w.heap[b]? =some (.cells cs T)) (i:Nat) (v:Value):(w.setCell ⟨b,i,none⟩ v).heap[b]? =some (.cells (cs.setIfInBounds i v) T):=by
 simp [World.setCell,Array.getElem?_modify,h]
theorem box_up {w w':World} {b:Nat} {o:Obj} (hu:Up w w') (h:w.heap[b]? =some o):w'.heap[b]? =some o :=
 (hu.block b (Array.getElem?_eq_some_iff.1 h).1).trans h
end
end Go.Proofs.YtekogcjdaolcbaaGreatDoor
/- Walks of the small functions of blocks. Conditions: as each says. -/
namespace Go.Proofs.YtekogcjdaolcbaaGreatDoor
open Go.RowKit
def inB (n lo hi:Int):Bool:=decide (lo≤n) && decide (n≤hi)
theorem inB_iff {n lo hi:Int} :inB n lo hi=true↔lo≤n∧n≤hi:=by simp [inB]
theorem inB_not {n lo hi:Int} :inB n lo hi=false↔n<lo∨hi<n:=by rw [← Bool.not_eq_true,inB_iff];omega
set_option maxHeartbeats 400000 in
theorem l1In_any (n lo hi:Int) (w:World) :
  Calls Tryz.prog 145 #[.int .i64 n,.int .i64 lo,.int .i64 hi] w fun e w'=>e= .returned (.bool (inB n lo hi))∧w=w':=by
 by_cases h:lo≤n
 all_goals
  go_enter Tryz.func145,Tryz.ntmps145
  go_wp2
  go_ret
  exact ⟨by simp only [inB];congr 2;simp;omega,rfl⟩
theorem ret_bool {a b:Bool} (h:a=b):Ending.returned (.bool a)= .returned (.bool b):=by rw [h]
theorem ret_int {k:IntKind} {a b:Int} (h:a=b):Ending.returned (.int k a)= .returned (.int k b):=by rw [h]
theorem ret_str {a b:ByteArray} (h:a=b):Ending.returned (.string a)= .returned (.string b):=by rw [h]
theorem conv_one (w:World) (b:Nat) (x:Int) (h:w.cell? ⟨b,0,none⟩=some (.int .u8 x)) :
  (convert 22 9 (.slice (some ⟨b,0,none⟩) 1 1)).run Tryz.prog w= .ok (.string (strOfNums [x])) w :=
 run_convert_bytes_arg (P:=Tryz.prog) w 22 5 Tryz.underlying22 Tryz.underlying5 b 0 1 1 [x] rfl (fun i hi=>by
  obtain rfl:i=0:=by omega
  exact h) 9 Tryz.underlying9
theorem conv_new1 (w:World) (b:Nat) (x:Int) (hb:b=w.heap.size):(convert 22 9 (.slice (some ⟨b,0,none⟩) 1 1)).run Tryz.prog (w.alloc (.cells #[.int .u8 x] 5))= .ok (.string (strOfNums [x])) (w.alloc (.cells #[.int .u8 x] 5)) :=
 conv_one _ _ _ (by subst hb;simp)
theorem strOfNums_size (l:List Int):(strOfNums l).size=l.length:=by
 simp [strOfNums,ByteArray.size]
def two (n:Int):ByteArray:=strOfNums [n / 256,n % 256]
end Go.Proofs.YtekogcjdaolcbaaGreatDoor
/- Walks of the checksum. Conditions: the string's length is below the model's bound. -/
namespace Go.Proofs.YtekogcjdaolcbaaGreatDoor
open Go.RowKit
def sumStep (p:Int × Int) (x:UInt8):Int × Int:=((p.1+x.toNat) % 255,(p.2+(p.1+x.toNat) % 255) % 255)
def sumAB (l:List UInt8):Int × Int:=l.foldl sumStep (0,0)
def sumOf (s:ByteArray):Int:=256 * (sumAB s.data.toList).2+(sumAB s.data.toList).1
theorem u8_bd (x:UInt8):(x.toNat:Int)≤255:=by have:=x.toNat_lt;omega
def kindB (r:Bool):Int:=if r then 0 else 1
def formB (n:Int) (r:Bool) (s:Int) (b:ByteArray):Bool:=inB n 0 39 && inB s 1 64 && (if r then ((b.size:Int) == s) else inB b.size 1 (s - 1))
end Go.Proofs.YtekogcjdaolcbaaGreatDoor
/- Walks of the functions that write a block's bytes. Conditions: the parts of the block fit together. -/
namespace Go.Proofs.YtekogcjdaolcbaaGreatDoor
open Go.RowKit
def inner (n:Int) (r:Bool) (s:Int) (b:ByteArray):ByteArray:=strOfNums [kindB r]++two n++two s++two b.size++b
def textB (n:Int) (r:Bool) (s:Int) (b:ByteArray):ByteArray:=strOfNums [181]++inner n r s b++two (sumOf (inner n r s b))
end Go.Proofs.YtekogcjdaolcbaaGreatDoor
/- Walks of the functions that read numbers of two bytes. Conditions: the two bytes are there. -/
namespace Go.Proofs.YtekogcjdaolcbaaGreatDoor
open Go.RowKit
def byteAt (s:ByteArray) (k:Nat):Int:=(s.data.toList.getD k 0).toNat
def numAt (s:ByteArray) (k:Nat):Int:=256 * byteAt s k+byteAt s (k+1)
def bodyAt (s:ByteArray) (k:Nat):ByteArray:=s.extract (k+8) (k+8+(numAt s (k+6)).toNat)
def endAt (s:ByteArray) (k:Nat):Nat:=k+8+(numAt s (k+6)).toNat
def headOk (s:ByteArray) (k:Nat):Bool:=decide (k+10≤s.size) && (byteAt s k == 181) && decide (byteAt s (k+1)≤1)
def parseOk (s:ByteArray) (k:Nat):Bool:=headOk s k && decide (endAt s k+2≤s.size) && formB (numAt s (k+2)) (byteAt s (k+1) == 0) (numAt s (k+4)) (bodyAt s k) && (sumOf (s.extract (k+1) (endAt s k)) == numAt s (endAt s k))
def parsed (s:ByteArray) (k:Nat):Value:= .tuple #[.agg #[.int .i64 (numAt s (k+2)),.bool (byteAt s (k+1) == 0),.int .i64 (numAt s (k+4)),.string (bodyAt s k)],.int .i64 (endAt s k+2:Nat),.bool true]
end Go.Proofs.YtekogcjdaolcbaaGreatDoor
/- Plain facts on strings of bytes: parts of a string, two bytes of a number, and what a block's text is. Conditions: as each says. -/
namespace Go.Proofs.YtekogcjdaolcbaaGreatDoor
open Go.RowKit
theorem ba_ext {a b:ByteArray} (h:a.data.toList=b.data.toList):a=b:=ByteArray.ext (Array.toList_inj.1 h)
theorem ba_ne {a b:ByteArray} (h:a≠b):(a.toList == b.toList)=false:=by
 rw [beq_eq_false_iff_ne]
 intro e
 rw [Lib.toList_data,Lib.toList_data] at e
 exact h (ba_ext e)
theorem ba_nums (l:List Int):(strOfNums l).data.toList=l.map fun n=>UInt8.ofNat n.toNat:=by simp [strOfNums]
end Go.Proofs.YtekogcjdaolcbaaGreatDoor
/- Walk of the program's ParseBlock. Conditions: the string's length is below the model's bound. -/
namespace Go.Proofs.YtekogcjdaolcbaaGreatDoor
open Go.RowKit
end Go.Proofs.YtekogcjdaolcbaaGreatDoor
/- Walk of the reference's ParseBlock. Conditions: the string's length is below 2^30. -/
namespace Go.Proofs.YtekogcjdaolcbaaGreatDoor
open Go.RowKit
end Go.Proofs.YtekogcjdaolcbaaGreatDoor
/- Plain facts on containers: the blocks of a string in sequence. And rows of structs in memory. Conditions: as each says. -/
namespace Go.Proofs.YtekogcjdaolcbaaGreatDoor
open Go.RowKit
structure BlkD where
 num:Int
 raw:Bool
 size:Int
 body:ByteArray
def blkAt (s:ByteArray) (k:Nat):BlkD:=⟨numAt s (k+2),byteAt s (k+1) == 0,numAt s (k+4),bodyAt s k⟩
theorem endAt_lt (s:ByteArray) (k:Nat):k<endAt s k+2:=by unfold endAt;omega
def goBlocks (s:ByteArray) (k:Nat) (acc:List BlkD):Option (List BlkD) :=
 if h:k<s.size then
  if parseOk s k=true∧numAt s (k+2)=acc.length then goBlocks s (endAt s k+2) (acc++ [blkAt s k]) else none
 else some acc
 termination_by s.size - k
 decreasing_by have:=endAt_lt s k;omega
theorem go_step {s:ByteArray} {k:Nat} {acc:List BlkD} (h:k<s.size) (hp:parseOk s k=true) (hn:numAt s (k+2)=acc.length):goBlocks s (endAt s k+2) (acc++ [blkAt s k])=goBlocks s k acc:=by
 conv=>rhs;rw [goBlocks]
 rw [dif_pos h,if_pos ⟨hp,hn⟩]
def accOk (l:List BlkD):Prop:=l.length≤40∧ ∀ b∈l,1≤b.size∧b.size≤64∧b.body.size≤64
theorem ownsRow_up {w w':World} {base:Nat} {e:TypeId} {size:Nat} {v:Value} {n:Nat} {xs:List Value} (h:w.ownsRow base e size v n xs) (hu:Up w w'):w'.ownsRow base e size v n xs:=by
 refine ⟨h.1,?_⟩
 rcases h.2 with hn|⟨g,cap,cur,rfl,hb,hg,rest⟩
 ·exact .inl hn
 ·exact .inr ⟨g,cap,cur,rfl,hb,box_up hu hg,rest⟩
theorem ownsRow_base {w:World} {base base':Nat} {e:TypeId} {size:Nat} {v:Value} {n:Nat} {xs:List Value} (h:w.ownsRow base e size v n xs) (hb:base'≤base):w.ownsRow base' e size v n xs:=by
 refine ⟨h.1,?_⟩
 rcases h.2 with hn|⟨g,cap,cur,rfl,h1,rest⟩
 ·exact .inl hn
 ·exact .inr ⟨g,cap,cur,rfl,Nat.le_trans hb h1,rest⟩
theorem ownsRow_read {w:World} {base:Nat} {e:TypeId} {size:Nat} {v:Value} {n:Nat} {xs:List Value} (h:w.ownsRow base e size v n xs):(v= .slice none 0 0∧n=0)∨ ∃ g cap,v= .slice (some ⟨g,0,none⟩) n cap∧n≤cap∧cap≤maxLen∧base≤g∧g<w.heap.size∧ ∀ j u,xs[j]? =some u→w.cell? ⟨g,j,none⟩=some u:=by
 rcases h.2 with hn|⟨g,cap,cur,rfl,hb,hg,hnc,hm,hsz,ht⟩
 ·exact .inl hn
 ·refine .inr ⟨g,cap,rfl,hnc,hm,hb,(Array.getElem?_eq_some_iff.1 hg).1,fun j u hu=>?_⟩
  have hj:j<xs.length:=(List.getElem?_eq_some_iff.1 hu).1
  rw [box_cell hg]
  have:xs[j]? =cur[j]? :=by
   rw [← ht,List.getElem?_take,if_pos (by rw [← h.1];exact hj)]
   simp
  rw [← this,hu]
theorem ownsRow_shape {w:World} {base:Nat} {e:TypeId} {size:Nat} {v:Value} {n:Nat} {xs:List Value} (h:w.ownsRow base e size v n xs): ∃ a c,v= .slice a n c:=by
 rcases h.2 with ⟨rfl,rfl⟩|⟨g,cap,cur,rfl,_⟩
 ·exact ⟨_,_,rfl⟩
 ·exact ⟨_,_,rfl⟩
theorem Up.grown {a w w':World} {v:Value} (h:Up a w) (hg:w.grownBy w' v.ownBlock) (hr: ∀ k,v.ownBlock=some k→a.heap.size≤k):Up a w':=Below.grown h hg h.size hr
theorem new_cells {W:World} {g:Nat} (cs:List Value) (T:TypeId) (hg:g=W.heap.size) (j:Nat) (u:Value) (hu:cs[j]? =some u):(W.alloc (.cells cs.toArray T)).cell? ((⟨g,0,none⟩:Addr).add j)=some u:=by
 subst hg
 have hadd:(⟨W.heap.size,0,none⟩:Addr).add j=⟨W.heap.size,j,none⟩:=by unfold Addr.add;split <;> simp_all
 rw [hadd,box_cell (MapKept.heap_alloc W _).1]
 simpa using hu
theorem size_alloc (w:World) (o:Obj):(w.alloc o).heap.size=w.heap.size+1:=by simp
theorem ownsRow_any {w:World} {base:Nat} {e:TypeId} {size:Nat} {v:Value} {n:Nat} {xs:List Value} (h:w.ownsRow base e size v n xs): ∃ a c,v= .slice a n c∧n≤maxLen∧(0<n→ ∃ g,a=some ⟨g,0,none⟩∧n≤c∧c≤maxLen∧base≤g∧g<w.heap.size∧ ∀ j u,xs[j]? =some u→w.cell? ⟨g,j,none⟩=some u):=by
 rcases ownsRow_read h with ⟨rfl,rfl⟩|⟨g,cap,rfl,h1,h2,h3,h4,h5⟩
 ·exact ⟨_,_,rfl,by unfold maxLen;omega,fun h=>absurd h (Nat.lt_irrefl _)⟩
 ·exact ⟨_,_,rfl,Nat.le_trans h1 h2,fun _=>⟨g,rfl,h1,h2,h3,h4,h5⟩⟩
theorem own_ne {w:World} {base:Nat} {e:TypeId} {size:Nat} {v:Value} {n:Nat} {xs:List Value} (h:w.ownsRow base e size v n xs) {g:Nat} (hg:w.heap.size≤g):some g≠v.ownBlock:=fun e=>by
 have:=(h.lt g e.symm).2
 omega
end Go.Proofs.YtekogcjdaolcbaaGreatDoor
/- Walks of the functions that add up the sizes of blocks. Conditions: the blocks are those of a string (accOk), and can be read. -/
namespace Go.Proofs.YtekogcjdaolcbaaGreatDoor
open Go.RowKit
end Go.Proofs.YtekogcjdaolcbaaGreatDoor
/- Walk of the program's ContainerBlocks. Conditions: the string's length is below 2^30. -/
namespace Go.Proofs.YtekogcjdaolcbaaGreatDoor
open Go.RowKit
end Go.Proofs.YtekogcjdaolcbaaGreatDoor
/- Walk of the reference's l5Blocks. Conditions: the string's length is below 2^30. -/
namespace Go.Proofs.YtekogcjdaolcbaaGreatDoor
open Go.RowKit
end Go.Proofs.YtekogcjdaolcbaaGreatDoor
/- Walks of ContainerSize and CountRaw, the program's and the reference's. Conditions: the string's length is below 2^30. -/
namespace Go.Proofs.YtekogcjdaolcbaaGreatDoor
open Go.RowKit
end Go.Proofs.YtekogcjdaolcbaaGreatDoor
/- Walks of the laws' own functions on slices of integers: equality, marks, and the look at the marks. Conditions: the rows are owned; the numbers are small. -/
namespace Go.Proofs.YtekogcjdaolcbaaGreatDoor
open Go.RowKit
theorem ownsRow_set {w:World} {base:Nat} {e:TypeId} {size:Nat} {n:Nat} {xs:List Value} {g cap:Nat} (h:w.ownsRow base e size (.slice (some ⟨g,0,none⟩) n cap) n xs) (j:Nat) (u:Value) :
  (w.setCell ⟨g,j,none⟩ u).ownsRow base e size (.slice (some ⟨g,0,none⟩) n cap) n (xs.set j u):=by
 refine ⟨by simp [h.1],?_⟩
 rcases h.2 with ⟨hn,_⟩|⟨g',cap',cur,hv,hb,hg,hnc,hm,hsz,ht⟩
 ·cases hn
 ·cases hv
  refine .inr ⟨g,cap,cur.setIfInBounds j u,rfl,hb,box_set hg j u,hnc,hm,by simp [hsz],?_⟩
  rw [Array.toList_setIfInBounds,List.take_set,ht]
theorem ownsRow_free {w:World} {base:Nat} {e:TypeId} {size:Nat} {n:Nat} {xs:List Value} {g cap:Nat} (h:w.ownsRow base e size (.slice (some ⟨g,0,none⟩) n cap) n xs) (j:Nat):w.frozen? ⟨g,j,none⟩=false:=by
 rcases h.2 with ⟨hn,_⟩|⟨g',cap',cur,hv,hb,hg,_⟩
 ·cases hn
 ·cases hv;exact box_free hg j
theorem ownsRow_cell {w:World} {base:Nat} {e:TypeId} {size:Nat} {n:Nat} {xs:List Value} {g cap:Nat} (h:w.ownsRow base e size (.slice (some ⟨g,0,none⟩) n cap) n xs) {j:Nat} {u:Value} (hu:xs[j]? =some u):w.cell? ⟨g,j,none⟩=some u:=by
 have:=h.cells (g:=g) rfl j u hu
 have hadd:(⟨g,0,none⟩:Addr).add j=⟨g,j,none⟩:=by unfold Addr.add;split <;> simp_all
 rwa [hadd] at this
theorem grownBy_refl (w:World) (row:Option Nat):w.grownBy w row:=⟨rfl,rfl,rfl,Nat.le_refl _,fun _ _ _=>rfl⟩
theorem grownBy_set {w w':World} {g:Nat} (h:w.grownBy w' (some g)) (j:Nat) (u:Value):w.grownBy (w'.setCell ⟨g,j,none⟩ u) (some g) :=
 ⟨h.os,h.tape,h.output,by simpa [World.setCell] using h.size,fun k hk hne=>by
  rw [← h.block k hk hne]
  exact Below.heap_setCell _ _ _ _ (fun e=>hne (by rw [e]))⟩
theorem grownBy_up {w w' w2:World} {row:Option Nat} (h:w.grownBy w' row) (hu:Up w' w2):w.grownBy w2 row :=
 ⟨hu.os.trans h.os,hu.tape.trans h.tape,hu.output.trans h.output,Nat.le_trans h.size hu.size,fun k hk hne=>(hu.block k (Nat.lt_of_lt_of_le hk h.size)).trans (h.block k hk hne)⟩
theorem up_grownBy {w w':World} (h:Up w w') (row:Option Nat):w.grownBy w' row:=⟨h.os,h.tape,h.output,h.size,fun k hk _=>h.block k hk⟩
theorem grownBy_trans {a b c:World} {row:Option Nat} (h:a.grownBy b row) (k:b.grownBy c row):a.grownBy c row :=
 ⟨k.os.trans h.os,k.tape.trans h.tape,k.output.trans h.output,Nat.le_trans h.size k.size,fun i hi hne=>(k.block i (Nat.lt_of_lt_of_le hi h.size) hne).trans (h.block i hi hne)⟩
def cellsI (l:List Int):List Value:=l.map (Value.int .i64)
end Go.Proofs.YtekogcjdaolcbaaGreatDoor
/- Two rows of different element types lie in different blocks. Conditions: as each says. -/
namespace Go.Proofs.YtekogcjdaolcbaaGreatDoor
open Go.RowKit
theorem ownsRow_ne {w:World} {b1 b2:Nat} {e1 e2:TypeId} {s1 s2 n1 n2:Nat} {v1 v2:Value} {x1 x2:List Value} (h1:w.ownsRow b1 e1 s1 v1 n1 x1) (h2:w.ownsRow b2 e2 s2 v2 n2 x2) (hne:e1≠e2):v1.ownBlock=none∨v1.ownBlock≠v2.ownBlock:=by
 rcases h1.2 with ⟨rfl,_⟩|⟨g,cap,cur,rfl,_,hg,_⟩
 ·exact .inl rfl
 ·refine .inr fun e=>?_
  rcases h2.2 with ⟨rfl,_⟩|⟨g',cap',cur',rfl,_,hg',_⟩
  ·cases e
  ·simp only [Value.ownBlock,Option.some.injEq] at e
   subst e
   rw [hg] at hg'
   cases hg'
   exact hne rfl
end Go.Proofs.YtekogcjdaolcbaaGreatDoor
/- A region whose order is open, all but one of whose operations only make new memory, and one of which writes into a row of the call's own (an append, a store): walked once in the order of the text. Conditions: those of the theorem wp_region_own. -/
namespace Go.Proofs.YtekogcjdaolcbaaGreatDoor
open Go Go.RowKit
section
variable {P:Program} {ops:Array Oper}
def gC (wr:World) (row:Option Nat) (j0 j:Nat) (w:World):Prop:=if j=j0 then Up wr w else wr.grownBy w row
def gR (row:Option Nat) (j0 j:Nat) (w w':World):Prop:=if j=j0 then w.grownBy w' row else Up w w'
def gK (row:Option Nat) (j0 j:Nat) (w w':World):Prop:=if j=j0 then Up w w' else w.grownBy w' row
structure WG (P:Program) (ops:Array Oper) (wr:World) (row:Option Nat) (j0:Nat) (Z:Act→World→Prop) (l:List Oper) (k:Nat) (E:List Mk) (a:Act):Prop where
 out:wpG P ops (gR row j0) (gK row j0) (gC wr row j0) Z l k E a
theorem wp_region_own (n0 j0:Nat) (row:Option Nat) {id:Nat} {Q:Exit→Act→World→Prop} {a:Act} {w:World} {l:List Oper} (hm:P.follows .mixedOrders=true) (hB:upB l.toArray n0=true)
  (h:WG P l.toArray w row j0 (fun a' w'=>wpList P l.toArray Q (l.drop n0) a' w') (l.take n0) 0 [] a):(Code.region id l.toArray true).wp P Q a w:=by
 have T:=upB_text hB
 have hle:n0≤l.length:=by simpa using T.le
 obtain ⟨D,hU,hT,hZ⟩:=wpG_text (R:=gR row j0) (Kc:=gK row j0) (C:=gC w row j0) (Z:=fun a' w'=>wpList P l.toArray Q (l.drop n0) a' w') (a0:=a) (n0:=n0) T.c (l.take n0) 0 [] a (fun _=>False) (fun _=>undef) (fun _ _ _=>False) (by simp [hle]) (fun j hj=>by
  simp only [List.length_take] at hj
  simp [show j<n0 by omega]) ⟨(Desc.refl a (fun _=>undef)).congr (fun i=>by simp) (fun _ h=>h.elim),fun i hi=>absurd hi (Nat.not_lt_zero _),fun m hm=>(by cases hm),fun i hi=>absurd hi (Nat.not_lt_zero _)⟩
  (fun i hi=>absurd hi (Nat.not_lt_zero _)) (fun j o hj=>absurd hj (Nat.not_lt_zero _)) h.out
 refine wp_region_any hm (wpAny_g (R:=gR row j0) (Kc:=gK row j0) (C:=gC w row j0) (I:=fun S w'=>w.grownBy w' row∧(¬ S j0→Up w w')) (fun S w' j hI hS=>?_) (fun S w1 w2 j hI hS hR=>?_) (fun j w'=>?_) (fun k j w1 w2 hne hR=>?_) (a0:=a) T hU hT (by simpa using hZ) _ (List.range n0) _ a _ (fun _=>undef) (by simp;omega) (fun i hi _=>List.mem_range.2 hi) (by simp) (fun i hi his=>by
  have:i<l.length:=by simpa using his
  simp [this]) (fun j o ho hj=>?_) ?_ ?_ ?_)
 ·unfold gC
  split
  ·next e=>subst e;exact hI.2 hS
  ·exact hI.1
 ·unfold gR at hR
  split at hR
  ·next e=>subst e;exact ⟨grownBy_trans hI.1 hR,fun h=>absurd (.inr rfl) h⟩
  ·next e=>exact ⟨grownBy_up hI.1 hR,fun h=>(hI.2 fun h'=>h (.inl h')).trans hR⟩
 ·unfold gR
  split
  ·exact grownBy_refl _ _
  ·exact Up.refl _
 ·unfold gR at hR
  unfold gK
  split at hR
  ·next e=>subst e;rw [if_neg (fun e=>hne e.symm)];exact hR
  ·split
   ·exact hR
   ·exact up_grownBy hR _
 ·rw [getD_replicate_false] at hj;cases hj
 ·exact ⟨up_grownBy (Up.drew (Up.refl w)) _,fun _=>Up.drew (Up.refl w)⟩
 ·exact (Desc.refl a (fun _=>undef)).congr (fun i=>by rw [getD_replicate_false];simp) (fun _ h=>h.elim)
 ·intro i hi;rw [getD_replicate_false] at hi;cases hi
section
variable {wr:World} {row:Option Nat} {j0:Nat} {Z:Act→World→Prop} {o:Oper} {rest:List Oper} {k:Nat} {E:List Mk} {a:Act}
def stepG (P:Program) (ops:Array Oper) (wr:World) (row:Option Nat) (j0:Nat) (E:List Mk) (k:Nat) (o:Oper) (a:Act) (K:List Mk→Act→Prop):Prop :=
 (∃ v,(∀ w,gC wr row j0 k w→fills (E.filter fun m=>waitsB o m.1) a w (fun a'=>gAt P (gR row j0 k) o a' w (fun v' _=>v'=v)))∧K E (a.put o.dst v)) ∨
 (∃ D,guardFree ops k=true∧(∀ v w w',D v w→gK row j0 k w w'→D v w')∧(∀ w,gC wr row j0 k w→fills (E.filter fun m=>waitsB o m.1) a w (fun a'=>gAt P (gR row j0 k) o a' w D))∧K ((k,o.dst,D) :: E) a)
theorem wpG_step (h: ∀ K:List Mk→Act→Prop,(∀ E a,WG P ops wr row j0 Z rest (k+1) E a→K E a)→if Region.wanted o (yielded ops a.tmps) then stepG P ops wr row j0 E k o a K else K E (a.put o.dst undef)):WG P ops wr row j0 Z (o :: rest) k E a:=by
 have:=h (fun E a=>wpG P ops (gR row j0) (gK row j0) (gC wr row j0) Z rest (k+1) E a) fun _ _ h=>h.out
 refine ⟨?_⟩
 unfold wpG
 exact this
theorem stepG_c {K:List Mk→Act→Prop} (hk:(k == j0)=false) (v:Value) (h1: ∀ w,wr.grownBy w row→fills (E.filter fun m=>waitsB o m.1) a w (fun a'=>upAt P o a' w (fun v' _=>v'=v))) (h2:K E (a.put o.dst v)):stepG P ops wr row j0 E k o a K:=by
 have hk': ¬ k=j0:=by simpa using hk
 refine .inl ⟨v,fun w hC=>?_,h2⟩
 unfold gC at hC
 rw [if_neg hk'] at hC
 refine fills_mono (fun a' h=>?_) (h1 w hC)
 have:gR row j0 k=Up:=by funext w w';unfold gR;rw [if_neg hk']
 rw [this];exact gAt_up h
theorem stepG_m {K:List Mk→Act→Prop} (hk:(k == j0)=false) (hg:guardFree ops k=true) (D:Value→World→Prop) (hD: ∀ v w w',D v w→w.grownBy w' row→D v w')
  (h1: ∀ w,wr.grownBy w row→fills (E.filter fun m=>waitsB o m.1) a w (fun a'=>upAt P o a' w D)) (h2:K ((k,o.dst,D) :: E) a):stepG P ops wr row j0 E k o a K:=by
 have hk': ¬ k=j0:=by simpa using hk
 refine .inr ⟨D,hg,fun v w w' h hK=>hD v w w' h (by unfold gK at hK;rwa [if_neg hk'] at hK),fun w hC=>?_,h2⟩
 unfold gC at hC
 rw [if_neg hk'] at hC
 refine fills_mono (fun a' h=>?_) (h1 w hC)
 have:gR row j0 k=Up:=by funext w w';unfold gR;rw [if_neg hk']
 rw [this];exact gAt_up h
theorem stepG_own {K:List Mk→Act→Prop} (hk:(k == j0)=true) (hg:guardFree ops k=true) (D:Value→World→Prop) (hD: ∀ v,UpClosed (D v))
  (h1: ∀ w,Up wr w→fills (E.filter fun m=>waitsB o m.1) a w (fun a'=>gAt P (fun w w'=>w.grownBy w' row) o a' w D)) (h2:K ((k,o.dst,D) :: E) a):stepG P ops wr row j0 E k o a K:=by
 have hk':k=j0:=by simpa using hk
 refine .inr ⟨D,hg,fun v w w' h hK=>hD v w w' h (by unfold gK at hK;rwa [if_pos hk'] at hK),fun w hC=>?_,h2⟩
 unfold gC at hC
 rw [if_pos hk'] at hC
 refine fills_mono (fun a' h=>?_) (h1 w hC)
 have:gR row j0 k=(fun w w'=>w.grownBy w' row):=by funext w w';unfold gR;rw [if_pos hk']
 rw [this];exact h
theorem wpG_nil (hk:(k == j0)=false) (h: ∀ w,wr.grownBy w row→fills E a w (fun a'=>Z a' w)):WG P ops wr row j0 Z [] k E a:=by
 refine ⟨fun w hC=>h w ?_⟩
 unfold gC at hC
 rwa [if_neg (by simpa using hk)] at hC
end
theorem gAt_append {o:Oper} {a:Act} {w:World} (s x:Operand) (t:TypeId)
  (ho:o.op= .call { callee:= .builtin .append,args:= #[s,x],argTypes:= #[t,t]})
  (base:Nat) (e:TypeId) (i:TypeInfo) (z:Value) (size bytes:Nat) (ht:P.underlying t=some (.slice e)) (hi:P.info? e=some i) (hz:i.zero=some z)
  (hsize:i.size=size) (hby:i.bytes=bytes) (hzs:z.cells.size=size) (hsz:0<size)
  (v:Value) (n:Nat) (xs:List Value) (hs:a.eval s=v) (hown:w.ownsRow base e size v n xs)
  (ad:Addr) (m c:Nat) (news:List Value) (hx:a.eval x= .slice (some ad) m c) (hl:news.length=m * size) (hnews: ∀ j u,news[j]? =some u→w.cell? (ad.add j)=some u) (h1: ∀ u∈news,u.oneCell'=true)
  (h63:n+m≤maxLen) (hbytes:(n+m) * bytes≤140737488355328) (hbase:base≤w.heap.size)
  (row:Option Nat) (hrow:v.ownBlock=row):gAt P (fun w w'=>w.grownBy w' row) o a w (fun v' w'=>w'.ownsRow base e size v' (n+m) (xs++news)):=by
 obtain ⟨v',w',hr,h2,h3,h4⟩:=run_append_own (P:=P) w base t o.type e i z size bytes ht hi hz hsize hby hzs hsz v n xs hown ad m c news hl hnews h1 h63 hbytes hbase
 unfold gAt execOp
 simp only [ho,resolve,invoke,builtin,Sem.run_bind,Sem.run_pure,Result.andThen_ok,List.map_toArray,List.map_cons,List.map_nil,hs,hx,hr]
 exact ⟨hrow▸h3,h2⟩
theorem run_append_new (base:Nat) (t ty e:TypeId) (i:TypeInfo) (z:Value) (size bytes:Nat) (ht:P.underlying t=some (.slice e)) (hi:P.info? e=some i) (hz:i.zero=some z)
  (hsize:i.size=size) (hby:i.bytes=bytes) (hzs:z.cells.size=size) (hsz:0<size)
  (w:World) (g n cap:Nat) (xs:List Value) (hown:w.ownsRow base e size (.slice (some ⟨g,0,none⟩) n cap) n xs)
  (ad:Addr) (m c:Nat) (news:List Value) (hl:news.length=m * size) (hnews: ∀ j u,news[j]? =some u→w.cell? (ad.add j)=some u) (h1: ∀ u∈news,u.oneCell'=true)
  (h63:n+m≤maxLen) (hbytes:(n+m) * bytes≤140737488355328) (hbase:base≤w.heap.size) (hg:cap<n+m) :
  ∃ v' w',(Builtin.append_ #[t,t] ty #[.slice (some ⟨g,0,none⟩) n cap,.slice (some ad) m c]).run P w= .ok v' w'∧w'.ownsRow base e size v' (n+m) (xs++news)∧Up w w':=by
 obtain ⟨v',w',hr,h2,h3,h4⟩:=run_append_own (P:=P) w base t ty e i z size bytes ht hi hz hsize hby hzs hsz _ n xs hown ad m c news hl hnews h1 h63 hbytes hbase
 subst hsize hby
 have hr2:=run_append_grow (P:=P) w t ty e i z ht hi hz ⟨g,0,none⟩ n cap xs hown.1 (hown.cells (g:=g) rfl) ad m c news hl hnews hg (by unfold maxLen at h63;omega) (growslice_fits (by omega) hbytes)
 rw [hr] at hr2
 simp only [Result.ok.injEq] at hr2
 refine ⟨v',w',hr,h2,?_⟩
 have hu:Up w (w.drew.alloc (.cells (xs.toArray++news.toArray++Builtin.zeroCells z.cells (grownCap w (n+m) cap e - (n+m))) e)):=by
  have h0:Up w w:=Up.refl w
  have h1:Up w w.drew:=Up.drew h0
  exact Up.alloc h1 _
 rw [hr2.2]
 exact hu
theorem gcell {W w1:World} {row:Option Nat} (hb:W.grownBy w1 row):(∀ b o,b<W.heap.size→some b≠row→w1.cell? ⟨b,o,none⟩=W.cell? ⟨b,o,none⟩)∧(∀ b o,b<W.heap.size→some b≠row→w1.frozen? ⟨b,o,none⟩=W.frozen? ⟨b,o,none⟩) :=
 ⟨fun b o h hne=>by unfold World.cell?;rw [hb.block b h hne],fun b o h hne=>by unfold World.frozen?;rw [hb.block b h hne]⟩
theorem gbox {W w1:World} {row:Option Nat} (hb:W.grownBy w1 row) {b:Nat} {o:Obj} (h:W.heap[b]? =some o) (hne:some b≠row):w1.heap[b]? =some o :=
 (hb.block b (Array.getElem?_eq_some_iff.1 h).1 hne).trans h
end
end Go.Proofs.YtekogcjdaolcbaaGreatDoor

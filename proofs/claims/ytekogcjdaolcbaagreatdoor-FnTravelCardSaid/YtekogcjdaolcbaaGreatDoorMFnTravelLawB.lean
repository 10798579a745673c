/- Texts joined into one: the walks and laws that the last text leans on. Conditions: as each says. -/
import Derived.Test.YtekogcjdaolcbaaGreatDoorMFnTravelLawA

set_option linter.unusedVariables false
set_option linter.unusedSimpArgs false
/- A region whose order is open, in which moves and extracts may come behind the stores at its end: its head is walked once in the order of the text, then its tail. Conditions: those of the theorems. -/
namespace Go.Proofs.YtekogcjdaolcbaaGreatDoor
open Go Go.RowKit
section
variable {P:Program} {ops:Array Oper}
def isFl (o:Oper):Bool:=match o.op with
 | .move _=>true
 | .extract _ _=>true
 |_=>false
def isTl (o:Oper):Bool:=match o.op with
 | .move _=>true
 | .assign _=>true
 | .extract _ _=>true
 | .store _ _ _=>true
 |_=>false
theorem fl_run {o:Oper} (h:isFl o=true) {ρ :Operand→Value} {w w':World} {n:Next} (hr:(execOp ρ o).run P w= .ok n w'):w'=w∧(∃ v,n= .value v)∧ ∀ w2,(execOp ρ o).run P w2= .ok n w2:=by
 unfold isFl at h
 unfold execOp at hr ⊢
 split at h
 ·next x hx =>
  simp only [hx,Sem.run_pure] at hr ⊢
  cases hr
  exact ⟨rfl,⟨_,rfl⟩,fun _=>rfl⟩
 ·next t i hx =>
  simp only [hx,Sem.run_bind] at hr ⊢
  cases ht: ρ t with
  |tuple vs =>
   simp only [ht] at hr ⊢
   unfold Instr.extract at hr ⊢
   cases hv:vs[i]? with
   |none=>simp [hv,stuck] at hr
   |some v=>simp [hv] at hr ⊢;exact ⟨hr.2.symm,⟨v,hr.1.symm⟩,hr.1⟩
  |_=>simp [ht,Instr.extract,stuck] at hr
 ·cases h
theorem tl_upon {o:Oper} (h:isTl o=true) {a:Act} {w:World} {next:Act→World→Prop} {Q:Exit→Act→World→Prop} (hq: ∀ c a w,¬ Q (.panic c) a w) (hu:o.upon P a next Q ((execOp a.eval o).run P w)) :
  (∃ v w',(execOp a.eval o).run P w= .ok (.value v) w'∧next (a.put o.dst v) w')∨(∃ w',(execOp a.eval o).run P w= .ok .skip w'∧next (a.put o.dst undef) w'):=by
 generalize hr:(execOp a.eval o).run P w=r at *
 unfold isTl at h
 unfold execOp at hr
 split at h
 ·next x hx=>simp only [hx,Sem.run_pure] at hr;subst hr;exact .inl ⟨_,_,rfl,hu⟩
 ·next x hx=>simp only [hx,Sem.run_pure] at hr;subst hr;exact .inl ⟨_,_,rfl,hu⟩
 ·next t i hx =>
  simp only [hx,Sem.run_bind] at hr
  generalize (Instr.extract (a.eval t) i).run P w=r2 at *
  cases r2 with
  |ok u w2=>simp only [Result.andThen_ok,Sem.run_pure] at hr;subst hr;exact .inl ⟨_,_,rfl,hu⟩
  |halt c w2 =>
   simp only [Result.andThen] at hr;subst hr
   cases c <;> simp only [Oper.upon] at hu
   exact absurd hu (hq _ _ _)
 ·next t x y hx =>
  simp only [hx,Sem.run_bind] at hr
  generalize (Instr.storeAt t (a.eval x) (a.eval y)).run P w=r2 at *
  cases r2 with
  |ok u w2=>simp only [Result.andThen_ok,Sem.run_pure] at hr;subst hr;exact .inr ⟨_,rfl,hu⟩
  |halt c w2 =>
   simp only [Result.andThen] at hr;subst hr
   cases c <;> simp only [Oper.upon] at hu
   exact absurd hu (hq _ _ _)
 ·cases h
structure FlText (ops:Array Oper) (n0:Nat):Prop where
 sel: ∀ (j:Nat) (o:Oper) cs b,ops[j]? =some o→o.op≠ .select cs b
 le:n0≤ops.size
 lex: ∀ (j:Nat) (o:Oper),ops[j]? =some o→ ∀ e∈o.after,Region.binds .any e=true→e.on<j
 pair: ∀ (i j:Nat) (x o:Oper),i<j→j<n0→ops[i]? =some x→ops[j]? =some o→waitsB o i=true∨x.apart ops o=true
 dist: ∀ (i j:Nat) (x o:Oper) (d:Tmp),i<j→j<n0→ops[i]? =some x→ops[j]? =some o→x.dst=some d→o.dst≠some d
 tail: ∀ (i j:Nat) (x o:Oper),i<j→n0≤j→ops[i]? =some x→ops[j]? =some o→reachB ops 3 j i=true∨(i<n0∧isFl x=true∧x.apart ops o=true)
 war: ∀ (i j:Nat) (x o:Oper) (d:Tmp),i≤j→j<n0→ops[i]? =some x→ops[j]? =some o→isFl x=true→isFl o=true→o.dst=some d→d ∉ x.looksAt ops
 kinds: ∀ (j:Nat) (o:Oper),n0≤j→ops[j]? =some o→isTl o=true
theorem FlText.c {n0:Nat} (T:FlText ops n0):TxC ops n0:=⟨T.sel,T.le,T.lex,T.pair,T.dist⟩
def flB (ops:Array Oper) (n0:Nat):Bool :=
 Region.noSelect ops && decide (n0≤ops.size) &&
 ((List.range ops.size).all fun j=>match ops[j]? with
   |none=>true
   |some o=>(o.after.all fun e=> !Region.binds .any e || decide (e.on<j)) && (decide (j<n0) || isTl o) &&
    (!(decide (j<n0) && isFl o) || (match o.dst with|some d=> !(o.looksAt ops).contains d|none=>true)) &&
    ((List.range j).all fun i=>match ops[i]? with
      |none=>true
      |some x=>if j<n0 then (waitsB o i || x.apart ops o) && (match x.dst with|some d=>o.dst != some d|none=>true) && (!(isFl x && isFl o) || (match o.dst with|some d=> !(x.looksAt ops).contains d|none=>true))
       else reachB ops 3 j i || (decide (i<n0) && isFl x && x.apart ops o)))
theorem flB_text {n0:Nat} (h:flB ops n0=true):FlText ops n0:=by
 unfold flB at h
 simp only [Bool.and_eq_true,decide_eq_true_eq] at h
 obtain ⟨⟨h1,h2⟩,h3⟩:=h
 have h3:=List.all_eq_true.1 h3
 have hj: ∀ (j:Nat) (o:Oper),ops[j]? =some o→(∀ e∈o.after,Region.binds .any e=true→e.on<j)∧(n0≤j→isTl o=true)∧(j<n0→isFl o=true→ ∀ d,o.dst=some d→d ∉ o.looksAt ops)∧ ∀ (i:Nat) (x:Oper),i<j→ops[i]? =some x→(if j<n0 then (waitsB o i || x.apart ops o) && (match x.dst with|some d=>o.dst != some d|none=>true) && (!(isFl x && isFl o) || (match o.dst with|some d=> !(x.looksAt ops).contains d|none=>true)) else reachB ops 3 j i || (decide (i<n0) && isFl x && x.apart ops o))=true:=by
  intro j o ho
  have hlt:j<ops.size:=(Array.getElem?_eq_some_iff.1 ho).1
  have:=h3 j (List.mem_range.2 hlt)
  simp only [ho,Bool.and_eq_true] at this
  obtain ⟨⟨⟨ha,hk⟩,hs⟩,hb⟩:=this
  refine ⟨fun e he hb=>?_,fun hn=>?_,fun hn hf d hd=>?_,fun i x hi hx=>?_⟩
  ·have:=Array.all_eq_true_iff_forall_mem.1 ha e he
   simpa [hb] using this
  ·simpa [show ¬ j<n0 by omega] using hk
  ·simpa [hn,hf,hd] using hs
  ·have:=List.all_eq_true.1 hb i (List.mem_range.2 hi)
   simpa only [hx] using this
 refine ⟨fun j o cs b ho=>Region.noSelect_spec h1 j o cs b ho,h2,fun j o ho=>(hj j o ho).1,fun i j x o hi hn hx ho=>?_,fun i j x o d hi hn hx ho hd=>?_,fun i j x o hi hn hx ho=>?_,fun i j x o d hi hn hx ho fx fo hd=>?_,fun j o hn ho=>(hj j o ho).2.1 hn⟩
 ·have:=(hj j o ho).2.2.2 i x hi hx
  simp only [hn,if_true,Bool.and_eq_true,Bool.or_eq_true] at this
  exact this.1.1
 ·have:=(hj j o ho).2.2.2 i x hi hx
  simp only [hn,if_true,Bool.and_eq_true,hd] at this
  simpa using this.1.2
 ·have:=(hj j o ho).2.2.2 i x hi hx
  simp only [show ¬ j<n0 by omega,if_false,Bool.or_eq_true,Bool.and_eq_true,decide_eq_true_eq] at this
  rcases this with h|⟨⟨a,b⟩,c⟩
  ·exact .inl h
  ·exact .inr ⟨a,b,c⟩
 ·rcases Nat.lt_or_ge i j with hl|hl
  ·have:=(hj j o ho).2.2.2 i x hl hx
   simp only [hn,if_true,Bool.and_eq_true,fx,fo,hd] at this
   simpa using this.2
  ·obtain rfl:i=j:=by omega
   rw [hx] at ho;cases ho
   exact (hj i x hx).2.2.1 hn fx d hd
def FlAt (P:Program) (ops:Array Oper) (o:Oper) (b:Act) (v:Value):Prop :=
 (Region.wanted o (yielded ops b.tmps)=true∧ ∀ w,(execOp b.eval o).run P w= .ok (.value v) w)∨(Region.wanted o (yielded ops b.tmps)=false∧v=undef)
theorem FlAt.agree {o:Oper} (hs: ∀ cs b,o.op≠ .select cs b) {b b':Act} {v:Value} (h:FlAt P ops o b v) (ha: ∀ t∈o.looksAt ops,b.tmps[t]? =b'.tmps[t]?):FlAt P ops o b' v:=by
 have e1:=exec_agree (ops:=ops) hs ha
 have e2:Region.wanted o (yielded ops b.tmps)=Region.wanted o (yielded ops b'.tmps):=wanted_agree fun g bb t hg hd=>ha t (guard_looks hg hd)
 unfold FlAt at *
 rw [← e1,←e2]
 exact h
structure FillOf (ops:Array Oper) (G:List Nat) (vals:Nat→Value) (a a':Act):Prop where
 defers:a'.defers=a.defers
 size:a'.tmps.size=a.tmps.size
 old: ∀ t,(∀ i∈G,∀ o,ops[i]? =some o→o.dst≠some t)→a'.tmps[t]? =a.tmps[t]?
 new: ∀ i∈G,∀ o t,ops[i]? =some o→o.dst=some t→t<a.tmps.size→a'.tmps[t]? =some (vals i)
theorem put_get (a:Act) (d:Option Tmp) (v:Value) (t:Tmp) (h:d≠some t):(a.put d v).tmps[t]? =a.tmps[t]? :=by
 cases d with
 |none=>rfl
 |some d=>simp only [Act.put];exact Array.getElem?_setIfInBounds_ne fun e=>h (by rw [e])
theorem put_size (a:Act) (d:Option Tmp) (v:Value):(a.put d v).tmps.size=a.tmps.size:=by cases d <;> simp [Act.put]
theorem put_defers (a:Act) (d:Option Tmp) (v:Value):(a.put d v).defers=a.defers:=by cases d <;> rfl
theorem put_at (a:Act) (t:Tmp) (v:Value) (h:t<a.tmps.size):(a.put (some t) v).tmps[t]? =some v:=by simp [Act.put,h]
theorem act_ext {a b:Act} (h1:b.defers=a.defers) (h2: ∀ t:Nat,b.tmps[t]? =a.tmps[t]?):b=a:=by
 have h3:b.tmps=a.tmps:=Array.ext_getElem? h2
 cases a;cases b
 simp only at h1 h3
 rw [h1,h3]
theorem wpAny_fl {n0:Nat} (T:FlText ops n0) {Q Q':Exit→Act→World→Prop} (hQ: ∀ a w,Q' .normal a w→Q .normal a w) (hP: ∀ c a w,¬ Q' (.panic c) a w) (hO: ¬ LetsOut Q'): ∀ (fuel:Nat) (l:List Oper) (k:Nat) (G:List Nat) (vals:Nat→Value) (listed:Array Bool) (a a':Act) (w:World),
  n0≤k→k+l.length=ops.size→l.length+G.length≤fuel→(∀ j,j<l.length→l[j]? =ops[k+j]?)→listed.size=ops.size →
  (∀ i,i<n0→listed.getD i true=false→i∈G)→(∀ i∈G,i<n0∧listed.getD i true=false)→(∀ i,n0≤i→i<k→listed.getD i false=true)→(∀ i,k≤i→i<ops.size→listed.getD i true=false) →
  (∀ (j:Nat) (o:Oper),ops[j]? =some o→listed.getD j false=true→ ∀ e∈o.after,Region.binds .any e=true→listed.getD e.on false=true) →
  (∀ i∈G,∀ o,ops[i]? =some o→isFl o=true∧FlAt P ops o a' (vals i))→FillOf ops G vals a a'→wpList P ops Q' l a' w→wpAny P .any ops Q fuel listed a w:=by
 intro fuel
 induction fuel with
 |zero =>
  intro l k G vals listed a a' w hk hkl hf hl hsz hun hG h1 h2 hcl hfl hfill h
  have el:l= []:=List.length_eq_zero_iff.1 (by omega)
  have eG:G= []:=List.length_eq_zero_iff.1 (by omega)
  subst el eG
  have ea:a'=a:=act_ext hfill.defers fun t=>hfill.old t (fun i hi=>by cases hi)
  subst ea
  simp only [List.length_nil,Nat.add_zero] at hkl
  refine ⟨?_,hQ _ _ h⟩
  rcases hx:Region.ready .any ops listed with _|⟨i,xs⟩
  ·rfl
  ·have hi:i∈Region.ready .any ops listed:=by rw [hx];exact List.mem_cons_self ..
   obtain ⟨hu,o,ho,_⟩:=mem_ready.1 hi
   have hlt:i<ops.size:=(Array.getElem?_eq_some_iff.1 ho).1
   rcases Nat.lt_or_ge i n0 with hn|hn
   ·exact absurd (hun i hn hu) List.not_mem_nil
   ·have:=h1 i hn (by omega)
    have:=getD_both hu
    simp_all
 |succ fuel ih =>
  intro l k G vals listed a a' w hk hkl hf hl hsz hun hG h1 h2 hcl hfl hfill h
  -- a slot at which a ready operation looks is as it will be
  have hlook: ∀ (i:Nat) (o:Oper),ops[i]? =some o→(∀ e∈o.after,Region.binds .any e=true→listed.getD e.on false=true)→(i<n0→isFl o=true)→ ∀ t∈o.looksAt ops,a'.tmps[t]? =a.tmps[t]? :=by
   intro i o ho hal hfo t ht
   refine hfill.old t fun i' hi' x hx hxd=>?_
   have hg:=hG i' hi'
   have hxf:=(hfl i' hi' x hx).1
   rcases Nat.lt_or_ge i n0 with hn|hn
   ·rcases Nat.lt_trichotomy i' i with hlt|rfl|hlt
    ·rcases T.pair i' i x o hlt hn hx ho with hw|hw
     ·obtain ⟨e,he,hb⟩:=waitsB_spec hw
      have:=hal e he hb.1
      rw [hb.2] at this
      have:=getD_both hg.2
      simp_all
     ·exact (Oper.apart_spec hw).1 t hxd ht
    ·rw [hx] at ho;cases ho
     exact T.war i' i' _ _ t (Nat.le_refl _) hn hx hx hxf hxf hxd ht
    ·exact T.war i i' o x t (Nat.le_of_lt hlt) hg.1 ho hx (hfo hn) hxf hxd ht
   ·rcases T.tail i' i x o (by omega) hn hx ho with hr|⟨_,_,hap⟩
    ·have:=reach_listed hcl 3 i i' hr (fun y hy=>by rw [ho] at hy;cases hy;exact hal)
     have:=getD_both hg.2
     simp_all
    ·exact (Oper.apart_spec hap).1 t hxd ht
  refine ⟨fun hr=>?_,fun i hi=>?_⟩
  ·have eG:G= []:=by
    cases G with
    |nil=>rfl
    |cons g G' =>
     exfalso
     obtain ⟨m,hm,hmn,hmin⟩: ∃ m,m<n0∧listed.getD m true=false∧ ∀ i,i<m→listed.getD i true=true:=by
      have: ∀ d,(∀ i,i<d→listed.getD i true=true)∨ ∃ m,m<d∧listed.getD m true=false∧ ∀ i,i<m→listed.getD i true=true:=by
       intro d
       induction d with
       |zero=>exact .inl fun i hi=>absurd hi (Nat.not_lt_zero _)
       |succ d ihd =>
        rcases ihd with h|⟨m,h1,h2⟩
        ·cases hx:listed.getD d true with
         |false=>exact .inr ⟨d,by omega,hx,h⟩
         |true =>
          refine .inl fun i hi=>?_
          rcases Nat.lt_or_ge i d with h'|h'
          ·exact h i h'
          ·have hid:i=d:=by omega
           rw [hid];exact hx
        ·exact .inr ⟨m,by omega,h2⟩
      rcases this n0 with hh|hh
      ·have:=hh g (hG g (List.mem_cons_self ..)).1
       rw [(hG g (List.mem_cons_self ..)).2] at this
       cases this
      ·exact hh
     have hms:m<ops.size:=Nat.lt_of_lt_of_le hm T.le
     have:m∈Region.ready .any ops listed:=mem_ready.2 ⟨hmn,ops[m],by simp [hms],fun e he hb=>by
      have hl:=T.lex m ops[m] (by simp [hms]) e he hb
      have h9:=hmin _ hl;have h8:e.on<listed.size:=(by omega);rw [Array.getD_eq_getD_getElem?,Array.getElem?_eq_getElem h8] at h9 ⊢;exact h9⟩
     rw [hr] at this;cases this
   subst eG
   have el:l= []:=by
    cases l with
    |nil=>rfl
    |cons o l' =>
     exfalso
     have ho:ops[k]? =some o:=by have:=hl 0 (by simp);simpa using this.symm
     have hks:k<ops.size:=(Array.getElem?_eq_some_iff.1 ho).1
     have:k∈Region.ready .any ops listed:=mem_ready.2 ⟨h2 k (Nat.le_refl _) hks,o,ho,fun e he hb=>by
      have hl:=T.lex k o ho e he hb
      rcases Nat.lt_or_ge e.on n0 with hn|hn
      ·cases hx:listed.getD e.on false with
       |true=>rfl
       |false=>exact absurd (hun _ hn (getD_in (by omega) hx)) List.not_mem_nil
      ·exact h1 _ hn hl⟩
     rw [hr] at this;cases this
   subst el
   have ea:a'=a:=act_ext hfill.defers fun t=>hfill.old t (fun i hi=>by cases hi)
   subst ea
   exact hQ _ _ h
  ·obtain ⟨hu,o,ho,hal⟩:=mem_ready.1 hi
   have hlt:i<ops.size:=(Array.getElem?_eq_some_iff.1 ho).1
   have hagr:=hlook i o ho hal
   rcases Nat.lt_or_ge i n0 with hn|hn
   · -- a floating one
     have hiG:=hun i hn hu
     obtain ⟨hof,hfa⟩:=hfl i hiG o ho
     have hfa:=hfa.agree (T.sel i o · · ho) (hagr fun _=>hof)
     have hnext: ∀ v,v=vals i→wpAny P .any ops Q fuel (listed.setIfInBounds i true) (a.put o.dst v) w:=by
      intro v hv
      subst hv
      refine ih l k (G.filter fun m=>m≠i) vals _ _ a' w hk hkl ?_ hl (by simp [hsz]) ?_ ?_ ?_ ?_ ?_ ?_ ?_ h
      ·have:(G.filter fun m=>decide (m≠i)).length<G.length:=List.length_filter_lt_length_iff_exists.2 ⟨i,hiG,by simp⟩
       omega
      ·intro j hj hjl
       by_cases hji:j=i
       ·subst hji;simp [hsz,hlt] at hjl
       ·rw [getD_set_ne true (Ne.symm hji)] at hjl
        exact List.mem_filter.2 ⟨hun j hj hjl,by simpa using hji⟩
      ·intro j hj
       obtain ⟨hj1,hj2⟩:=List.mem_filter.1 hj
       have hji:j≠i:=by simpa using hj2
       exact ⟨(hG j hj1).1,by rw [getD_set_ne true (Ne.symm hji)];exact (hG j hj1).2⟩
      ·intro j hj hjk
       exact getD_set_true (h1 j hj hjk)
      ·intro j hj hjs
       rw [getD_set_ne true (by omega)];exact h2 j hj hjs
      ·intro j x hx hjl e he hb
       by_cases hji:j=i
       ·subst hji
        rw [ho] at hx;cases hx
        exact getD_set_true (hal e he hb)
       ·rw [getD_set_ne false (Ne.symm hji)] at hjl
        exact getD_set_true (hcl j x hx hjl e he hb)
      ·intro j hj x hx
       exact hfl j (List.mem_filter.1 hj).1 x hx
      ·refine ⟨hfill.defers.trans (put_defers _ _ _).symm,hfill.size.trans (put_size _ _ _).symm,fun t ht=>?_,fun j hj x t hx hxd hts=>?_⟩
       ·by_cases hd:o.dst=some t
        ·rw [hd]
         rcases Nat.lt_or_ge t a.tmps.size with hs|hs
         ·rw [put_at _ _ _ hs]
          exact hfill.new i hiG o t ho hd hs
         ·rw [Array.getElem?_eq_none (by rw [hfill.size];exact hs),Array.getElem?_eq_none (by rw [put_size];exact hs)]
        ·rw [put_get _ _ _ _ hd]
         refine hfill.old t fun j hj x hx hxd=>?_
         by_cases hji:j=i
         ·subst hji;rw [ho] at hx;cases hx;exact hd hxd
         ·exact ht j (List.mem_filter.2 ⟨hj,by simpa using hji⟩) x hx hxd
       ·rw [put_size] at hts
        exact hfill.new j (List.mem_filter.1 hj).1 x t hx hxd hts
     unfold wpOp
     simp only [ho]
     rcases hfa with ⟨hw,hrun⟩|⟨hw,hv⟩
     ·simp only [hw,if_true]
      left
      unfold Oper.wp
      rw [hrun w]
      exact hnext _ rfl
     ·simp only [hw,Bool.false_eq_true,if_false]
      exact hnext _ hv.symm
   · -- the tail's next one
     have hik:i=k:=by
      rcases Nat.lt_trichotomy i k with h'|h'|h'
      ·have:=h1 i hn h'
       have:=getD_both hu
       simp_all
      ·exact h'
      ·have hks:k<ops.size:=by omega
       have hok:ops[k]? =some ops[k]:=by simp [hks]
       rcases T.tail k i ops[k] o h' hn hok ho with hr|⟨hkn,_⟩
       ·have:=reach_listed hcl 3 i k hr (fun y hy=>by rw [ho] at hy;cases hy;exact hal)
        have:=getD_both (h2 k (Nat.le_refl _) hks)
        simp_all
       ·omega
     subst hik
     obtain ⟨l',rfl⟩: ∃ l',l=o :: l':=by
      cases l with
      |nil=>simp only [List.length_nil,Nat.add_zero] at hkl;omega
      |cons o' l' =>
       have:ops[i]? =some o':=by have:=hl 0 (by simp);simpa using this.symm
       rw [ho] at this;cases this
       exact ⟨l',rfl⟩
     have hagr:=hagr (fun hn'=>by omega)
     have eex:=exec_agree (ops:=ops) (T.sel i o · · ho) hagr
     have ewa:Region.wanted o (yielded ops a'.tmps)=Region.wanted o (yielded ops a.tmps):=wanted_agree fun g bb t hg hd=>hagr t (guard_looks hg hd)
     have hap: ∀ j∈G,∀ x,ops[j]? =some x→x.apart ops o=true:=fun j hj x hx=>by
      rcases T.tail j i x o (by have:=(hG j hj).1;omega) hn hx ho with hr|⟨_,_,hap⟩
      ·have:=reach_listed hcl 3 i j hr (fun y hy=>by rw [ho] at hy;cases hy;exact hal)
       have:=getD_both (hG j hj).2
       simp_all
      ·exact hap
     have hnext: ∀ v w',wpList P ops Q' l' (a'.put o.dst v) w'→wpAny P .any ops Q fuel (listed.setIfInBounds i true) (a.put o.dst v) w':=by
      intro v w' h
      simp only [List.length_cons] at hkl hf
      refine ih l' (i+1) G vals _ _ (a'.put o.dst v) w' (by omega) (by omega) (by omega) (fun j hj=>?_) (by simp [hsz]) ?_ ?_ ?_ ?_ ?_ ?_ ?_ h
      ·have:=hl (j+1) (by simp only [List.length_cons];omega)
       rw [List.getElem?_cons_succ] at this
       rw [this,Nat.add_assoc,Nat.add_comm 1 j]
      ·intro j hj hjl
       rw [getD_set_ne true (by omega)] at hjl
       exact hun j hj hjl
      ·intro j hj
       have:=hG j hj
       exact ⟨this.1,by rw [getD_set_ne true (by omega)];exact this.2⟩
      ·intro j hj hjk
       by_cases hji:i=j
       ·subst hji;simp [hsz,hlt]
       ·exact getD_set_true (h1 j hj (by omega))
      ·intro j hj hjs
       rw [getD_set_ne true (by omega)];exact h2 j (by omega) hjs
      ·intro j x hx hjl e he hb
       by_cases hji:j=i
       ·subst hji
        rw [ho] at hx;cases hx
        exact getD_set_true (hal e he hb)
       ·rw [getD_set_ne false (Ne.symm hji)] at hjl
        exact getD_set_true (hcl j x hx hjl e he hb)
      ·intro j hj x hx
       refine ⟨(hfl j hj x hx).1,(hfl j hj x hx).2.agree (T.sel j x · · hx) fun t ht=>(put_get _ _ _ _ fun e=>?_).symm⟩
       exact (Oper.apart_spec (hap j hj x hx)).2.2 t e ht
      ·refine ⟨by rw [put_defers,put_defers];exact hfill.defers,by rw [put_size,put_size];exact hfill.size,fun t ht=>?_,fun j hj x t hx hxd hts=>?_⟩
       ·by_cases hd:o.dst=some t
        ·rw [hd]
         rcases Nat.lt_or_ge t a.tmps.size with hs|hs
         ·rw [put_at _ _ _ hs,put_at _ _ _ (by rw [hfill.size];exact hs)]
         ·rw [Array.getElem?_eq_none (by rw [put_size,hfill.size];exact hs),Array.getElem?_eq_none (by rw [put_size];exact hs)]
        ·rw [put_get _ _ _ _ hd,put_get _ _ _ _ hd]
         exact hfill.old t ht
       ·rw [put_size] at hts
        have hne:=(Oper.apart_spec (hap j hj x hx)).2.1 t hxd
        rw [put_get _ _ _ _ hne]
        exact hfill.new j hj x t hx hxd hts
     unfold wpList at h
     unfold wpOp
     simp only [ho]
     rw [ewa] at h
     split
     ·rename_i hw
      simp only [hw,if_true] at h
      rcases h with h|⟨_,h⟩
      ·left
       unfold Oper.wp at h ⊢
       have h:=tl_upon (T.kinds i o hn ho) hP h
       rw [eex] at h
       rcases h with ⟨v,w',hr,hk'⟩|⟨w',hr,hk'⟩
       ·rw [hr];exact hnext _ _ hk'
       ·rw [hr];exact hnext _ _ hk'
      ·exact absurd h hO
     ·rename_i hw
      simp only [hw] at h
      exact hnext _ _ h
def onlyN (Q:Exit→Act→World→Prop):Exit→Act→World→Prop
 | .normal,a,w=>Q .normal a w
 |_,_,_=>False
theorem onlyN_normal (Q:Exit→Act→World→Prop) (a:Act) (w:World):onlyN Q .normal a w=Q .normal a w:=rfl
theorem onlyN_out {Q:Exit→Act→World→Prop} : ¬ LetsOut (onlyN Q):=fun ⟨_,_,h⟩=>h
theorem float_fill {R:Nat→World→World→Prop} {C:Nat→World→Prop} {a0:Act} {n0:Nat} (T:FlText ops n0) {D:Nat→Value→World→Prop} (hT: ∀ j o,j<n0→ops[j]? =some o→TurnG P ops n0 R C a0 D j o)
  {listed:Array Bool} {a:Act} {w:World} {vals:Nat→Value} (hC: ∀ j,listed.getD j false=false→C j w) (hn: ∀ j,listed.getD j false=true→j<n0)
  (hcl: ∀ (j:Nat) (o:Oper),ops[j]? =some o→listed.getD j false=true→ ∀ e∈o.after,Region.binds .any e=true→listed.getD e.on false=true)
  (hd:Desc ops a0 (fun i=>listed.getD i false=true) vals a) (hD: ∀ i,listed.getD i false=true→D i (vals i) w) (hF: ∀ i,i<n0→ ∀ o,ops[i]? =some o→listed.getD i false=false→isFl o=true) :
  ∀ m,m≤n0→ ∃ (vals':Nat→Value) (b:Act),Desc ops a0 (fun i=>listed.getD i false=true∨i<m) vals' b∧(∀ i,listed.getD i false=true→vals' i=vals i)∧(∀ i,i<m→D i (vals' i) w) ∧
    (∀ i,i<m→listed.getD i false=false→ ∀ o,ops[i]? =some o→FlAt P ops o b (vals' i)):=by
 intro m
 induction m with
 |zero=>exact fun _=>⟨vals,a,hd.congr (fun i=>by simp) fun _ _=>rfl,fun _ _=>rfl,fun i hi=>absurd hi (Nat.not_lt_zero _),fun i hi=>absurd hi (Nat.not_lt_zero _)⟩
 |succ m ih =>
  intro hm
  obtain ⟨vals',b,h1,h2,h3,h4⟩:=ih (by omega)
  have hms:m<ops.size:=Nat.lt_of_lt_of_le hm T.le
  have ho:ops[m]? =some ops[m]:=by simp [hms]
  cases hl:listed.getD m false with
  |true =>
   refine ⟨vals',b,h1.congr (fun i=>⟨fun h=>h.imp id (by omega),fun h=>?_⟩) fun _ _=>rfl,h2,fun i hi=>?_,fun i hi hli=>?_⟩
   ·rcases h with h|h
    ·exact .inl h
    ·by_cases e:i=m
     ·subst e;exact .inl hl
     ·exact .inr (by omega)
   ·by_cases e:i=m
    ·subst e;rw [h2 i hl];exact hD i hl
    ·exact h3 i (by omega)
   ·by_cases e:i=m
    ·subst e;rw [hl] at hli;cases hli
    ·exact h4 i (by omega) hli
  |false =>
   have hfl:=hF m hm _ ho hl
   have hturn:=hT m _ hm ho b w vals' (fun i=>listed.getD i false=true∨i<m) (hC m hl) h1 (fun i hi=>hi.elim (hn i) (by omega)) (fun i hi him=>h3 i him) (fun i hi=>by
    obtain ⟨e,he,hb⟩:=waitsB_spec hi
    have:=T.lex m _ ho e he hb.1
    exact .inr (by omega)) (fun i x hi hx=>⟨fun e=>by
     subst e
     rcases hi with h|h
     ·rw [hl] at h;cases h
     ·omega,by
    cases hxw:waitsB x m with
    |false=>rfl
    |true =>
     obtain ⟨e,he,hb⟩:=waitsB_spec hxw
     rcases hi with h|h
     ·have:=hcl i x hx h e he hb.1
      rw [hb.2,hl] at this;cases this
     ·have:=T.lex i x hx e he hb.1
      omega⟩)
   have hv: ∃ v,FlAt P ops ops[m] b v∧D m v w:=by
    rcases hturn with ⟨hw,hat⟩|⟨hw,hdu⟩
    ·unfold gAt at hat
     cases hr:(execOp b.eval ops[m]).run P w with
     |ok n w' =>
      obtain ⟨rfl,⟨v,rfl⟩,hall⟩:=fl_run hfl hr
      rw [hr] at hat
      exact ⟨v,.inl ⟨hw,hall⟩,hat.2⟩
     |halt c w'=>rw [hr] at hat;exact absurd hat (by simp [gOut])
    ·exact ⟨undef,.inr ⟨hw,rfl⟩,hdu⟩
   obtain ⟨v,hv1,hv2⟩:=hv
   have hself: ∀ t,ops[m].dst=some t→t ∉ ops[m].looksAt ops:=fun t ht=>T.war m m _ _ t (Nat.le_refl _) hm ho ho hfl hfl ht
   have hwar: ∀ i,i<m→listed.getD i false=false→ ∀ o,ops[i]? =some o→ ∀ t,ops[m].dst=some t→t ∉ o.looksAt ops:=fun i hi hli o hoi t ht=>T.war i m _ _ t (by omega) hm hoi ho (hF i (by omega) o hoi hli) hfl ht
   refine ⟨fun i=>if i=m then v else vals' i,b.put ops[m].dst v,?_,fun i hi=>?_,fun i hi=>?_,fun i hi hli o hoi=>?_⟩
   ·have g1:=h1.congr (S':=fun i=>listed.getD i false=true∨i<m) (vals':=fun i=>if i=m then v else vals' i) (fun _=>Iff.rfl) (fun i hi=>by
     have: ¬ i=m:=fun e=>by
      subst e
      rcases hi with h|h
      ·rw [hl] at h;cases h
      ·omega
     simp only [this,if_false])
    have g2:=g1.put (j:=m) ho fun i x d hi hne hx hd'=>by
     have hi':i<n0:=hi.elim (hn i) (by omega)
     rcases Nat.lt_or_ge i m with hlt|hge
     ·exact T.dist i m x _ d hlt hm hx ho hd'
     ·intro e
      exact T.dist m i _ x d (by omega) hi' ho hx e hd'
    simp only [if_true] at g2
    refine g2.congr (fun i=>⟨fun h=>?_,fun h=>?_⟩) fun _ _=>rfl
    ·rcases h with (h|h)|h
     ·exact .inl h
     ·exact .inr (by omega)
     ·exact .inr (by omega)
    ·rcases h with h|h
     ·exact .inl (.inl h)
     ·by_cases e:i=m
      ·exact .inr e
      ·exact .inl (.inr (by omega))
   ·have: ¬ i=m:=fun e=>by subst e;rw [hl] at hi;cases hi
    simp only [this,if_false]
    exact h2 i hi
   ·by_cases e:i=m
    ·subst e;simp only [if_true];exact hv2
    ·simp only [e,if_false];exact h3 i (by omega)
   ·by_cases e:i=m
    ·subst e
     rw [ho] at hoi;cases hoi
     simp only [if_true]
     exact hv1.agree (T.sel i _ · · ho) fun t ht=>(put_get _ _ _ _ fun e=>hself t e ht).symm
    ·simp only [e,if_false]
     exact (h4 i (by omega) hli o hoi).agree (T.sel i o · · hoi) fun t ht=>(put_get _ _ _ _ fun e'=>hwar i (by omega) hli o hoi t e' ht).symm
theorem wpAny_gf {R Kc:Nat→World→World→Prop} {C:Nat→World→Prop} {I:(Nat→Prop)→World→Prop} (hIC: ∀ S w j,I S w→ ¬ S j→C j w) (hIR: ∀ S w w' j,I S w→ ¬ S j→R j w w'→I (fun i=>S i∨i=j) w') (hRr: ∀ j w,R j w w) (hRK: ∀ k j w w',j≠k→R j w w'→Kc k w w') {a0:Act} {n0:Nat} (T:FlText ops n0) {D:Nat→Value→World→Prop} {Q Q':Exit→Act→World→Prop} (hQ: ∀ a w,Q' .normal a w→Q .normal a w) (hP: ∀ c a w,¬ Q' (.panic c) a w) (hO: ¬ LetsOut Q')
  (hU: ∀ i,i<n0→ ∀ v w w',D i v w→Kc i w w'→D i v w') (hT: ∀ j o,j<n0→ops[j]? =some o→TurnG P ops n0 R C a0 D j o)
  (hZ: ∀ (b:Act) (w:World) (vals:Nat→Value),C n0 w→Desc ops a0 (fun i=>i<n0) vals b→(∀ i,i<n0→D i (vals i) w)→wpList P ops Q' (ops.toList.drop n0) b w) :
  ∀ (fuel:Nat) (L:List Nat) (listed:Array Bool) (a:Act) (w:World) (vals:Nat→Value),L.length+(ops.size - n0)≤fuel→(∀ i,i<n0→listed.getD i true=false→i∈L)→(∀ i∈L,i<n0∧listed.getD i true=false)→listed.size=ops.size →
    (∀ i,n0≤i→i<ops.size→listed.getD i true=false)→(∀ j o,ops[j]? =some o→listed.getD j false=true→ ∀ e∈o.after,Region.binds .any e=true→listed.getD e.on false=true) →
    I (fun i=>listed.getD i false=true) w→Desc ops a0 (fun i=>listed.getD i false=true) vals a→(∀ i,listed.getD i false=true→D i (vals i) w)→wpAny P .any ops Q fuel listed a w:=by
 intro fuel
 induction fuel with
 |zero =>
  intro L listed a w vals hL hun hLm hsz htl hcl hC hd hD
  have hSn: ∀ j,listed.getD j false=true→j<n0:=fun j hj=>by
   rcases Nat.lt_or_ge j n0 with h|h
   ·exact h
   ·rcases Nat.lt_or_ge j ops.size with his|his
    ·have:=getD_both (htl j h his);simp_all
    ·rw [Array.getD_eq_getD_getElem?,Array.getElem?_eq_none (by omega)] at hj;cases hj
  have hL0:L= []:=List.length_eq_zero_iff.1 (by omega)
  have hall: ∀ i,i<n0→ ∀ o,ops[i]? =some o→listed.getD i false=false→isFl o=true:=fun i hi o ho hf=>by
   have:=hun i hi (getD_in (by have:=T.le;omega) hf)
   rw [hL0] at this;cases this
  exact (by
   have hnot:listed.getD n0 false=false:=by
    cases h:listed.getD n0 false with
    |false=>rfl
    |true=>exact absurd (hSn n0 h) (Nat.lt_irrefl _)
   obtain ⟨vals',b,g1,g2,g3,g4⟩:=float_fill (D:=D) T hT (fun j hj=>hIC _ w j hC (by rw [hj];simp)) hSn hcl hd hD hall n0 (Nat.le_refl _)
   have gd:Desc ops a0 (fun i=>i<n0) vals' b:=g1.congr (fun i=>⟨fun h=>h.elim (hSn i) id,fun h=> .inr h⟩) fun _ _=>rfl
   have hz:=hZ b w vals' (hIC _ w n0 hC (by rw [hnot];simp)) gd g3
   refine wpAny_fl T hQ hP hO 0 (ops.toList.drop n0) n0 L vals' listed a b w (Nat.le_refl _) (by have:=T.le;simp;omega) (by rw [List.length_drop,Array.length_toList];omega) (fun j hj=>by simp) hsz hun hLm (fun i h1 h2=>by omega) htl hcl (fun i hi o ho=>?_) ?_ hz
   ·have hl:=getD_both (hLm i hi).2
    exact ⟨hall i (hLm i hi).1 o ho hl,g4 i (hLm i hi).1 hl o ho⟩
   ·refine ⟨gd.defers.trans hd.defers.symm,gd.size.trans hd.size.symm,fun t ht=>gd.agree hd t fun i o ho hdst=>⟨⟨fun hi=>?_,hSn i⟩,fun hi=>?_⟩,fun i hi o t ho hdst hts=>gd.new t i o (hLm i hi).1 ho hdst (by rw [← hd.size];exact hts)⟩
    ·cases hx:listed.getD i false with
     |true=>rfl
     |false=>exact absurd hdst (ht i (hun i hi (getD_in (by have:=T.le;omega) hx)) o ho)
    ·refine g2 i ?_
     cases hx:listed.getD i false with
     |true=>rfl
     |false=>exact absurd hdst (ht i (hun i hi (getD_in (by have:=T.le;omega) hx)) o ho))
 |succ fuel ih =>
  intro L listed a w vals hL hun hLm hsz htl hcl hC hd hD
  have hSn: ∀ j,listed.getD j false=true→j<n0:=fun j hj=>by
   rcases Nat.lt_or_ge j n0 with h|h
   ·exact h
   ·rcases Nat.lt_or_ge j ops.size with his|his
    ·have:=getD_both (htl j h his);simp_all
    ·rw [Array.getD_eq_getD_getElem?,Array.getElem?_eq_none (by omega)] at hj;cases hj
  by_cases hall: ∀ i,i<n0→ ∀ o,ops[i]? =some o→listed.getD i false=false→isFl o=true
  ·exact (by
    have hnot:listed.getD n0 false=false:=by
     cases h:listed.getD n0 false with
     |false=>rfl
     |true=>exact absurd (hSn n0 h) (Nat.lt_irrefl _)
    obtain ⟨vals',b,g1,g2,g3,g4⟩:=float_fill (D:=D) T hT (fun j hj=>hIC _ w j hC (by rw [hj];simp)) hSn hcl hd hD hall n0 (Nat.le_refl _)
    have gd:Desc ops a0 (fun i=>i<n0) vals' b:=g1.congr (fun i=>⟨fun h=>h.elim (hSn i) id,fun h=> .inr h⟩) fun _ _=>rfl
    have hz:=hZ b w vals' (hIC _ w n0 hC (by rw [hnot];simp)) gd g3
    refine wpAny_fl T hQ hP hO (fuel+1) (ops.toList.drop n0) n0 L vals' listed a b w (Nat.le_refl _) (by have:=T.le;simp;omega) (by rw [List.length_drop,Array.length_toList];omega) (fun j hj=>by simp) hsz hun hLm (fun i h1 h2=>by omega) htl hcl (fun i hi o ho=>?_) ?_ hz
    ·have hl:=getD_both (hLm i hi).2
     exact ⟨hall i (hLm i hi).1 o ho hl,g4 i (hLm i hi).1 hl o ho⟩
    ·refine ⟨gd.defers.trans hd.defers.symm,gd.size.trans hd.size.symm,fun t ht=>gd.agree hd t fun i o ho hdst=>⟨⟨fun hi=>?_,hSn i⟩,fun hi=>?_⟩,fun i hi o t ho hdst hts=>gd.new t i o (hLm i hi).1 ho hdst (by rw [← hd.size];exact hts)⟩
     ·cases hx:listed.getD i false with
      |true=>rfl
      |false=>exact absurd hdst (ht i (hun i hi (getD_in (by have:=T.le;omega) hx)) o ho)
     ·refine g2 i ?_
      cases hx:listed.getD i false with
      |true=>rfl
      |false=>exact absurd hdst (ht i (hun i hi (getD_in (by have:=T.le;omega) hx)) o ho))
  · -- the least one that is neither listed nor floating, or one ahead of it, is ready; whatever is ready lies in the head
    have hready:Region.ready .any ops listed≠ []∧ ∀ i∈Region.ready .any ops listed,i<n0:=by
     obtain ⟨m,hm,hmn,hmin⟩: ∃ m,m<n0∧listed.getD m false=false∧ ∀ i,i<m→listed.getD i false=true:=by
      have: ∀ d,(∀ i,i<d→listed.getD i false=true)∨ ∃ m,m<d∧listed.getD m false=false∧ ∀ i,i<m→listed.getD i false=true:=by
       intro d
       induction d with
       |zero=>exact .inl fun i hi=>absurd hi (Nat.not_lt_zero _)
       |succ d ihd =>
        rcases ihd with h|⟨m,h1,h2⟩
        ·cases hx:listed.getD d false with
         |false=>exact .inr ⟨d,by omega,hx,h⟩
         |true =>
          refine .inl fun i hi=>?_
          rcases Nat.lt_or_ge i d with h'|h'
          ·exact h i h'
          ·have hid:i=d:=by omega
           rw [hid];exact hx
        ·exact .inr ⟨m,by omega,h2⟩
      rcases this n0 with h|h
      ·exact absurd (fun i hi o ho hf=>by rw [h i hi] at hf;cases hf) hall
      ·exact h
     have hms:m<ops.size:=Nat.lt_of_lt_of_le hm T.le
     have hmt:listed.getD m true=false:=getD_in (by omega) hmn
     refine ⟨fun hr=>?_,fun i hi=>?_⟩
     ·have:m∈Region.ready .any ops listed:=mem_ready.2 ⟨hmt,ops[m],by simp [hms],fun e he hb=>hmin _ (T.lex m _ (by simp [hms]) e he hb)⟩
      rw [hr] at this;cases this
     ·obtain ⟨_,o,ho,hal⟩:=mem_ready.1 hi
      rcases Nat.lt_or_ge i n0 with h|h
      ·exact h
      ·exfalso
       refine hall fun j hj x hx hjl=>?_
       rcases T.tail j i x o (by omega) h hx ho with hr|⟨_,hf,_⟩
       ·have:=reach_listed hcl 3 i j hr (fun y hy=>by rw [ho] at hy;cases hy;exact hal)
        rw [hjl] at this;cases this
       ·exact hf
    refine ⟨fun hr=>absurd hr hready.1,fun i hi=>?_⟩
    have hin:=hready.2 i hi
    obtain ⟨hunl,o,ho,hal⟩:=mem_ready.1 hi
    have his:i<ops.size:=(Array.getElem?_eq_some_iff.1 ho).1
    have hilf:listed.getD i false=false:=getD_both hunl
    have hturn:=hT i o hin ho a w vals (fun j=>listed.getD j false=true) (hIC _ w i hC (by rw [hilf];simp)) hd hSn (fun j hj _=>hD j hj) (fun j hj=>by
     obtain ⟨e,he,hb⟩:=waitsB_spec hj
     rw [← hb.2];exact hal e he hb.1) (fun j x hj hx=>⟨fun hji=>(by subst hji;rw [hilf] at hj;cases hj),by
     cases hxw:waitsB x i with
     |false=>rfl
     |true =>
      obtain ⟨e,he,hb⟩:=waitsB_spec hxw
      have:=hcl j x hx hj e he hb.1
      rw [hb.2,hilf] at this
      cases this⟩)
    -- what follows, the value being v, the world w'
    have hnext: ∀ v w',R i w w'→D i v w'→wpAny P .any ops Q fuel (listed.setIfInBounds i true) (a.put o.dst v) w':=by
     intro v w' hu hv
     refine ih (L.filter fun j=>j≠i) (listed.setIfInBounds i true) _ w' (fun j=>if j=i then v else vals j) ?_ ?_ ?_ (by simp [hsz]) ?_ ?_ (by have h1:=hIR _ w w' i hC (by rw [hilf];simp) hu;have e:(fun j=>listed.getD j false=true∨j=i)=(fun j=>(listed.setIfInBounds i true).getD j false=true):=(by funext j;by_cases hji:j=i;(· subst hji;simp [hsz,his]);(· rw [getD_set_ne false (Ne.symm hji)];simp [hji]));rw [e] at h1;exact h1) ?_ ?_
     ·have hmem:=hun i hin hunl
      have:(L.filter fun j=>decide (j≠i)).length<L.length:=List.length_filter_lt_length_iff_exists.2 ⟨i,hmem,by simp⟩
      omega
     ·intro j hj hjl
      by_cases hji:j=i
      ·subst hji;simp [hsz,his] at hjl
      ·rw [getD_set_ne true (Ne.symm hji)] at hjl
       exact List.mem_filter.2 ⟨hun j hj hjl,by simpa using hji⟩
     ·intro j hj
      obtain ⟨hj1,hj2⟩:=List.mem_filter.1 hj
      have hji:j≠i:=by simpa using hj2
      exact ⟨(hLm j hj1).1,by rw [getD_set_ne true (Ne.symm hji)];exact (hLm j hj1).2⟩
     ·intro j hj hjs
      rw [getD_set_ne true (by omega)];exact htl j hj hjs
     ·intro j x hx hjl e he hb
      by_cases hji:j=i
      ·subst hji
       rw [ho] at hx;cases hx
       exact getD_set_true (hal e he hb)
      ·rw [getD_set_ne false (Ne.symm hji)] at hjl
       exact getD_set_true (hcl j x hx hjl e he hb)
     ·have h1:=hd.congr (S':=fun j=>listed.getD j false=true) (vals':=fun j=>if j=i then v else vals j) (fun _=>Iff.rfl) (fun j hj=>by
       have: ¬ j=i:=fun h=>by subst h;rw [hilf] at hj;cases hj
       simp only [this,if_false])
      have h2:=h1.put (j:=i) ho fun j x d hj hne hx hd'=>by
       rcases Nat.lt_or_ge j i with hl|hl
       ·exact T.dist j i x o d hl hin hx ho hd'
       ·intro e
        exact T.dist i j o x d (by omega) (hSn j hj) ho hx e hd'
      simp only [if_true] at h2
      refine h2.congr (fun j=>?_) (fun _ _=>rfl)
      by_cases hji:j=i
      ·subst hji;simp [hsz,his]
      ·rw [getD_set_ne false (Ne.symm hji)];simp [hji]
     ·intro j hj
      by_cases hji:j=i
      ·subst hji;simp only [if_true];exact hv
      ·rw [getD_set_ne false (Ne.symm hji)] at hj
       simp only [hji,if_false]
       exact hU j (hSn j hj) _ _ _ (hD j hj) (hRK j i _ _ (fun e=>hji e.symm) hu)
    unfold wpOp
    simp only [ho]
    rcases hturn with ⟨hw,hat⟩|⟨hw,hdu⟩
    ·simp only [hw,if_true]
     exact .inl (hat.wp hnext)
    ·simp only [hw,Bool.false_eq_true,if_false]
     exact hnext undef w (hRr i w) hdu
theorem wp_region_upf (n0:Nat) {id:Nat} {Q:Exit→Act→World→Prop} {a:Act} {w:World} {l:List Oper} (hm:P.follows .mixedOrders=true) (hB:flB l.toArray n0=true)
  (h:WUp P l.toArray (fun w'=>Up w w') (fun a' w'=>wpList P l.toArray (onlyN Q) (l.drop n0) a' w') (l.take n0) 0 [] a):(Code.region id l.toArray true).wp P Q a w:=by
 have T:=flB_text hB
 have hle:n0≤l.length:=by simpa using T.le
 obtain ⟨D,hU,hT,hZ⟩:=wpG_text (R:=fun _=>Up) (Kc:=fun _=>Up) (C:=fun _ w'=>Up w w') (Z:=fun a' w'=>wpList P l.toArray (onlyN Q) (l.drop n0) a' w') (a0:=a) (n0:=n0) T.c (l.take n0) 0 [] a (fun _=>False) (fun _=>undef) (fun _ _ _=>False) (by simp [hle]) (fun j hj=>by
  simp only [List.length_take] at hj
  simp [show j<n0 by omega]) ⟨(Desc.refl a (fun _=>undef)).congr (fun i=>by simp) (fun _ h=>h.elim),fun i hi=>absurd hi (Nat.not_lt_zero _),fun m hm=>(by cases hm),fun i hi=>absurd hi (Nat.not_lt_zero _)⟩
  (fun i hi=>absurd hi (Nat.not_lt_zero _)) (fun j o hj=>absurd hj (Nat.not_lt_zero _)) (wpUp_wpG _ _ _ _ h.out)
 refine wp_region_any hm (wpAny_gf (R:=fun _=>Up) (Kc:=fun _=>Up) (C:=fun _ w'=>Up w w') (I:=fun _ w'=>Up w w') (fun S w' j hI hS=>hI) (fun S w1 w2 j hI hS hR=>hI.trans hR) (fun j w'=>Up.refl _) (fun k j w1 w2 hne hR=>hR) (a0:=a) (Q:=Q) (Q':=onlyN Q) T (fun _ _ h=>h) (fun _ _ _ h=>h) onlyN_out hU hT (by simpa using hZ) _ (List.range n0) _ a _ (fun _=>undef) (by simp;omega) (fun i hi _=>List.mem_range.2 hi) (fun i hi=>?_) (by simp) (fun i hi his=>by
  have:i<l.length:=by simpa using his
  simp [this]) (fun j o ho hj=>?_) ?_ ?_ ?_)
 ·have hin:=List.mem_range.1 hi
  have:i<l.length:=by omega
  exact ⟨hin,by simp [this]⟩
 ·rw [getD_replicate_false] at hj;cases hj
 ·exact Up.drew (Up.refl w)
 ·exact (Desc.refl a (fun _=>undef)).congr (fun i=>by rw [getD_replicate_false];simp) (fun _ h=>h.elim)
 ·intro i hi;rw [getD_replicate_false] at hi;cases hi
end
end Go.Proofs.YtekogcjdaolcbaaGreatDoor
/- A region whose order is open, whose calls draw from the reader (they write its place alone) or only make memory: walked once in the order of the text. Conditions: those of the theorem wp_region_rd. -/
namespace Go.Proofs.YtekogcjdaolcbaaGreatDoor
open Go Go.RowKit
def RdBy (rb:Nat) (w:World) (v:Value):Prop:= ∃ (l:List UInt8) (a:Option Addr) (cap:Nat),v= .slice a l.length cap∧l.length≤2000∧l.length≤cap∧cap≤maxLen ∧
 (0<l.length→ ∃ b off,a=some ⟨b,off,none⟩∧b<w.heap.size∧b≠rb∧ ∀ i x,l[i]? =some x→w.cell? ⟨b,off+i,none⟩=some (.int .u8 x.toNat))
def Rdr (rb:Nat) (B:Value) (w:World) (N:Nat):Prop:=(∃ p:Nat,p≤N∧w.heap[rb]? =some (.cells #[B,.int .i64 p] 118))∧RdBy rb w B
theorem RdBy.gr {rb:Nat} {w w':World} {v:Value} (h:RdBy rb w v) (hg:w.grownBy w' (some rb)):RdBy rb w' v:=by
 obtain ⟨l,a,cap,h1,h2,h3,h4,h5⟩:=h
 refine ⟨l,a,cap,h1,h2,h3,h4,fun hp=>?_⟩
 obtain ⟨b,off,e1,e2,e3,e4⟩:=h5 hp
 exact ⟨b,off,e1,Nat.lt_of_lt_of_le e2 hg.size,e3,fun i x hi=>((gcell hg).1 b _ e2 (fun e=>e3 (Option.some.inj e))).trans (e4 i x hi)⟩
theorem Rdr.lt {rb:Nat} {B:Value} {w:World} {N:Nat} (h:Rdr rb B w N):rb<w.heap.size:=by
 obtain ⟨⟨p,_,h1⟩,_⟩:=h
 exact (Array.getElem?_eq_some_iff.1 h1).1
theorem Rdr.up {rb:Nat} {B:Value} {w w':World} {N:Nat} (h:Rdr rb B w N) (hu:Up w w'):Rdr rb B w' N:=by
 obtain ⟨⟨p,h1,h2⟩,h3⟩:=h
 exact ⟨⟨p,h1,box_up hu h2⟩,h3.gr (up_grownBy hu _)⟩
theorem Rdr.mono {rb:Nat} {B:Value} {w:World} {N M:Nat} (h:Rdr rb B w N) (hn:N≤M):Rdr rb B w M:=by
 obtain ⟨⟨p,h1,h2⟩,h3⟩:=h
 exact ⟨⟨p,Nat.le_trans h1 hn,h2⟩,h3⟩
def RdUp (rb:Nat) (B:Value) (c:Nat) (w w':World):Prop:=w.grownBy w' (some rb)∧ ∀ N,Rdr rb B w N→Rdr rb B w' (N+c)
theorem RdUp.refl (rb:Nat) (B:Value) (c:Nat) (w:World):RdUp rb B c w w:=⟨grownBy_refl _ _,fun N h=>h.mono (by omega)⟩
theorem RdUp.trans {rb:Nat} {B:Value} {c d:Nat} {w1 w2 w3:World} (h:RdUp rb B c w1 w2) (k:RdUp rb B d w2 w3):RdUp rb B (c+d) w1 w3 :=
 ⟨grownBy_trans h.1 k.1,fun N hN=>(k.2 _ (h.2 N hN)).mono (by omega)⟩
theorem RdUp.of {rb:Nat} {B:Value} {c:Nat} {w w':World} (h:Up w w'):RdUp rb B c w w':=⟨up_grownBy h _,fun N hN=>(hN.up h).mono (by omega)⟩
theorem RdUp.mono {rb:Nat} {B:Value} {c d:Nat} {w w':World} (h:RdUp rb B c w w') (hc:c≤d):RdUp rb B d w w':=⟨h.1,fun N hN=>(h.2 N hN).mono (by omega)⟩
theorem up_grownR {a w w':World} (h:Up a w) {b:Nat} (hg:w.grownBy w' (some b)) (hb:a.heap.size≤b):Up a w':=Below.grown h hg h.size (fun k hk=>by cases hk;exact hb)
open Classical in
noncomputable def unS:Nat→(Nat→Prop)→Nat
 |0,_=>0
 |n+1,S=>unS n S+if S n then 0 else 1
open Classical in
theorem unS_same {n:Nat} {S:Nat→Prop} {j:Nat} (h:n≤j):unS n (fun i=>S i∨i=j)=unS n S:=by
 induction n with
 |zero=>rfl
 |succ n ih =>
  have hne: ¬ n=j:=by omega
  simp only [unS,ih (by omega),hne,or_false]
open Classical in
theorem unS_less {n:Nat} {S:Nat→Prop} {j:Nat} (h:j<n) (hj: ¬ S j):unS n (fun i=>S i∨i=j)+1=unS n S:=by
 induction n with
 |zero=>omega
 |succ n ih =>
  by_cases e:n=j
  ·subst e
   simp only [unS,unS_same (Nat.le_refl _),or_true,if_true,hj,if_false]
  ·have:=ih (by omega)
   simp only [unS,e,or_false]
   omega
theorem unS_le (n:Nat) (S:Nat→Prop):unS n S≤n:=by
 induction n with
 |zero=>exact Nat.le_refl _
 |succ n ih =>
  simp only [unS]
  split <;> omega
def rC (wr:World) (rb:Nat) (B:Value) (M:Nat) (j:Nat) (w:World):Prop:=wr.grownBy w (some rb)∧Rdr rb B w M
def rR (rb:Nat) (B:Value) (n0 c:Nat) (j:Nat) (w w':World):Prop:=RdUp rb B (if j<n0 then c else 0) w w'
def rK (rb:Nat) (j:Nat) (w w':World):Prop:=w.grownBy w' (some rb)
section
variable {P:Program} {ops:Array Oper}
structure WR (P:Program) (ops:Array Oper) (wr:World) (rb:Nat) (B:Value) (n0 c M:Nat) (Z:Act→World→Prop) (l:List Oper) (k:Nat) (E:List Mk) (a:Act):Prop where
 out:wpG P ops (rR rb B n0 c) (rK rb) (rC wr rb B M) Z l k E a
theorem wp_region_rd (n0 rb:Nat) (B:Value) (c N0:Nat) {id:Nat} {Q:Exit→Act→World→Prop} {a:Act} {w:World} {l:List Oper} (hm:P.follows .mixedOrders=true) (hB:flB l.toArray n0=true) (hr:Rdr rb B w N0)
  (h:WR P l.toArray w rb B n0 c (N0+c * n0) (fun a' w'=>wpList P l.toArray (onlyN Q) (l.drop n0) a' w') (l.take n0) 0 [] a):(Code.region id l.toArray true).wp P Q a w:=by
 have T:=flB_text hB
 have hle:n0≤l.length:=by simpa using T.le
 obtain ⟨D,hU,hT,hZ⟩:=wpG_text (R:=rR rb B n0 c) (Kc:=rK rb) (C:=rC w rb B (N0+c * n0)) (Z:=fun a' w'=>wpList P l.toArray (onlyN Q) (l.drop n0) a' w') (a0:=a) (n0:=n0) T.c (l.take n0) 0 [] a (fun _=>False) (fun _=>undef) (fun _ _ _=>False) (by simp [hle]) (fun j hj=>by
  simp only [List.length_take] at hj
  simp [show j<n0 by omega]) ⟨(Desc.refl a (fun _=>undef)).congr (fun i=>by simp) (fun _ h=>h.elim),fun i hi=>absurd hi (Nat.not_lt_zero _),fun m hm=>(by cases hm),fun i hi=>absurd hi (Nat.not_lt_zero _)⟩
  (fun i hi=>absurd hi (Nat.not_lt_zero _)) (fun j o hj=>absurd hj (Nat.not_lt_zero _)) h.out
 refine wp_region_any hm (wpAny_gf (R:=rR rb B n0 c) (Kc:=rK rb) (C:=rC w rb B (N0+c * n0)) (I:=fun S w'=>w.grownBy w' (some rb)∧ ∃ N,Rdr rb B w' N∧N+c * unS n0 S≤N0+c * n0) (fun S w' j hI hS=>?_) (fun S w1 w2 j hI hS hR=>?_) (fun j w'=>?_) (fun k j w1 w2 hne hR=>?_) (a0:=a) (Q:=Q) (Q':=onlyN Q) T (fun _ _ h=>h) (fun _ _ _ h=>h) onlyN_out hU hT (by simpa using hZ) _ (List.range n0) _ a _ (fun _=>undef) (by simp;omega) (fun i hi _=>List.mem_range.2 hi) (fun i hi=>?_) (by simp) (fun i hi his=>by
  have:i<l.length:=by simpa using his
  simp [this]) (fun j o ho hj=>?_) ?_ ?_ ?_)
 ·obtain ⟨h1,N,h2,h3⟩:=hI
  exact ⟨h1,h2.mono (by omega)⟩
 ·obtain ⟨h1,N,h2,h3⟩:=hI
  unfold rR at hR
  refine ⟨grownBy_trans h1 hR.1,_,hR.2 N h2,?_⟩
  by_cases hj:j<n0
  ·rw [if_pos hj]
   have:=unS_less hj hS
   rw [← this,Nat.mul_add,Nat.mul_one] at h3
   omega
  ·rw [if_neg hj,unS_same (by omega)]
   omega
 ·unfold rR
  exact RdUp.refl _ _ _ _
 ·exact hR.1
 ·have hin:=List.mem_range.1 hi
  have:i<l.length:=by omega
  exact ⟨hin,by simp [this]⟩
 ·rw [getD_replicate_false] at hj;cases hj
 ·have hu:=Up.drew (Up.refl w)
  have:=unS_le n0 (fun i=>((Array.replicate l.toArray.size false).getD i false=true))
  refine ⟨up_grownBy hu _,N0,hr.up hu,?_⟩
  have:=Nat.mul_le_mul_left c this
  omega
 ·exact (Desc.refl a (fun _=>undef)).congr (fun i=>by rw [getD_replicate_false];simp) (fun _ h=>h.elim)
 ·intro i hi;rw [getD_replicate_false] at hi;cases hi
section
variable {wr:World} {rb:Nat} {B:Value} {n0 c M:Nat} {Z:Act→World→Prop} {o:Oper} {rest:List Oper} {k:Nat} {E:List Mk} {a:Act}
def stepR (P:Program) (ops:Array Oper) (wr:World) (rb:Nat) (B:Value) (n0 c M:Nat) (E:List Mk) (k:Nat) (o:Oper) (a:Act) (K:List Mk→Act→Prop):Prop :=
 (∃ v,(∀ w,rC wr rb B M k w→fills (E.filter fun m=>waitsB o m.1) a w (fun a'=>gAt P (rR rb B n0 c k) o a' w (fun v' _=>v'=v)))∧K E (a.put o.dst v)) ∨
 (∃ D,guardFree ops k=true∧(∀ v w w',D v w→rK rb k w w'→D v w')∧(∀ w,rC wr rb B M k w→fills (E.filter fun m=>waitsB o m.1) a w (fun a'=>gAt P (rR rb B n0 c k) o a' w D))∧K ((k,o.dst,D) :: E) a)
theorem wpR_step (h: ∀ K:List Mk→Act→Prop,(∀ E a,WR P ops wr rb B n0 c M Z rest (k+1) E a→K E a)→if Region.wanted o (yielded ops a.tmps) then stepR P ops wr rb B n0 c M E k o a K else K E (a.put o.dst undef)):WR P ops wr rb B n0 c M Z (o :: rest) k E a:=by
 have:=h (fun E a=>wpG P ops (rR rb B n0 c) (rK rb) (rC wr rb B M) Z rest (k+1) E a) fun _ _ h=>h.out
 refine ⟨?_⟩
 unfold wpG
 exact this
theorem gAt_rd {o:Oper} {a:Act} {w:World} {D:Value→World→Prop} {R R':World→World→Prop} (hR: ∀ w',R w w'→R' w w') (h:gAt P R o a w D):gAt P R' o a w D:=by
 unfold gAt at *
 generalize (execOp a.eval o).run P w=r at *
 cases r with
 |ok n w' =>
  cases n with
  |value v=>exact ⟨hR _ h.1,h.2⟩
  |skip=>exact ⟨hR _ h.1,h.2⟩
  |enter f args=>exact ⟨h.1,h.2.mono fun e w'' ⟨v,he,h1,h2⟩=>⟨v,he,hR _ h1,h2⟩⟩
  |_=>exact h
 |halt x w'=>exact h
theorem stepR_c {K:List Mk→Act→Prop} (v:Value) (h1: ∀ w,wr.grownBy w (some rb)→Rdr rb B w M→fills (E.filter fun m=>waitsB o m.1) a w (fun a'=>upAt P o a' w (fun v' _=>v'=v))) (h2:K E (a.put o.dst v)):stepR P ops wr rb B n0 c M E k o a K :=
 .inl ⟨v,fun w hC=>fills_mono (fun a' h=>gAt_rd (fun w' h=>RdUp.of h) (gAt_up h)) (h1 w hC.1 hC.2),h2⟩
theorem stepR_m {K:List Mk→Act→Prop} (hg:guardFree ops k=true) (D:Value→World→Prop) (hD: ∀ v w w',D v w→w.grownBy w' (some rb)→D v w')
  (h1: ∀ w,wr.grownBy w (some rb)→Rdr rb B w M→fills (E.filter fun m=>waitsB o m.1) a w (fun a'=>upAt P o a' w D)) (h2:K ((k,o.dst,D) :: E) a):stepR P ops wr rb B n0 c M E k o a K :=
 .inr ⟨D,hg,hD,fun w hC=>fills_mono (fun a' h=>gAt_rd (fun w' h=>RdUp.of h) (gAt_up h)) (h1 w hC.1 hC.2),h2⟩
theorem stepR_d {K:List Mk→Act→Prop} (hk:decide (k<n0)=true) (hg:guardFree ops k=true) (D:Value→World→Prop) (hD: ∀ v w w',D v w→w.grownBy w' (some rb)→D v w')
  (h1: ∀ w,wr.grownBy w (some rb)→Rdr rb B w M→fills (E.filter fun m=>waitsB o m.1) a w (fun a'=>gAt P (RdUp rb B c) o a' w D)) (h2:K ((k,o.dst,D) :: E) a):stepR P ops wr rb B n0 c M E k o a K:=by
 refine .inr ⟨D,hg,hD,fun w hC=>?_,h2⟩
 have e:rR rb B n0 c k=RdUp rb B c:=by
  funext w w';unfold rR;rw [if_pos (of_decide_eq_true hk)]
 rw [e]
 exact h1 w hC.1 hC.2
theorem wpR_nil (h: ∀ w,wr.grownBy w (some rb)→Rdr rb B w M→fills E a w (fun a'=>Z a' w)):WR P ops wr rb B n0 c M Z [] k E a:=⟨fun w hC=>h w hC.1 hC.2⟩
end
end
def Drawn (rb:Nat) (B:Value) (c:Nat) (D:Value→Prop) (w:World) (e:Ending) (w':World):Prop:= ∃ v,e= .returned v∧D v∧RdUp rb B c w w'
theorem gOut_drawn {P:Program} {rb:Nat} {B:Value} {c c':Nat} {D:Value→Prop} {w:World} {f:FuncId} {args:Array Value} (h:Calls P f args w (Drawn rb B c' D w)) (hc:c'≤c):gOut P (RdUp rb B c) (fun v _=>D v) w (.ok (.enter f args) w) :=
 ⟨rfl,h.mono fun e w' ⟨v,h1,h2,h3⟩=>⟨v,h1,h3.mono hc,h2⟩⟩
def IsStr (n:Nat) (v:Value):Prop:= ∃ s:ByteArray,v= .string s∧s.size≤n
end Go.Proofs.YtekogcjdaolcbaaGreatDoor
/- Walks of the reference's reader. Conditions: the reader is one (Rdr), its place is bounded. -/
namespace Go.Proofs.YtekogcjdaolcbaaGreatDoor
open Go Go.RowKit
theorem xor_nat (a b:Nat) (ha:a<2 ^ 62) (hb:b<2 ^ 62):bits .xor .i64 (a:Int) (b:Int)=((a ^^^ b:Nat):Int):=by
 have hp:(2:Nat) ^ 62≤2 ^ IntKind.i64.bits:=by decide
 have ha':a % 2 ^ IntKind.i64.bits=a:=Nat.mod_eq_of_lt (Nat.lt_of_lt_of_le ha hp)
 have hb':b % 2 ^ IntKind.i64.bits=b:=Nat.mod_eq_of_lt (Nat.lt_of_lt_of_le hb hp)
 have hx:=Nat.xor_lt_two_pow ha hb
 simp only [bits,BitVec.ofInt_natCast,BitVec.toNat_xor,BitVec.toNat_ofNat,ha',hb']
 exact IntWalk.i64_in _ (by omega)
theorem xor_ok (x:Int) (h0:0≤x) (h1:x≤4611686018427387903):0≤bits .xor .i64 x (x / 64):=by
 obtain ⟨a,rfl⟩:=Int.eq_ofNat_of_zero_le h0
 have e:((a:Int) / 64)=((a / 64:Nat):Int):=by omega
 rw [e,xor_nat a (a / 64) (by omega) (by omega)]
 exact Int.natCast_nonneg _
def pickB (n:Int) (v:Value):Prop:= ∃ i:Int,v= .int .i64 i∧0≤i∧(i<n∨i=0)
theorem Rdr.set {rb:Nat} {B:Value} {w:World} {p:Nat} (h:w.heap[rb]? =some (.cells #[B,.int .i64 p] 118)):RdUp rb B 1 w (w.setCell ⟨rb,1,none⟩ (.int .i64 (p+1))):=by
 have hg:w.grownBy (w.setCell ⟨rb,1,none⟩ (.int .i64 (p+1))) (some rb):=grownBy_set (grownBy_refl w (some rb)) 1 _
 refine ⟨hg,fun N hN=>⟨⟨p+1,?_,?_⟩,hN.2.gr hg⟩⟩
 ·obtain ⟨⟨q,h1,h2⟩,_⟩:=hN
  rw [h] at h2
  simp at h2
  omega
 ·have:=box_set h 1 (.int .i64 (p+1))
  simpa using this
set_option maxRecDepth 100000 in
set_option maxHeartbeats 2000000 in
theorem pick_any (rb:Nat) (B:Value) (n:Int) (w:World) (N:Nat) (h:Rdr rb B w N) (hN:N≤1099511627776) :
  Calls Tryz.prog 31  #[.pointer (some ⟨rb,0,none⟩),.int .i64 n] w (Drawn rb B 1 (pickB n) w):=by
 have hlt:=h.lt
 obtain ⟨⟨p,hp,hh⟩,l,a,cap,rfl,hl1,hl2,hl3,hcells⟩:=h
 have r0:=box_cell hh 0
 have r1:=box_cell hh 1
 have hfr:=box_free hh
 have HU:=Lib.hid (Rdr.set hh)
 simp at r0 r1
 unfold maxLen at hl3
 clear hh
 by_cases h1:n<1
 ·go_enter Tryz.func31,Tryz.ntmps31
  go_wp2
  go_ret
  exact ⟨_,rfl,⟨0,rfl,Int.le_refl _,.inr rfl⟩,HU.out⟩
 ·have hcl: ∀ q (hq:q<l.length),∃ b off,a=some ⟨b,off,none⟩∧b<w.heap.size∧(w.setCell ⟨rb,1,none⟩ (.int .i64 (p+1))).cell? ⟨b,off+q,none⟩=some (.int .u8 l[q].toNat):=fun q hq=>by
   obtain ⟨b,off,e1,e2,e3,e4⟩:=hcells (by omega)
   exact ⟨b,off,e1,e2,((gcell HU.out.1).1 b _ e2 (fun e=>e3 (Option.some.inj e))).trans (e4 q _ (List.getElem?_eq_getElem hq))⟩
  clear hcells
  by_cases h2:l.length=0
  ·have h2':(((l.length:Nat):Int) == 0)=true:=by simp [h2]
   have HZ:=Lib.hid h2
   clear h2
   go_enter Tryz.func31,Tryz.ntmps31
   go_wp2
   go_ret
   exact ⟨_,rfl,⟨0,rfl,Int.le_refl _,.inr rfl⟩,HU.out⟩
  ·have h2':(((l.length:Nat):Int) == 0)=false:=by simpa using h2
   have hl0:0<l.length:=by omega
   by_cases h3:p<l.length
   ·obtain ⟨b,off,rfl,hbl,hx⟩:=hcl p h3
    have hx1:=u8_bd l[p]
    have hx0:(0:Int)≤(l[p].toNat:Int):=Int.natCast_nonneg _
    generalize (l[p].toNat:Int)=x at *
    have hm0:0≤x % n:=Int.emod_nonneg _ (by omega)
    have hm1:x % n<n:=Int.emod_lt_of_pos _ (by omega)
    clear hcl
    go_enter Tryz.func31,Tryz.ntmps31
    go_wp2
    go_ret
    exact ⟨_,rfl,⟨_,rfl,hm0,.inl hm1⟩,HU.out⟩
   ·obtain ⟨b,off,rfl,hbl,hx⟩:=hcl (p % l.length) (Nat.mod_lt _ hl0)
    obtain ⟨b',off',e,hbl',hy⟩:=hcl ((p * 7+3) % l.length) (Nat.mod_lt _ hl0)
    cases e
    have hx1:=u8_bd (l[p % l.length]'(Nat.mod_lt _ hl0))
    have hx0:(0:Int)≤((l[p % l.length]'(Nat.mod_lt _ hl0)).toNat:Int):=Int.natCast_nonneg _
    have hy1:=u8_bd (l[(p * 7+3) % l.length]'(Nat.mod_lt _ hl0))
    have hy0:(0:Int)≤((l[(p * 7+3) % l.length]'(Nat.mod_lt _ hl0)).toNat:Int):=Int.natCast_nonneg _
    generalize ((l[p % l.length]'(Nat.mod_lt _ hl0)).toNat:Int)=x at *
    generalize ((l[(p * 7+3) % l.length]'(Nat.mod_lt _ hl0)).toNat:Int)=y at *
    have em:((p:Int) % (l.length:Int))=((p % l.length:Nat):Int):=by omega
    have hz: ∀ z:Nat,((z:Int) % (l.length:Int))=((z % l.length:Nat):Int):=fun z=>by omega
    have em2:(((p:Int) * 7+3) % (l.length:Int))=(((p * 7+3) % l.length:Nat):Int):=by rw [show ((p:Int) * 7+3)=((p * 7+3:Nat):Int) by omega];exact hz _
    clear hz
    have hq1:=Nat.mod_lt p hl0
    have hq2:=Nat.mod_lt (p * 7+3) hl0
    have hd:p / l.length≤p:=Nat.div_le_self _ _
    have ed:((p:Int) / (l.length:Int))=((p / l.length:Nat):Int):=by omega
    generalize p % l.length=q1 at *
    generalize (p * 7+3) % l.length=q2 at *
    generalize p / l.length=q3 at *
    have hs0:0≤x * 131+y * 1117+(p:Int) * 29+(q3:Int) * 53:=by omega
    have hs1:x * 131+y * 1117+(p:Int) * 29+(q3:Int) * 53≤4611686018427387903:=by omega
    have hxo:=xor_ok _ hs0 hs1
    clear hcl
    go_enter Tryz.func31,Tryz.ntmps31
    go_wp2
    refine wp_region_up 45 (by kernel_rfl) (by kernel_rfl) ?_
    simp only [List.take,List.drop]
    repeat (refine wpUp_step (fun K hK=>?_);go_simp;(try simp only [↓IntWalk.iteOmega]);first
     |(refine hK _ _ ?_;clear hK K)
     |(apply stepU_c
       ·intro wq hwq;(have hbq:=bcell hwq;(repeat (first|refine fills_no (by rfl) ?_|refine fills_yes (by rfl) (fun vq hvq=>?_)));simp only [List.filter_nil,fills];unfold upAt;go_simp;(try go_bits);(try simp only [↓IntWalk.iteOmega]);first|exact upOut_value)
       go_simp;refine hK _ _ ?_;clear hK K))
    refine wpUp_nil (fun wq hwq=>?_)
    simp only [fills]
    go_wp2
    go_ret
    exact ⟨_,rfl,⟨_,rfl,Int.emod_nonneg _ (by omega),.inl (Int.emod_lt_of_pos _ (by omega))⟩,HU.out.trans (RdUp.of (c:=0) hwq)⟩
def RdInts (rb:Nat) (w:World) (v:Value) (l:List Int):Prop:= ∃ b off cap,v= .slice (some ⟨b,off,none⟩) l.length cap∧l.length≤cap∧cap≤maxLen∧b<w.heap.size∧b≠rb∧ ∀ i x,l[i]? =some x→w.cell? ⟨b,off+i,none⟩=some (.int .i64 x)
def oneOf (l:List Int) (v:Value):Prop:= ∃ i:Int,v= .int .i64 i∧i∈l
set_option maxRecDepth 100000 in
set_option maxHeartbeats 2000000 in
theorem num_any (rb:Nat) (B:Value) (l:List Int) (v:Value) (w:World) (N:Nat) (h:Rdr rb B w N) (hN:N≤1099511627776) (hr:RdInts rb w v l) (hl:0<l.length) :
  Calls Tryz.prog 85  #[.pointer (some ⟨rb,0,none⟩),v] w (Drawn rb B 1 (oneOf l) w):=by
 obtain ⟨b,off,cap,rfl,h1,h2,h3,h4,h5⟩:=hr
 have cP:=fun wx h=>pick_any rb B (l.length:Int) wx N h hN
 unfold maxLen at h2
 go_enter Tryz.func85,Tryz.ntmps85
 go_wp2_with (go_at_call 31;(with_reducible refine (cP _ h).mono ?_);rintro e w1 ⟨v1,rfl,⟨i,rfl,hi0,hi1⟩,U1⟩;obtain ⟨j,rfl⟩:=Int.eq_ofNat_of_zero_le hi0;have hjl:j<l.length:=(by omega);have hx:=((gcell U1.1).1 b (off+j) h3 (fun e=>h4 (Option.some.inj e))).trans (h5 j l[j] (List.getElem?_eq_getElem hjl)))
 go_ret
 exact ⟨_,rfl,⟨_,rfl,List.getElem_mem hjl⟩,U1⟩
set_option maxRecDepth 100000 in
theorem open_any (v:Value) (l:List UInt8) (w:World) (a:Option Addr) (cap:Nat) (hv:v= .slice a l.length cap) (h1:l.length≤cap) (h2:cap≤maxLen)
  (h3:0<l.length→ ∃ b off,a=some ⟨b,off,none⟩∧b<w.heap.size∧ ∀ i x,l[i]? =some x→w.cell? ⟨b,off+i,none⟩=some (.int .u8 x.toNat)) :
  Calls Tryz.prog 28  #[v] w (fun e w'=> ∃ B,e= .returned (.pointer (some ⟨w.heap.size,0,none⟩))∧Rdr w.heap.size B w' 0∧Up w w'):=by
 subst hv
 unfold maxLen at h2
 have HC:=Lib.hid h3
 clear h3
 by_cases hl:l.length≤2000
 ·go_enter Tryz.func28,Tryz.ntmps28
  go_wp2
  go_ret
  refine ⟨.slice a l.length cap,rfl,⟨⟨0,Nat.le_refl _,(MapKept.heap_alloc w _).1⟩,l,a,cap,rfl,hl,h1,by unfold maxLen;omega,fun hp=>?_⟩,(Up.refl _).alloc _⟩
  obtain ⟨b,off,e1,e2,e3⟩:=HC.out hp
  exact ⟨b,off,e1,by simp;omega,by omega,fun i x hi=>((Up.alloc (Up.refl w) _).cell (p:=⟨b,off+i,none⟩) e2).trans (e3 i x hi)⟩
 ·have hlt:(l.take 2000).length=2000:=by rw [List.length_take];omega
  go_enter Tryz.func28,Tryz.ntmps28
  go_wp2
  go_ret
  refine ⟨.slice a 2000 cap,rfl,⟨⟨0,Nat.le_refl _,(MapKept.heap_alloc w _).1⟩,l.take 2000,a,cap,by rw [hlt],by omega,by omega,by unfold maxLen;omega,fun hp=>?_⟩,(Up.refl _).alloc _⟩
  obtain ⟨b,off,e1,e2,e3⟩:=HC.out (by omega)
  refine ⟨b,off,e1,by simp;omega,by omega,fun i x hi=>((Up.alloc (Up.refl w) _).cell (p:=⟨b,off+i,none⟩) e2).trans (e3 i x ?_)⟩
  rw [List.getElem?_take] at hi
  split at hi
  ·exact hi
  ·cases hi
theorem RdUp.step {rb:Nat} {B:Value} {c:Nat} {w0 w w':World} (h:RdUp rb B c w0 w) (hg:w0.grownBy w' (some rb)) (hrb:rb<w0.heap.size→w'.heap[rb]? =w.heap[rb]?):RdUp rb B c w0 w' :=
 ⟨hg,fun N hN=>by
  obtain ⟨p,h1,h2⟩:=(h.2 N hN).1
  exact ⟨⟨p,h1,(hrb hN.lt).trans h2⟩,hN.2.gr hg⟩⟩
theorem RdUp.alloc {rb:Nat} {B:Value} {c:Nat} {w0 w:World} (h:RdUp rb B c w0 w) (o:Obj):RdUp rb B c w0 (w.alloc o) :=
 h.trans (d:=0) (RdUp.of ((Up.refl w).alloc o))
theorem RdUp.ups {rb:Nat} {B:Value} {c:Nat} {w0 w w':World} (h:RdUp rb B c w0 w) (hu:Up w w'):RdUp rb B c w0 w':=h.trans (d:=0) (RdUp.of hu)
theorem RdUp.set {rb:Nat} {B:Value} {c:Nat} {w0 w:World} (h:RdUp rb B c w0 w) {p:Addr} (hp:w0.heap.size≤p.block) (u:Value):RdUp rb B c w0 (w.setCell p u) :=
 h.step ⟨h.1.os,h.1.tape,h.1.output,by simpa [World.setCell] using h.1.size,fun k hk hne=>(Below.heap_setCell w p u k (by omega)).trans (h.1.block k hk hne)⟩ (fun hr=>Below.heap_setCell w p u rb (by omega))
theorem RdUp.gr {rb:Nat} {B:Value} {c:Nat} {w0 w w':World} (h:RdUp rb B c w0 w) {row:Option Nat} (hg:w.grownBy w' row) (hr: ∀ k,row=some k→w0.heap.size≤k):RdUp rb B c w0 w' :=
 h.step ⟨hg.os.trans h.1.os,hg.tape.trans h.1.tape,hg.output.trans h.1.output,Nat.le_trans h.1.size hg.size,fun k hk hne=>(hg.block k (Nat.lt_of_lt_of_le hk h.1.size) (fun e=>by have:=hr k e.symm;omega)).trans (h.1.block k hk hne)⟩
  (fun hlt=>hg.block rb (Nat.lt_of_lt_of_le hlt h.1.size) (fun e=>by have:=hr rb e.symm;omega))
theorem RdUp.fin {rb:Nat} {B:Value} {c d:Nat} {w0 w1 w:World} (hU:RdUp rb B c w0 w1) (hx: ∀ c,RdUp rb B c w0 w1→RdUp rb B c w0 w) (hc:c≤d):RdUp rb B d w0 w:=(hx c hU).mono hc
theorem pick_at {rb:Nat} {B:Value} {c N:Nat} {w0 w1 w:World} {n:Int} (h:Rdr rb B w0 N) (hU1:RdUp rb B c w0 w1) (hx: ∀ c,RdUp rb B c w0 w1→RdUp rb B c w0 w) (hN:N+c≤1099511627776) :
  Calls Tryz.prog 31  #[.pointer (some ⟨rb,0,none⟩),.int .i64 n] w (fun e w'=> ∃ i:Int,e= .returned (.int .i64 i)∧0≤i∧(i<n∨i=0)∧RdUp rb B (c+1) w0 w'∧RdUp rb B 1 w w') :=
 (pick_any rb B n w (N+c) ((hx c hU1).2 N h) hN).mono fun e w' ⟨v,he,⟨i,hv,h1,h2⟩,hu⟩=>⟨i,by rw [he,hv],h1,h2,(hx c hU1).trans hu,hu⟩
theorem draw_at {rb:Nat} {B:Value} {c d N:Nat} {w0 w1 w:World} {D:Value→Prop} {f:FuncId} {args:Array Value} (hf: ∀ w N,Rdr rb B w N→N≤1000000000→Calls Tryz.prog f args w (Drawn rb B d D w)) (h:Rdr rb B w0 N) (hU1:RdUp rb B c w0 w1) (hx: ∀ c,RdUp rb B c w0 w1→RdUp rb B c w0 w) (hN:N+c≤1000000000) :
  Calls Tryz.prog f args w (fun e w'=> ∃ v,e= .returned v∧D v∧RdUp rb B (c+d) w0 w'∧RdUp rb B d w w') :=
 (hf w (N+c) ((hx c hU1).2 N h) hN).mono fun e w' ⟨v,he,h1,hu⟩=>⟨v,he,h1,(hx c hU1).trans hu,hu⟩
theorem num_at {rb:Nat} {B:Value} {c N:Nat} {w0 w:World} {g n cap:Nat} {cs:Array Value} {T:TypeId} (l:List Int) (h:Rdr rb B w0 N) {w1:World} (hU1:RdUp rb B c w0 w1) (hx: ∀ c,RdUp rb B c w0 w1→RdUp rb B c w0 w) (hN:N+c≤1099511627776) (hg:g=w.heap.size) (hn:n=l.length) (hc:cap=n) (hl:0<l.length) (hl2:l.length≤100) (hcs:cs=(l.map (Value.int .i64)).toArray) :
  Calls Tryz.prog 85  #[.pointer (some ⟨rb,0,none⟩),.slice (some ⟨g,0,none⟩) n cap] (w.alloc (.cells cs T)) (fun e w'=> ∃ i:Int,e= .returned (.int .i64 i)∧i∈l∧RdUp rb B (c+1) w0 w'∧RdUp rb B 1 (w.alloc (.cells cs T)) w'):=by
 subst hg hn hc hcs
 have hU:=hx c hU1
 have hr:=hU.2 N h
 have hlt:=hr.lt
 refine (num_any rb B l (.slice (some ⟨w.heap.size,0,none⟩) l.length l.length) (w.alloc (.cells (l.map (Value.int .i64)).toArray T)) (N+c) ((hU.alloc _).2 N h) hN ⟨w.heap.size,0,l.length,rfl,Nat.le_refl _,by unfold maxLen;omega,by simp,by omega,fun i x hi=>?_⟩ hl).mono fun e w' ⟨v,he,⟨i,hv,h1⟩,hu⟩=>⟨i,by rw [he,hv],h1,(hU.alloc _).trans hu,hu⟩
 rw [box_cell (MapKept.heap_alloc w _).1,Nat.zero_add]
 simp [hi]
end Go.Proofs.YtekogcjdaolcbaaGreatDoor
/- Texts joined into one: Lz1, Set1, Set2. Conditions: as each says. -/
/- Plain model of settings, pairs and their words. Conditions: as each says. -/
namespace Go.Proofs.YtekogcjdaolcbaaGreatDoor
open Go.RowKit
def bs (l:List UInt8):ByteArray:=⟨l.toArray⟩
theorem bs_data (l:List UInt8):(bs l).data.toList=l:=by simp [bs]
theorem bs_size (l:List UInt8):(bs l).size=l.length:=by simp [bs,ByteArray.size]
theorem bs_self (s:ByteArray):bs s.data.toList=s:=ba_ext (bs_data _)
theorem bs_app (a b:List UInt8):bs a++bs b=bs (a++b):=ba_ext (by simp [bs_data])
theorem bs_ext (l:List UInt8) (i j:Nat):(bs l).extract i j=bs ((l.drop i).take (j - i)):=ba_ext (by rw [Lib.extract_data,bs_data,bs_data])
theorem bs_inj {a b:List UInt8} (h:bs a=bs b):a=b:=by
 have:=congrArg (fun s=>s.data.toList) h
 simpa [bs_data] using this
theorem bs_num (l:List UInt8):strOfNums (l.map fun x=>(x.toNat:Int))=bs l:=by
 apply ba_ext
 rw [ba_nums,bs_data,List.map_map]
 conv=>rhs;rw [← List.map_id l]
 apply List.map_congr_left
 intro x _
 simp
def ub (n:Int):UInt8:=UInt8.ofNat n.toNat
theorem ub_nat {n:Int} (h0:0≤n) (h1:n<256):((ub n).toNat:Int)=n:=by
 unfold ub;rw [UInt8.toNat_ofNat'];omega
structure SetD where
 ord:Int
 lit:Int
 most:Int
structure PairD where
 pre:Int
 byt:Int
abbrev setV (s:SetD):Value:= .agg #[.int .i64 s.ord,.int .i64 s.lit,.int .i64 s.most]
def setOk (s:SetD):Bool:=(s.ord == 0 || s.ord == 1) && inB s.lit 1 8 && inB s.most (s.lit+2) 10
def clr (s:SetD):Nat:=2 ^ s.lit.toNat
def lastC (s:SetD):Nat:=2 ^ s.most.toNat - 1
theorem setOk_bd {s:SetD} (h:setOk s=true):(s.ord=0∨s.ord=1)∧(1≤s.lit∧s.lit≤8)∧s.lit+2≤s.most∧s.most≤10:=by
 unfold setOk at h
 simp only [Bool.and_eq_true,Bool.or_eq_true,beq_iff_eq,inB_iff] at h
 exact ⟨h.1.1,h.1.2,h.2.1,h.2.2⟩
theorem clr_bd {s:SetD} (h:setOk s=true):2≤clr s∧clr s≤256∧4 * clr s≤lastC s+1∧lastC s≤1023:=by
 obtain ⟨-,⟨h1,h2⟩,h3,h4⟩:=setOk_bd h
 obtain ⟨n,hn⟩: ∃ n:Nat,s.lit=n:=⟨s.lit.toNat,by omega⟩
 obtain ⟨m,hm⟩: ∃ m:Nat,s.most=m:=⟨s.most.toNat,by omega⟩
 rw [hn] at h1 h2 h3
 rw [hm] at h3 h4
 have e1:clr s=2 ^ n:=by unfold clr;rw [hn];rfl
 have e2:lastC s=2 ^ m - 1:=by unfold lastC;rw [hm];rfl
 rw [e1,e2]
 clear e1 e2 hn hm
 have a1:2 ^ 1≤2 ^ n:=Nat.pow_le_pow_right (by decide) (by omega)
 have a2:2 ^ n≤2 ^ 8:=Nat.pow_le_pow_right (by decide) (by omega)
 have a3:2 ^ (n+2)≤2 ^ m:=Nat.pow_le_pow_right (by decide) (by omega)
 have a4:2 ^ m≤2 ^ 10:=Nat.pow_le_pow_right (by decide) (by omega)
 rw [Nat.pow_add] at a3
 omega
def codeOk (c n:Nat) (x:Int):Bool:=(decide (0≤x) && decide (x<c)) || (decide ((c:Int)+2≤x) && decide (x<c+2+n))
theorem codeOk_iff {c n:Nat} {x:Int} :codeOk c n x=true↔(0≤x∧x<c)∨((c:Int)+2≤x∧x<c+2+n):=by simp [codeOk]
theorem codeOk_mono {c n m:Nat} {x:Int} (h:codeOk c n x=true) (hm:n≤m):codeOk c m x=true:=by
 rw [codeOk_iff] at *;omega
def prOk (c:Nat) (ps:List PairD) (i:Nat):Bool:=match ps[i]? with
 |none=>false
 |some p=>codeOk c i p.pre && (decide (0≤p.byt) && decide (p.byt<c))
theorem prOk_get {c:Nat} {ps:List PairD} {i:Nat} (h:i<ps.length):prOk c ps i=(codeOk c i ps[i].pre && (decide (0≤ps[i].byt) && decide (ps[i].byt<c))):=by
 unfold prOk;rw [List.getElem?_eq_getElem h]
def PrsOk (c:Nat) (ps:List PairD):Prop:= ∀ i,i<ps.length→prOk c ps i=true
theorem PrsOk.get {c:Nat} {ps:List PairD} (h:PrsOk c ps) {i:Nat} (hi:i<ps.length):codeOk c i ps[i].pre=true∧0≤ps[i].byt∧ps[i].byt<c:=by
 have:=h i hi
 rw [prOk_get hi] at this
 simpa using this
theorem prsOk_nil (c:Nat):PrsOk c []:=fun i hi=>absurd hi (Nat.not_lt_zero _)
theorem PrsOk.take {c:Nat} {ps:List PairD} (h:PrsOk c ps) (n:Nat):PrsOk c (ps.take n):=fun i hi=>by
 have hi':i<ps.length:=by rw [List.length_take] at hi;omega
 rw [prOk_get hi,List.getElem_take,←prOk_get hi']
 exact h i hi'
theorem PrsOk.snoc {c:Nat} {ps:List PairD} (h:PrsOk c ps) {p:PairD} (h1:codeOk c ps.length p.pre=true) (h2:0≤p.byt) (h3:p.byt<c):PrsOk c (ps++ [p]):=fun i hi=>by
 rw [prOk_get hi]
 rw [List.length_append] at hi
 simp only [List.length_cons,List.length_nil] at hi
 rcases Nat.lt_or_ge i ps.length with hl|hl
 ·rw [List.getElem_append_left hl,←prOk_get hl];exact h i hl
 ·have e:i=ps.length:=by omega
  subst e
  rw [List.getElem_append_right (Nat.le_refl _)]
  simp [h1,h2,h3]
def lookW (c:Nat) (ws:List (List UInt8)) (x:Int):List UInt8:=if x<c then [ub x] else ws.getD (x.toNat - (c+2)) []
def wordsF (c:Nat) (ps:List PairD):List (List UInt8):=ps.foldl (fun ws p=>ws++ [lookW c ws p.pre++ [ub p.byt]]) []
theorem wordsF_snoc (c:Nat) (ps:List PairD) (p:PairD):wordsF c (ps++ [p])=wordsF c ps++ [lookW c (wordsF c ps) p.pre++ [ub p.byt]]:=by simp [wordsF,List.foldl_append]
theorem snoc_ind {α :Type} {P:List α →Prop} (h0:P []) (h1: ∀ l a,P l→P (l++ [a])) (l:List α):P l:=by
 have: ∀ n (l:List α),l.length=n→P l:=by
  intro n
  induction n with
  |zero=>intro l hl;rw [List.length_eq_zero_iff.1 hl];exact h0
  |succ n ih =>
   intro l hl
   rcases List.eq_nil_or_concat l with rfl|⟨l',a,rfl⟩
   ·exact h0
   ·rw [List.concat_eq_append] at *
    exact h1 _ _ (ih l' (by simpa using hl))
 exact this _ l rfl
theorem wordsF_length (c:Nat) (ps:List PairD):(wordsF c ps).length=ps.length:=by
 induction ps using snoc_ind with
 |h0=>rfl
 |h1 l a ih=>rw [wordsF_snoc,List.length_append,ih];simp
theorem wordsF_take (c:Nat) (ps:List PairD) (i:Nat):wordsF c (ps.take i)=(wordsF c ps).take i:=by
 induction ps using snoc_ind with
 |h0=>simp [wordsF]
 |h1 l a ih =>
  rcases Nat.lt_or_ge l.length i with h|h
  ·rw [List.take_of_length_le (by simp;omega),List.take_of_length_le (by rw [wordsF_length];simp;omega)]
  ·rw [List.take_append_of_le_length h,ih,wordsF_snoc,List.take_append_of_le_length (by rw [wordsF_length];exact h)]
theorem lookW_take {c:Nat} {ws:List (List UInt8)} {n:Nat} {x:Int} (h:codeOk c n x=true):lookW c (ws.take n) x=lookW c ws x:=by
 rw [codeOk_iff] at h
 unfold lookW
 split
 ·rfl
 ·rw [List.getD_eq_getElem?_getD,List.getD_eq_getElem?_getD,List.getElem?_take,if_pos (by omega)]
def wordP (c:Nat) (ps:List PairD) (x:Int):List UInt8:=lookW c (wordsF c ps) x
theorem wordP_lit {c:Nat} {ps:List PairD} {x:Int} (h:x<c):wordP c ps x= [ub x]:=by unfold wordP lookW;rw [if_pos h]
theorem wordP_take {c:Nat} {ps:List PairD} {n:Nat} {x:Int} (h:codeOk c n x=true):wordP c (ps.take n) x=wordP c ps x:=by
 unfold wordP;rw [wordsF_take,lookW_take h]
theorem wordP_app {c:Nat} {ps qs:List PairD} {x:Int} (h:codeOk c ps.length x=true):wordP c (ps++qs) x=wordP c ps x:=by
 rw [← wordP_take h,List.take_left]
theorem wordP_pair {c:Nat} {ps:List PairD} (hok:PrsOk c ps) {i:Nat} (hi:i<ps.length):wordP c ps ((c:Int)+2+i)=wordP c ps ps[i].pre++ [ub ps[i].byt]:=by
 have hp:=(hok.get hi).1
 have e1:wordP c ps ((c:Int)+2+i)=wordP c (ps.take (i+1)) ((c:Int)+2+i):=(wordP_take (by rw [codeOk_iff];omega)).symm
 have hl:(wordsF c (ps.take i)).length=i:=by rw [wordsF_length,List.length_take];omega
 rw [e1,List.take_succ_eq_append_getElem hi]
 unfold wordP
 rw [wordsF_snoc]
 have hN:=lookW_take (ws:=wordsF c ps) hp
 rw [wordsF_take] at *
 rw [hN]
 conv=>lhs;unfold lookW
 rw [if_neg (by omega),List.getD_eq_getElem?_getD,List.getElem?_append_right (by rw [hl];omega),hl,show ((c:Int)+2+i).toNat - (c+2) - i=0 by omega]
 rfl
theorem pre_lt {c:Nat} {ps:List PairD} (hok:PrsOk c ps) {i:Nat} (hi:i<ps.length):0≤ps[i].pre∧ps[i].pre<(c:Int)+2+i∧codeOk c ps.length ps[i].pre=true:=by
 have h:=(hok.get hi).1
 have h2:=codeOk_mono h (by omega:i≤ps.length)
 rw [codeOk_iff] at h
 exact ⟨by omega,by omega,h2⟩
theorem code_ind {c:Nat} {ps:List PairD} (hok:PrsOk c ps) {P:Int→Prop} (h0: ∀ x:Int,0≤x→x<c→P x) (h1: ∀ i (hi:i<ps.length),P ps[i].pre→P ((c:Int)+2+i)) {x:Int} (hx:codeOk c ps.length x=true):P x:=by
 have: ∀ (n:Nat) (x:Int),x.toNat<n→codeOk c ps.length x=true→P x:=by
  intro n
  induction n with
  |zero=>intro x h _;exact absurd h (Nat.not_lt_zero _)
  |succ n ih =>
   intro x hn hx
   rcases codeOk_iff.1 hx with h|h
   ·exact h0 x h.1 h.2
   ·obtain ⟨i,hi⟩: ∃ i:Nat,x=c+2+i:=⟨(x - c - 2).toNat,by omega⟩
    subst hi
    have hi':i<ps.length:=by omega
    obtain ⟨p1,p2,p3⟩:=pre_lt hok hi'
    exact h1 i hi' (ih _ (by omega) p3)
 exact this _ x (Nat.lt_succ_self _) hx
theorem wordP_pos {c:Nat} {ps:List PairD} (hok:PrsOk c ps) {x:Int} (hx:codeOk c ps.length x=true):1≤(wordP c ps x).length:=by
 refine code_ind hok (P:=fun x=>1≤(wordP c ps x).length) (fun x h1 h2=>?_) (fun i hi ih=>?_) hx
 ·rw [wordP_lit h2];simp
 ·rw [wordP_pair hok hi];simp
theorem wordP_len {c:Nat} {ps:List PairD} (hok:PrsOk c ps) {x:Int} (hx:codeOk c ps.length x=true):(wordP c ps x).length≤ps.length+1:=by
 have:((wordP c ps x).length:Int)≤(if x<c then 1 else x - c):=by
  refine code_ind hok (P:=fun x=>((wordP c ps x).length:Int)≤(if x<c then 1 else x - c)) (fun x h1 h2=>?_) (fun i hi ih=>?_) hx
  ·rw [wordP_lit h2,if_pos h2];simp
  ·
    obtain ⟨p1,p2,p3⟩:=pre_lt hok hi
    rw [wordP_pair hok hi,if_neg (by omega),List.length_append]
    simp only [List.length_cons,List.length_nil]
    split at ih <;> omega
 rw [codeOk_iff] at hx
 split at this <;> omega
theorem wordP_lits {c:Nat} (hc:c≤256) {ps:List PairD} (hok:PrsOk c ps) {x:Int} (hx:codeOk c ps.length x=true): ∀ b∈wordP c ps x,b.toNat<c:=by
 refine code_ind hok (P:=fun x=> ∀ b∈wordP c ps x,b.toNat<c) (fun x h1 h2=>?_) (fun i hi ih=>?_) hx
 ·
   rw [wordP_lit h2]
   intro b hb
   simp only [List.mem_singleton] at hb
   subst hb
   have:=ub_nat h1 (by omega:x<256)
   omega
 ·
   rw [wordP_pair hok hi]
   intro b hb
   rcases List.mem_append.1 hb with hb|hb
   ·exact ih b hb
   ·simp only [List.mem_singleton] at hb
    subst hb
    obtain ⟨-,h2,h3⟩:=hok.get hi
    have:=ub_nat h2 (by omega:ps[i].byt<256)
    omega
structure KnD where
 set:SetD
 ps:List PairD
 base:Int
 last:Int
namespace KnD
variable (k:KnD)
def c:Nat:=clr k.set
def next:Nat:=k.c+2+k.ps.length
def grow:Bool:=decide (k.last≠ -1) && decide (k.next≤lastC k.set)
def top:Nat:=if k.grow then k.next else k.next - 1
structure Ok:Prop where
 set:setOk k.set=true
 ps:PrsOk k.c k.ps
 len:k.ps.length+k.c+1≤lastC k.set
 base0:0≤k.base
 base1:k.base≤k.ps.length
 last:k.last= -1∨codeOk k.c k.ps.length k.last=true
def word (x:Int):List UInt8:=wordP k.c k.ps x
def any (x:Int):List UInt8:=if x=k.next then k.word k.last++(k.word k.last).take 1 else k.word x
def follows (x:Int):Bool:=codeOk k.c k.ps.length x || (k.grow && decide (x=k.next))
def first (x:Int):Int:=((k.any x).getD 0 0).toNat
def after (x:Int):KnD:=⟨k.set,k.ps++(if k.grow then [⟨k.last,k.first x⟩] else []),k.base,x⟩
def cleared:KnD:=⟨k.set,k.ps.take k.base.toNat,k.base,-1⟩
end KnD
theorem KnD.Ok.c_bd {k:KnD} (h:k.Ok):2≤k.c∧k.c≤256∧4 * k.c≤lastC k.set+1∧lastC k.set≤1023:=clr_bd h.set
theorem KnD.Ok.lastOk {k:KnD} (h:k.Ok) (hg:k.grow=true):codeOk k.c k.ps.length k.last=true:=by
 unfold KnD.grow at hg
 simp only [Bool.and_eq_true,decide_eq_true_eq] at hg
 exact h.last.resolve_left hg.1
theorem KnD.next_bd {k:KnD} (h:k.Ok):k.next≤1024:=by
 have:=h.c_bd;have:=h.len
 unfold KnD.next;omega
theorem KnD.top_bd {k:KnD} (h:k.Ok):k.c+1≤k.top∧k.top≤lastC k.set:=by
 have h1:=h.len
 unfold KnD.top
 split
 ·next hg =>
  unfold KnD.grow at hg
  simp only [Bool.and_eq_true,decide_eq_true_eq] at hg
  unfold KnD.next at *;omega
 ·unfold KnD.next;omega
theorem KnD.any_word {k:KnD} {x:Int} (h:codeOk k.c k.ps.length x=true):k.any x=k.word x:=by
 unfold KnD.any
 rw [if_neg]
 rw [codeOk_iff] at h
 unfold KnD.next;omega
theorem KnD.follows_cases {k:KnD} (h:k.Ok) {x:Int} (hf:k.follows x=true):codeOk k.c k.ps.length x=true∨(k.grow=true∧x=k.next∧codeOk k.c k.ps.length k.last=true):=by
 unfold KnD.follows at hf
 simp only [Bool.or_eq_true,Bool.and_eq_true,decide_eq_true_eq] at hf
 rcases hf with hf|hf
 ·exact .inl hf
 ·exact .inr ⟨hf.1,hf.2,h.lastOk hf.1⟩
theorem KnD.any_pos {k:KnD} (h:k.Ok) {x:Int} (hf:k.follows x=true):1≤(k.any x).length:=by
 rcases KnD.follows_cases h hf with hc|⟨hg,rfl,hl⟩
 ·rw [KnD.any_word hc];exact wordP_pos h.ps hc
 ·unfold KnD.any;rw [if_pos rfl,List.length_append]
  have:1≤(k.word k.last).length:=wordP_pos h.ps hl
  omega
theorem KnD.any_len {k:KnD} (h:k.Ok) {x:Int} (hf:k.follows x=true):(k.any x).length≤1024:=by
 have hb:=h.c_bd
 have hl':=h.len
 rcases KnD.follows_cases h hf with hc|⟨hg,rfl,hl⟩
 ·rw [KnD.any_word hc]
  have:(k.word x).length≤k.ps.length+1:=wordP_len h.ps hc
  omega
 ·unfold KnD.any;rw [if_pos rfl,List.length_append,List.length_take]
  have:(k.word k.last).length≤k.ps.length+1:=wordP_len h.ps hl
  omega
theorem KnD.any_lits {k:KnD} (h:k.Ok) {x:Int} (hf:k.follows x=true): ∀ b∈k.any x,b.toNat<k.c:=by
 have hb:=h.c_bd
 rcases KnD.follows_cases h hf with hc|⟨hg,rfl,hl⟩
 ·rw [KnD.any_word hc];exact wordP_lits hb.2.1 h.ps hc
 ·unfold KnD.any;rw [if_pos rfl]
  intro b hb'
  have hw: ∀ b∈k.word k.last,b.toNat<k.c:=wordP_lits hb.2.1 h.ps hl
  rcases List.mem_append.1 hb' with h1|h1
  ·exact hw b h1
  ·exact hw b (List.mem_of_mem_take h1)
theorem KnD.first_bd {k:KnD} (h:k.Ok) {x:Int} (hf:k.follows x=true):0≤k.first x∧k.first x<k.c:=by
 have h1:=KnD.any_pos h hf
 have h2:=KnD.any_lits h hf
 unfold KnD.first
 cases hw:k.any x with
 |nil=>rw [hw] at h1;simp at h1
 |cons b l =>
  have:=h2 b (by rw [hw];exact List.mem_cons_self ..)
  simp only [List.getD_cons_zero];omega
theorem KnD.after_ok {k:KnD} (h:k.Ok) {x:Int} (hf:k.follows x=true):(k.after x).Ok:=by
 obtain ⟨f1,f2⟩:=KnD.first_bd h hf
 have hfc:=KnD.follows_cases h hf
 unfold KnD.after
 cases hg:k.grow
 ·have e:k.ps++(if false=true then [⟨k.last,k.first x⟩] else [])=k.ps:=by simp
  rw [e]
  refine ⟨h.set,h.ps,h.len,h.base0,h.base1,.inr ?_⟩
  rcases hfc with hc|⟨hg',_⟩
  ·exact hc
  ·rw [hg] at hg';cases hg'
 ·have hl:=h.lastOk hg
  have hn:k.next≤lastC k.set:=by
   unfold KnD.grow at hg
   simp only [Bool.and_eq_true,decide_eq_true_eq] at hg
   exact hg.2
  have hb1:=h.base1
  refine ⟨h.set,PrsOk.snoc h.ps hl f1 f2,?_,h.base0,?_,.inr ?_⟩
  ·simp only [if_true,List.length_append,List.length_cons,List.length_nil]
   show k.ps.length+(0+1)+k.c+1≤lastC k.set
   unfold KnD.next at hn;omega
  ·simp only [if_true,List.length_append,List.length_cons,List.length_nil];omega
  ·simp only [if_true,List.length_append,List.length_cons,List.length_nil]
   show codeOk k.c (k.ps.length+(0+1)) x=true
   rcases hfc with hc|⟨_,rfl,_⟩
   ·exact codeOk_mono hc (by omega)
   ·rw [codeOk_iff];unfold KnD.next;omega
theorem KnD.cleared_ok {k:KnD} (h:k.Ok):k.cleared.Ok:=by
 have h0:=h.base0;have h1:=h.base1;have h2:=h.len
 have hl:(k.ps.take k.base.toNat).length=k.base.toNat:=by rw [List.length_take];omega
 refine ⟨h.set,h.ps.take _,?_,h0,?_,.inl rfl⟩
 ·show (k.ps.take k.base.toNat).length+k.c+1≤lastC k.set
  rw [hl];omega
 ·show k.base≤((k.ps.take k.base.toNat).length:Int)
  rw [hl];omega
end Go.Proofs.YtekogcjdaolcbaaGreatDoor
/- Walks of the reference's functions on settings. Conditions: as each says. -/
namespace Go.Proofs.YtekogcjdaolcbaaGreatDoor
open Go.RowKit
set_option maxHeartbeats 400000 in
theorem l1Order_any (n:Int) (w:World) :
  Calls Tryz.prog 149 #[.int .i64 n] w fun e w'=>e= .returned (.bool (n == 0 || n == 1))∧w=w':=by
 by_cases h:n=0
 ·subst h
  go_enter Tryz.func149,Tryz.ntmps149
  go_wp2
  go_ret
  exact ⟨rfl,rfl⟩
 ·have h':(n == 0)=false:=by simpa using h
  go_enter Tryz.func149,Tryz.ntmps149
  go_wp2
  go_ret
  exact ⟨ret_bool (by rw [h',Bool.false_or]),rfl⟩
theorem pow2_small {n:Nat} (h:n≤16):(2:Int) ^ n≤65536∧1≤(2:Int) ^ n:=by
 have h1:2 ^ n≤2 ^ 16:=Nat.pow_le_pow_right (by decide) h
 have h2:0<2 ^ n:=Nat.pow_pos (by decide)
 have e:((2 ^ n:Nat):Int)=(2:Int) ^ n:=by simp
 omega
set_option maxHeartbeats 400000 in
theorem l1Two_any (n:Nat) (w:World) (h:n≤16) :
  Calls Tryz.prog 141 #[.int .i64 n] w fun e w'=>e= .returned (.int .i64 ((2 ^ n:Nat):Int))∧w=w':=by
 go_enter Tryz.func141,Tryz.ntmps141
 go_wp2
 go_ret
 exact ⟨ret_int (by have:=pow2_small h;rw [IntWalk.wrap64_in _ (by omega)];simp),rfl⟩
theorem l1Two_at (n:Nat) (i v:Int) (hi:i=n) (hv:((2 ^ n:Nat):Int)=v) (h:n≤16) (w:World) :
  Calls Tryz.prog 141 #[.int .i64 i] w fun e w'=>e= .returned (.int .i64 v)∧w=w':=by
 subst hi;subst hv
 exact l1Two_any n w h
set_option maxRecDepth 100000 in
set_option maxHeartbeats 1000000 in
theorem setS_any (o l m:Int) (w:World) :
  Calls Tryz.prog 103 #[.agg #[.int .i64 o,.int .i64 l,.int .i64 m]] w (Same (.bool (setOk ⟨o,l,m⟩)) w):=by
 cases h1:(o == 0 || o == 1) <;> cases h2:inB l 1 8
 case true.true =>
  obtain ⟨g1,g2⟩:=inB_iff.1 h2
  go_enter Tryz.func103,Tryz.ntmps103
  go_wp2_with (first|(go_at_call 149;(with_reducible refine (l1Order_any _ _).mono ?_);rintro e w' ⟨rfl,rfl⟩)|(go_at_call 145;(with_reducible refine (l1In_any _ _ _ _).mono ?_);rintro e w' ⟨rfl,rfl⟩))
  go_ret
  refine ⟨ret_bool (by simp only [setOk,h1,h2];rfl),?_⟩
  (repeat (first|exact Up.refl _|refine Up.alloc ?_ _))
 all_goals
  go_enter Tryz.func103,Tryz.ntmps103
  go_wp2_with (first|(go_at_call 149;(with_reducible refine (l1Order_any _ _).mono ?_);rintro e w' ⟨rfl,rfl⟩)|(go_at_call 145;(with_reducible refine (l1In_any _ _ _ _).mono ?_);rintro e w' ⟨rfl,rfl⟩))
  go_ret
  refine ⟨ret_bool (by simp only [setOk,h1,h2];rfl),?_⟩
  (repeat (first|exact Up.refl _|refine Up.alloc ?_ _))
end Go.Proofs.YtekogcjdaolcbaaGreatDoor
/- Walks of the reference's functions on settings and on data that fits. Conditions: the setting is valid where it says so. -/
namespace Go.Proofs.YtekogcjdaolcbaaGreatDoor
open Go.RowKit
set_option maxRecDepth 100000 in
set_option maxHeartbeats 1000000 in
theorem l1Clear_any (s:SetD) (w:World) (h:setOk s=true) :
  Calls Tryz.prog 86  #[setV s] w (Same (.int .i64 (clr s)) w):=by
 obtain ⟨o,l,m⟩:=s
 obtain ⟨-,⟨h1,h2⟩,-,-⟩:=setOk_bd h
 simp only at h1 h2
 obtain ⟨n,rfl⟩: ∃ n:Nat,l=n:=⟨l.toNat,by omega⟩
 clear h
 have e:Hid (((2 ^ n:Nat):Int)=(clr ⟨o,n,m⟩:Nat)):=rfl
 simp only [setV]
 go_enter Tryz.func86,Tryz.ntmps86
 go_wp2_with ((go_at_call 141;(with_reducible refine (l1Two_any n _ (by omega)).mono ?_);rintro e w' ⟨rfl,rfl⟩))
 go_ret
 refine ⟨ret_int e.out,?_⟩
 (repeat (first|exact Up.refl _|refine Up.alloc ?_ _))
set_option maxRecDepth 100000 in
set_option maxHeartbeats 1000000 in
theorem l1End_any (s:SetD) (w:World) (h:setOk s=true) :
  Calls Tryz.prog 131  #[setV s] w (Same (.int .i64 ((clr s:Int)+1)) w):=by
 have hb:=clr_bd h
 obtain ⟨o,l,m⟩:=s
 obtain ⟨-,⟨h1,h2⟩,-,-⟩:=setOk_bd h
 simp only at h1 h2
 obtain ⟨n,rfl⟩: ∃ n:Nat,l=n:=⟨l.toNat,by omega⟩
 clear h
 have e:Hid (((2 ^ n:Nat):Int)=(clr ⟨o,n,m⟩:Nat)):=rfl
 generalize clr ⟨o,(n:Int),m⟩=c at *
 have hb1:=hb.1
 have hb2:=hb.2.1
 clear hb
 simp only [setV]
 go_enter Tryz.func131,Tryz.ntmps131
 go_wp2_with ((go_at_call 141;(with_reducible refine (l1Two_at n _ c rfl e.out (by omega) _).mono ?_);rintro e w' ⟨rfl,rfl⟩))
 go_ret
 refine ⟨rfl,?_⟩
 (repeat (first|exact Up.refl _|refine Up.alloc ?_ _))
set_option maxRecDepth 100000 in
set_option maxHeartbeats 1000000 in
theorem l1Last_any (s:SetD) (w:World) (h:setOk s=true) :
  Calls Tryz.prog 109  #[setV s] w (Same (.int .i64 (lastC s:Nat)) w):=by
 have hb:=clr_bd h
 obtain ⟨o,l,m⟩:=s
 obtain ⟨-,⟨h1,h2⟩,h3,h4⟩:=setOk_bd h
 simp only at h1 h2 h3 h4
 obtain ⟨n,rfl⟩: ∃ n:Nat,m=n:=⟨m.toNat,by omega⟩
 clear h
 have hp:0<2 ^ n:=Nat.pow_pos (by decide)
 have e:Hid (((2 ^ n:Nat):Int)=((lastC ⟨o,l,n⟩+1:Nat):Int)):=by
  show ((2 ^ n:Nat):Int)=((2 ^ n - 1+1:Nat):Int)
  omega
 generalize lastC ⟨o,l,(n:Int)⟩=c at *
 have hb1:=hb.2.2.2
 clear hb hp
 simp only [setV]
 go_enter Tryz.func109,Tryz.ntmps109
 go_wp2_with ((go_at_call 141;(with_reducible refine (l1Two_at n _ _ rfl e.out (by omega) _).mono ?_);rintro e w' ⟨rfl,rfl⟩))
 go_ret
 refine ⟨ret_int (by omega),?_⟩
 (repeat (first|exact Up.refl _|refine Up.alloc ?_ _))
theorem ba_len (s:ByteArray):s.data.toList.length=s.size:=by simp
def litsL (c:Nat) (l:List UInt8):Bool:=l.all fun b=>decide (b.toNat<c)
theorem litsL_no {c:Nat} {l:List UInt8} {k:Nat} (h:k<l.length) (hn: ¬ l[k].toNat<c):litsL c l=false:=by
 unfold litsL;rw [List.all_eq_false];exact ⟨l[k],List.getElem_mem h,by simp;omega⟩
theorem litsL_yes {c:Nat} {l:List UInt8} (h: ∀ k (hk:k<l.length),l[k].toNat<c):litsL c l=true:=by
 unfold litsL;rw [List.all_eq_true]
 intro b hb
 obtain ⟨k,hk,rfl⟩:=List.mem_iff_getElem.1 hb
 simpa using h k hk
def SetAt (b:Nat) (o l m:Int) (w:World):Prop:=w.heap[b]? =some (.cells #[.int .i64 o,.int .i64 l,.int .i64 m] 24)
theorem SetAt.cells {b:Nat} {o l m:Int} {w:World} (h:SetAt b o l m w):b<w.heap.size∧w.cell? ⟨b,0,none⟩=some (.int .i64 o)∧w.cell? ⟨b,1,none⟩=some (.int .i64 l)∧w.cell? ⟨b,2,none⟩=some (.int .i64 m) :=
 ⟨(Array.getElem?_eq_some_iff.1 h).1,box_cell h 0,box_cell h 1,box_cell h 2⟩
def RelL (c:Nat) (s:ByteArray) (o l m:Int) (w:World) (i:Value) (wr:World):Prop:= ∃ k:Nat,k≤s.size∧i= .int .i64 k∧Up w wr∧SetAt w.heap.size o l m wr∧(∀ j (hj:j<s.data.toList.length),j<k→(s.data.toList[j]).toNat<c)
set_option maxRecDepth 100000 in
set_option maxHeartbeats 1000000 in
theorem l1Fits_any (o l m:Int) (s:ByteArray) (w:World) (h:setOk ⟨o,l,m⟩=true) (hs:s.size≤1073741824) :
  Calls Tryz.prog 104  #[.agg #[.int .i64 o,.int .i64 l,.int .i64 m],.string s] w (Same (.bool (litsL (clr ⟨o,l,m⟩) s.data.toList)) w):=by
 have cC:=fun w=>l1Clear_any ⟨o,l,m⟩ w h
 obtain ⟨hb1,hb2,-,-⟩:=clr_bd h
 generalize clr ⟨o,l,m⟩=c at *
 unfold setV at cC
 clear h
 go_enter Tryz.func104,Tryz.ntmps104
 go_wp2
 go_loopw [5] (fun i wr=>RelL c s o l m w i wr) (fun i _=>s.size - (intOf i).toNat)
 case atStart=>exact ⟨0,Nat.zero_le _,rfl,by (repeat (first|exact Up.refl _|refine Up.alloc ?_ _|refine Up.trans ?_ (by with_reducible assumption))),(MapKept.heap_alloc w _).1,fun j hj h=>absurd h (Nat.not_lt_zero _)⟩
 case round =>
  obtain ⟨k,hk,rfl,hup,hset,hall⟩:=hrel
  obtain ⟨b0,b1,b2,b3⟩:=hset.cells
  have HB:=Lib.hid hset
  clear hset
  have HA:=Lib.hid hall
  clear hall
  by_cases hlt:k<s.size
  ·have hu:=u8_bd s[k]
   have hl:k<s.data.toList.length:=by simpa using hlt
   have e:s[k]=s.data.toList[k]:=rfl
   by_cases hc:s[k].toNat<c
   ·have hN:Hid (∀ j (hj:j<s.data.toList.length),j<k+1→(s.data.toList[j]).toNat<c):=fun j hj hjk=>by
     rcases Nat.lt_or_ge j k with h|h
     ·exact HA.out j hj h
     ·have:j=k:=by omega
      subst this;exact hc
    clear e
    go_wp2
    refine wp_region_up 7 (by kernel_rfl) (by kernel_rfl) ?_
    simp only [List.take,List.drop]
    repeat (refine wpUp_step (fun K hK=>?_);go_simp;(try simp only [↓IntWalk.iteOmega]);first
     |(refine hK _ _ ?_;clear hK K)
     |(apply stepU_c
       ·intro wq hwq;(have hbq:=bcell hwq;(repeat (first|refine fills_no (by rfl) ?_|refine fills_yes (by rfl) (fun vq hvq=>?_)));simp only [List.filter_nil,fills];unfold upAt;go_simp;(try go_bits);(try simp only [↓IntWalk.iteOmega]);first|exact upOut_value|(apply upOut_call;(go_at_call 86;exact cC _)))
       go_simp;refine hK _ _ ?_;clear hK K))
    refine wpUp_nil (fun wq hwq=>?_)
    simp only [fills]
    go_wp2
    go_roundw
    case rel=>exact ⟨k+1,by omega,by go_num,by (repeat (first|exact Up.refl _|refine Up.alloc ?_ _|refine Up.trans ?_ (by with_reducible assumption))),box_up hwq HB.out,hN.out⟩
    case measure=>simp [intOf];omega
   ·have hN:Hid (litsL c s.data.toList=false):=litsL_no hl (by rw [← e];exact hc)
    clear e
    go_wp2
    refine wp_region_up 7 (by kernel_rfl) (by kernel_rfl) ?_
    simp only [List.take,List.drop]
    repeat (refine wpUp_step (fun K hK=>?_);go_simp;(try simp only [↓IntWalk.iteOmega]);first
     |(refine hK _ _ ?_;clear hK K)
     |(apply stepU_c
       ·intro wq hwq;(have hbq:=bcell hwq;(repeat (first|refine fills_no (by rfl) ?_|refine fills_yes (by rfl) (fun vq hvq=>?_)));simp only [List.filter_nil,fills];unfold upAt;go_simp;(try go_bits);(try simp only [↓IntWalk.iteOmega]);first|exact upOut_value|(apply upOut_call;(go_at_call 86;exact cC _)))
       go_simp;refine hK _ _ ?_;clear hK K))
    refine wpUp_nil (fun wq hwq=>?_)
    simp only [fills]
    go_wp2
    go_ret
    refine ⟨ret_bool hN.out.symm,?_⟩
    (repeat (first|exact Up.refl _|refine Up.alloc ?_ _|refine Up.trans ?_ (by with_reducible assumption)))
  ·have hN:Hid (litsL c s.data.toList=true):=litsL_yes fun j hj=>HA.out j hj (by rw [ba_len] at hj;omega)
   go_wp2
   go_ret
   refine ⟨ret_bool hN.out.symm,?_⟩
   (repeat (first|exact Up.refl _|refine Up.alloc ?_ _|refine Up.trans ?_ (by with_reducible assumption)))
end Go.Proofs.YtekogcjdaolcbaaGreatDoor

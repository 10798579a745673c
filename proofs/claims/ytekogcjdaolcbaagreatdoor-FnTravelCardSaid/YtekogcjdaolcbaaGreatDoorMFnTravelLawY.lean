/- Texts joined into one: the walks and laws that the last text leans on. Conditions: as each says. -/
import Derived.Test.YtekogcjdaolcbaaGreatDoorMFnTravelLawR
import Derived.Test.YtekogcjdaolcbaaGreatDoorMFnTravelLawM
import Derived.Test.YtekogcjdaolcbaaGreatDoorMFnTravelLawX
import Derived.Test.YtekogcjdaolcbaaGreatDoorMFnTravelLawP
import Derived.Test.YtekogcjdaolcbaaGreatDoorMFnTravelLawO
import Derived.Test.YtekogcjdaolcbaaGreatDoorMFnTravelLawW

set_option linter.unusedVariables false
set_option linter.unusedSimpArgs false
/- Plain: what a reader of the bytes so far has read of the data of a writer (for FnWriterKnown). Conditions: what is known is valid, the data has only literals. -/
namespace Go.Proofs.YtekogcjdaolcbaaGreatDoor
open Go Go.RowKit
def folS:KnD→List Int→Prop
 |_,[]=>True
 |k,x :: xs=>(x=(k.c:Int)∨(x≠(k.c:Int)∧x≠(k.c:Int)+1∧k.follows x=true))∧folS (k.thru x) xs
def datS:KnD→List Int→List UInt8
 |_,[]=> []
 |k,x :: xs=>(if x=(k.c:Int) then [] else k.any x)++datS (k.thru x) xs
theorem folS_app: ∀ (xs ys:List Int) (k:KnD),folS k xs→folS (k.thruN xs) ys→folS k (xs++ys):=by
 intro xs
 induction xs with
 |nil=>intro ys k _ h;exact h
 |cons x xs ih=>intro ys k h1 h2;exact ⟨h1.1,ih ys _ h1.2 h2⟩
theorem datS_app: ∀ (xs ys:List Int) (k:KnD),datS k (xs++ys)=datS k xs++datS (k.thruN xs) ys:=by
 intro xs
 induction xs with
 |nil=>intro ys k;rfl
 |cons x xs ih =>
  intro ys k
  show _++datS (k.thru x) (xs++ys)=_
  rw [ih ys (k.thru x)]
  exact (List.append_assoc ..).symm
theorem wrC_fol: ∀ (n:Nat) (k:KnD) (d:List UInt8),d.length≤n→k.Ok→(∀ b∈d,b.toNat<k.c)→folS k (wrC n k d).1∧datS k (wrC n k d).1++(wrC n k d).2.2=d:=by
 intro n
 induction n with
 |zero =>
  intro k d hd _ _
  have:d= []:=List.eq_nil_of_length_eq_zero (by omega)
  subst this
  exact ⟨trivial,rfl⟩
 |succ n ih =>
  intro k d hd hk hl
  by_cases hs:d= []∨k.longest d=d
  ·rw [wrC_stop hs]
   exact ⟨trivial,rfl⟩
  ·have hd0:d≠ []:=fun e=>hs (.inl e)
   have hp:=KnD.longest_pos (k:=k) hd0
   obtain ⟨hf,ha⟩:=KnD.find_any hk hd0 hl
   have hak:=KnD.after_ok hk hf
   have hth:=KnD.thru_fol hk hf
   have htk:=KnD.longest_take (k:=k) d
   have hne:k.find (k.longest d)≠(k.c:Int)∧k.find (k.longest d)≠(k.c:Int)+1:=KnD.fol_ne hk hf
   have hl': ∀ b∈d.drop (k.longest d).length,b.toNat<k.c:=fun b hb=>hl b (List.mem_of_mem_drop hb)
   have hlen:(d.drop (k.longest d).length).length≤n:=by rw [List.length_drop];omega
   have hcat:k.longest d++d.drop (k.longest d).length=d:=by
    have:=List.take_append_drop (k.longest d).length d
    rw [htk] at this
    exact this
   rw [wrC,if_neg hs]
   by_cases hfu:(k.after (k.find (k.longest d))).full=true
   ·rw [if_pos hfu]
    obtain ⟨h1,h2⟩:=ih (k.after (k.find (k.longest d))).cleared _ hlen (KnD.cleared_ok hak) hl'
    have hcc:(k.after (k.find (k.longest d))).thru (k.c:Int)=(k.after (k.find (k.longest d))).cleared:=thru_clear _
    refine ⟨⟨.inr ⟨hne.1,hne.2,hf⟩,?_⟩,?_⟩
    ·rw [hth]
     exact ⟨.inl rfl,by rw [hcc];exact h1⟩
    ·show ((if _ then _ else _)++datS (k.thru _) ((k.c:Int) :: _))++_=_
     rw [hth,if_neg hne.1,ha]
     show (k.longest d++((if _ then _ else _)++datS ((k.after (k.find (k.longest d))).thru (k.c:Int)) _))++_=_
     rw [hcc,if_pos (show (k.c:Int)=((k.after (k.find (k.longest d))).c:Int) from rfl),List.nil_append,List.append_assoc,h2,hcat]
   ·rw [if_neg hfu]
    obtain ⟨h1,h2⟩:=ih (k.after (k.find (k.longest d))) _ hlen hak hl'
    refine ⟨⟨.inr ⟨hne.1,hne.2,hf⟩,by rw [hth];exact h1⟩,?_⟩
    show ((if _ then _ else _)++datS (k.thru _) _)++_=_
    rw [hth,if_neg hne.1,ha,List.append_assoc,h2,hcat]
structure WkInv (k0:KnD) (d:List UInt8) (w:WrD) (out:List UInt8):Prop where
 ok:wrOk w
 set:w.k.set=k0.set
 lits: ∀ b∈w.pend,b.toNat<k0.c
 st:(w.beg=false∧d= []∧out= []∧w.k=k0)∨(w.beg=true∧ ∃ C P,P.length % 8=0∧out=packL k0.set.ord P∧P++w.bits=bitsS k0.set.ord k0 C∧w.k=k0.thruN C ∧
  (∀ e m,(d++e).length≤m→(∀ b∈e,b.toNat<k0.c)→ ∃ m',(w.pend++e).length≤m'∧(k0.c:Int) :: greedyN m k0.cleared (d++e)=C++greedyN m' w.k (w.pend++e))∧folS k0 C∧datS k0 C++w.pend=d)
theorem WkInv.start {k:KnD} (h:k.Ok) (hv:k.vl):WkInv k [] ⟨k,[],[],false⟩ [] :=
 ⟨⟨h,hv,(fun b hb=>absurd hb (List.not_mem_nil)),by simp,(fun b hb=>absurd hb (List.not_mem_nil)),by simp,.inl rfl,fun _=>⟨rfl,rfl⟩⟩,rfl,(fun b hb=>absurd hb (List.not_mem_nil)),.inl ⟨rfl,rfl,rfl,rfl⟩⟩
theorem WkInv.wa {k0:KnD} {d:List UInt8} {w:WrD} {out:List UInt8} (h:WkInv k0 d w out):WaInv k0 d w out:=by
 obtain ⟨hok,hset,hlp,hst⟩:=h
 refine ⟨hok.1,hset,hlp,hok.2.2.2.2.2.2.1,?_⟩
 rcases hst with ⟨b1,b2,b3,b5⟩|⟨b1,C,P,p1,p2,p3,p4,p5,p6,p7⟩
 ·obtain ⟨b6,b7⟩:=hok.2.2.2.2.2.2.2 b1
  exact .inl ⟨b1,b2,b6,b7,b5,b3⟩
 ·exact .inr ⟨b1,C,P,p1,p2,p3,p4,p5⟩
theorem WkInv.next {k0:KnD} {d x:List UInt8} {w:WrD} {out:List UInt8} (hk0:k0.Ok) (h:WkInv k0 d w out) (hx: ∀ b∈x,b.toNat<k0.c) (h2:(w.pend++x).length≤2000):WkInv k0 (d++x) (w.write x).1 (out++(w.write x).2):=by
 by_cases hx0:x= []
 ·subst hx0
  unfold WrD.write
  rw [if_pos rfl,List.append_nil,List.append_nil]
  exact h
 obtain ⟨hok,hset,hlp,hst⟩:=h
 have hc:w.k.c=k0.c:=by unfold KnD.c;rw [hset]
 obtain ⟨g1,g2,g3,p,g4⟩:=wrOk_write hok (fun b hb=>by rw [hc];exact hx b hb) h2
 have hlx: ∀ b∈w.pend++x,b.toNat<k0.c:=fun b hb=>(List.mem_append.1 hb).elim (hlp b) (hx b)
 refine ⟨g1,g2.trans hset,fun b hb=>hlx b (by rw [g4];exact List.mem_append_right _ hb),.inr ⟨(g3 hx0).1,?_⟩⟩
 have hT:((w.all x).take ((w.all x).length / 8 * 8)).length % 8=0:=by rw [List.length_take];omega
 have hB:=List.take_append_drop ((w.all x).length / 8 * 8) (w.all x)
 unfold WrD.write
 rw [if_neg hx0]
 rcases hst with ⟨b1,b2,b3,b5⟩|⟨b1,C,P,p1,p2,p3,p4,p5,p6,p7⟩
 ·subst b2;subst b3
  obtain ⟨b6,b7⟩:=hok.2.2.2.2.2.2.2 b1
  subst b5
  have ho:w.open=(codeL w.k.set.ord w.k.c w.k.width,w.k.cleared):=by unfold WrD.open;rw [b1,b7];simp
  have hcd:w.codes x=wrC x.length w.k.cleared x:=by unfold WrD.codes;rw [ho,b6];rfl
  have hth:=wrC_thru x.length w.k.cleared x (KnD.cleared_ok hk0) hx
  obtain ⟨f1,f2⟩:=wrC_fol x.length w.k.cleared x (Nat.le_refl _) (KnD.cleared_ok hk0) hx
  have hall:w.all x=bitsS w.k.set.ord w.k ((w.k.c:Int) :: (wrC x.length w.k.cleared x).1):=by
   unfold WrD.all
   rw [hcd,ho]
   show codeL w.k.set.ord w.k.c w.k.width++_=codeL w.k.set.ord (w.k.c:Int).toNat w.k.width++bitsS w.k.set.ord (w.k.thru (w.k.c:Int)) _
   rw [thru_clear]
   rfl
  refine ⟨(w.k.c:Int) :: (wrC x.length w.k.cleared x).1,_,hT,rfl,by rw [hB,hall],?_,fun e m hm he=>?_,⟨.inl rfl,by rw [thru_clear];exact f1⟩,?_⟩
  ·rw [hcd,hth]
   show _=(w.k.thru (w.k.c:Int)).thruN _
   rw [thru_clear]
  ·rw [hcd]
   obtain ⟨m',r1,r2⟩:=wrC_greedy x.length w.k.cleared x e m (Nat.le_refl _) hm (KnD.cleared_ok hk0) hx
   exact ⟨m',r1,by
    show (w.k.c:Int) :: greedyN m w.k.cleared (x++e)=_
    rw [r2];rfl⟩
  ·show ((if _ then _ else _)++datS (w.k.thru (w.k.c:Int)) _)++(w.codes x).2.2=_
   rw [if_pos rfl,thru_clear,hcd,List.nil_append,List.nil_append]
   exact f2
 ·have ho:w.open=(w.bits,w.k):=by unfold WrD.open;rw [b1];rfl
  have hcd:w.codes x=wrC (w.pend++x).length w.k (w.pend++x):=by unfold WrD.codes;rw [ho]
  have hlw: ∀ b∈w.pend++x,b.toNat<w.k.c:=fun b hb=>by rw [hc];exact hlx b hb
  have hth:=wrC_thru (w.pend++x).length w.k (w.pend++x) hok.1 hlw
  obtain ⟨f1,f2⟩:=wrC_fol (w.pend++x).length w.k (w.pend++x) (Nat.le_refl _) hok.1 hlw
  have hall:P++w.all x=bitsS k0.set.ord k0 (C++(wrC (w.pend++x).length w.k (w.pend++x)).1):=by
   unfold WrD.all
   rw [hcd,ho,hset,bitsS_app,←p3,←p4,List.append_assoc]
  refine ⟨C++(wrC (w.pend++x).length w.k (w.pend++x)).1,P++(w.all x).take ((w.all x).length / 8 * 8),?_,?_,?_,?_,fun e m hm he=>?_,?_,?_⟩
  ·rw [List.length_append];omega
  ·rw [p2,hset,packL_append _ p1]
  ·rw [List.append_assoc,hB,hall]
  ·rw [hcd,hth,thruN_app,←p4]
  ·rw [hcd]
   have hxe: ∀ b∈x++e,b.toNat<k0.c:=fun b hb=>(List.mem_append.1 hb).elim (hx b) (he b)
   obtain ⟨m1,r1,r2⟩:=p5 (x++e) m (by rw [← List.append_assoc];exact hm) hxe
   rw [show w.pend++(x++e)=(w.pend++x)++e from (List.append_assoc ..).symm] at r1 r2
   obtain ⟨m',s1,s2⟩:=wrC_greedy (w.pend++x).length w.k (w.pend++x) e m1 (Nat.le_refl _) r1 hok.1 hlw
   exact ⟨m',s1,by rw [List.append_assoc d x e,r2,s2];exact (List.append_assoc ..).symm⟩
  ·exact folS_app _ _ _ p6 (by rw [← p4];exact f1)
  ·rw [datS_app,←p4,hcd,List.append_assoc,f2,←List.append_assoc,p7]
end Go.Proofs.YtekogcjdaolcbaaGreatDoor
/- Plain: a writer and a reader that travel together. No program in sight. -/
namespace Go.Proofs.YtekogcjdaolcbaaGreatDoor
open Go Go.RowKit
theorem WkInv.pend {k:KnD} {d:List UInt8} {w:WrD} {out:List UInt8} (h:WkInv k d w out):w.pend.length≤d.length:=by
 rcases h.st with ⟨hb,-,-,-⟩|⟨-,C,P,-,-,-,-,-,-,hd⟩
 ·rw [(h.ok.2.2.2.2.2.2.2 hb).1];exact Nat.zero_le _
 ·rw [← hd,List.length_append];omega
theorem trv_out {k:KnD} {d:List UInt8} {w:WrD} {out:List UInt8} (hk:k.Ok) (h:WkInv k d w out) (hl: ∀ b∈d,b.toNat<k.c) (hd:d.length≤2000):out++w.close=compL k d∧out.length+w.close.length≤4000:=by
 have h1:=WaInv.fin hk hl hd h.wa
 have h2:=compL_4000 hk hl hd
 refine ⟨h1,?_⟩
 rw [← h1,List.length_append] at h2
 exact h2
theorem trv_next {k:KnD} {d x:List UInt8} {w:WrD} {out:List UInt8} (hk:k.Ok) (hv:k.vl) (h:WkInv k d w out) (hl: ∀ b∈d++x,b.toNat<k.c) (hd:(d++x).length≤2000) :
  WkInv k (d++x) (w.write x).1 (out++(w.write x).2)∧(w.write x).2.length≤4000∧((rvS k out).read (w.write x).2).1=rvS k (out++(w.write x).2)∧(readS k (out++(w.write x).2)).data=(readS k out).data++((rvS k out).read (w.write x).2).2.1:=by
 have hp:=h.pend
 have hd':=hd
 rw [List.length_append] at hd'
 have h1:=h.next hk (fun b hb=>hl b (List.mem_append.2 (.inr hb))) (by rw [List.length_append];omega)
 have h2:=(trv_out hk h1 hl hd).2
 rw [List.length_append] at h2
 obtain ⟨h3,h4,-,-⟩:=rvS_read hk hv out (w.write x).2
 exact ⟨h1,by omega,h3,h4⟩
theorem trv_end {k:KnD} {d:List UInt8} {w:WrD} {out:List UInt8} (hk:k.Ok) (hv:k.vl) (h:WkInv k d w out) (hl: ∀ b∈d,b.toNat<k.c) (hd:d.length≤2000) :
  w.close.length≤4000∧((rvS k out).read w.close).1=rvS k (compL k d)∧(rvS k (compL k d)).fin=0∧d=(readS k out).data++((rvS k out).read w.close).2.1∧(rvS k (compL k d)).size=d.length:=by
 obtain ⟨h1,h2⟩:=trv_out hk h hl hd
 obtain ⟨h3,h4,-,-⟩:=rvS_read hk hv out w.close
 rw [h1] at h3 h4
 have h5:=compL_4000 hk hl hd
 have h6:=dec_comp hk hl hd h5
 unfold decK at h6
 rw [if_pos h5] at h6
 have e1:(readS k (compL k d)).data=d:=congrArg DecR.data h6
 have e2:(readS k (compL k d)).fin=0:=congrArg DecR.fin h6
 refine ⟨by omega,h3,e2,?_,?_⟩
 ·rw [← e1];rw [e1] at h4 ⊢;exact h4
 ·show (readS k (compL k d)).data.length=d.length
  rw [e1]
end Go.Proofs.YtekogcjdaolcbaaGreatDoor
/- Plain: one round of a writer and a reader that travel together, and the last one. No program in sight. -/
namespace Go.Proofs.YtekogcjdaolcbaaGreatDoor
open Go Go.RowKit
theorem trv_round {k:KnD} {D d p:List UInt8} {x:WrD} {out:List UInt8} (hk:k.Ok) (hv:k.vl) (h:WkInv k d x out) (hl: ∀ b∈D,b.toNat<k.c) (hD:D.length≤40) (hdp: ∃ r,D=(d++p)++r) :
  wdO x p=some (x.write p)∧WkInv k (d++p) (x.write p).1 (out++(x.write p).2)∧(x.write p).2.length≤4000 ∧
  (rvS k out).read (x.write p).2=(rvS k (out++(x.write p).2),((rvS k out).read (x.write p).2).2.1,((rvS k out).read (x.write p).2).2.2) ∧
  (readS k (out++(x.write p).2)).data=(readS k out).data++((rvS k out).read (x.write p).2).2.1∧((rvS k out).read (x.write p).2).2.1.length≤2000∧(readS k out).data.length≤2000:=by
 obtain ⟨r,hr⟩:=hdp
 have hlen:=congrArg List.length hr
 rw [List.length_append,List.length_append] at hlen
 have hdl: ∀ b∈d++p,b.toNat<k.c:=fun b hb=>hl b (by rw [hr];exact List.mem_append_left _ hb)
 obtain ⟨t1,t2,t3,t4⟩:=trv_next hk hv h hdl (by rw [List.length_append];omega)
 have hpd:=h.pend
 have h2:(x.pend++p).length≤2000:=by rw [List.length_append];omega
 have hc:clr x.k.set=k.c:=by rw [h.set];rfl
 have hw:wdO x p=some (x.write p):=by
  refine wdO_some ?_
  rw [wrvB_of h.ok,fitsB_iff h.ok.1.set h2,Bool.true_and]
  simp only [litsL,List.all_eq_true,decide_eq_true_eq]
  intro b hb
  rw [hc]
  rcases List.mem_append.1 hb with hb|hb
  ·exact h.lits b hb
  ·exact hdl b (List.mem_append_right _ hb)
 have b1:=RvD.read_bd (rvS_ok hk hv out) t2
 have b2:=(rvS_ok hk hv out).size
 exact ⟨hw,t1,t2,by rw [← t3],t4,b1.1,b2⟩
theorem trv_last {k:KnD} {D:List UInt8} {x:WrD} {out:List UInt8} (hk:k.Ok) (hv:k.vl) (h:WkInv k D x out) (hl: ∀ b∈D,b.toNat<k.c) (hD:D.length≤40) :
  wcO x=some x.close∧x.close.length≤4000∧(rvS k out).read x.close=(rvS k (compL k D),((rvS k out).read x.close).2.1,((rvS k out).read x.close).2.2) ∧
  D=(readS k out).data++((rvS k out).read x.close).2.1∧((rvS k out).read x.close).2.1.length≤2000∧(readS k out).data.length≤2000:=by
 obtain ⟨t1,t2,t3,t4,-⟩:=trv_end hk hv h hl (by omega)
 have b1:=RvD.read_bd (rvS_ok hk hv out) t1
 have b2:=(rvS_ok hk hv out).size
 exact ⟨wcO_some (wrvB_of h.ok),t1,by rw [← t2],t4,b1.1,b2⟩
theorem trv_done {k:KnD} {d:List UInt8} (hk:k.Ok) (hl: ∀ b∈d,b.toNat<k.c) (hd:d.length≤2000):(rvS k (compL k d)).fin=0∧(rvS k (compL k d)).size=d.length:=by
 have h5:=compL_4000 hk hl hd
 have h6:=dec_comp hk hl hd h5
 unfold decK at h6
 rw [if_pos h5] at h6
 have e1:(readS k (compL k d)).data=d:=congrArg DecR.data h6
 have e2:(readS k (compL k d)).fin=0:=congrArg DecR.fin h6
 refine ⟨e2,?_⟩
 show (readS k (compL k d)).data.length=d.length
 rw [e1]
def RelTv (k:KnD) (ps:List ByteArray) (w1:World) (wt rt d i:Value) (wr:World):Prop:= ∃ j:Nat,i= .int .i64 j∧Up w1 wr∧((∃ x o,j≤ps.length∧wt= .string (bs (fmtW x))∧rt= .string (bs (rdL (rvS k o)))∧d= .string (bs (readS k o).data)∧WkInv k (joinL (ps.take j)) x o)∨(∃ t,j=ps.length+1∧wt= .string t∧rt= .string (bs (rdL (rvS k (compL k (joinL ps)))))∧d= .string (bs (joinL ps))))
end Go.Proofs.YtekogcjdaolcbaaGreatDoor

/- Texts joined into one: the walks and laws that the last text leans on. Conditions: as each says. -/
import Derived.Test.YtekogcjdaolcbaaGreatDoorMFnTravelLawI
import Derived.Test.YtekogcjdaolcbaaGreatDoorMFnTravelLawE
import Derived.Test.YtekogcjdaolcbaaGreatDoorMFnTravelLawH
import Derived.Test.YtekogcjdaolcbaaGreatDoorMFnTravelLawB
import Derived.Test.YtekogcjdaolcbaaGreatDoorMFnTravelLawG
import Derived.Test.YtekogcjdaolcbaaGreatDoorMFnTravelLawF

set_option linter.unusedVariables false
set_option linter.unusedSimpArgs false
/- Plain: a writer that gets data in parts writes the stream of all data (for FnWriteAll and the other writers' laws). Conditions: what is known is valid, the data has only literals. -/
namespace Go.Proofs.YtekogcjdaolcbaaGreatDoor
open Go Go.RowKit
theorem KnD.thru_fol {k:KnD} (h:k.Ok) {x:Int} (hf:k.follows x=true):k.thru x=k.after x:=by
 have:x≠(k.c:Int)+1∧x≠(k.c:Int):=by
  rcases KnD.follows_cases h hf with hc|⟨hg,rfl,hl⟩
  ·rw [codeOk_iff] at hc;omega
  ·unfold KnD.next;omega
 unfold KnD.thru
 rw [if_neg this.1,if_neg this.2]
theorem wrC_thru: ∀ (n:Nat) (k:KnD) (d:List UInt8),k.Ok→(∀ b∈d,b.toNat<k.c)→(wrC n k d).2.1=k.thruN (wrC n k d).1:=by
 intro n
 induction n with
 |zero=>intro k d _ _;rfl
 |succ n ih =>
  intro k d hk hl
  by_cases hs:d= []∨k.longest d=d
  ·rw [wrC_stop hs];rfl
  ·have hd0:d≠ []:=fun e=>hs (.inl e)
   obtain ⟨hf,-⟩:=KnD.find_any hk hd0 hl
   have hak:=KnD.after_ok hk hf
   have hl': ∀ b∈d.drop (k.longest d).length,b.toNat<k.c:=fun b hb=>hl b (List.mem_of_mem_drop hb)
   rw [wrC,if_neg hs]
   by_cases hfu:(k.after (k.find (k.longest d))).full=true
   ·rw [if_pos hfu]
    show _=((k.thru _).thru _).thruN _
    rw [KnD.thru_fol hk hf]
    have hc:(k.after (k.find (k.longest d))).thru (k.c:Int)=(k.after (k.find (k.longest d))).cleared:=by
     unfold KnD.thru
     rw [if_neg (by show ¬ ((k.c:Int)=(k.c:Int)+1);omega)]
     exact if_pos rfl
    rw [hc]
    exact ih _ _ (KnD.cleared_ok hak) hl'
   ·rw [if_neg hfu]
    show _=(k.thru _).thruN _
    rw [KnD.thru_fol hk hf]
    exact ih _ _ hak hl'
structure WrD where
 k:KnD
 pend:List UInt8
 bits:List UInt8
 beg:Bool
def WrD.open (w:WrD):List UInt8 × KnD:=if w.beg then (w.bits,w.k) else (w.bits++codeL w.k.set.ord w.k.c w.k.width,w.k.cleared)
def WrD.codes (w:WrD) (d:List UInt8):List Int × KnD × List UInt8:=wrC (w.pend++d).length w.open.2 (w.pend++d)
def WrD.all (w:WrD) (d:List UInt8):List UInt8:=w.open.1++bitsS w.k.set.ord w.open.2 (w.codes d).1
def WrD.write (w:WrD) (d:List UInt8):WrD × List UInt8 :=
 if d= [] then (w,[]) else (⟨(w.codes d).2.1,(w.codes d).2.2,(w.all d).drop ((w.all d).length / 8 * 8),true⟩,packL w.k.set.ord ((w.all d).take ((w.all d).length / 8 * 8)))
def WrD.close (w:WrD):List UInt8:=packL w.k.set.ord (w.open.1++bitsS w.k.set.ord w.open.2 ((if w.pend= [] then [] else [w.open.2.find w.pend])++ [(w.k.c:Int)+1]))
structure WaInv (k0:KnD) (d:List UInt8) (w:WrD) (out:List UInt8):Prop where
 ok:w.k.Ok
 set:w.k.set=k0.set
 lits: ∀ b∈w.pend,b.toNat<k0.c
 word:w.pend= []∨w.k.longest w.pend=w.pend
 st:(w.beg=false∧d= []∧w.pend= []∧w.bits= []∧w.k=k0∧out= []) ∨
  (w.beg=true∧ ∃ C P,P.length % 8=0∧out=packL k0.set.ord P∧P++w.bits=bitsS k0.set.ord k0 C∧w.k=k0.thruN C ∧
   ∀ e m,(d++e).length≤m→(∀ b∈e,b.toNat<k0.c)→ ∃ m',(w.pend++e).length≤m'∧(k0.c:Int) :: greedyN m k0.cleared (d++e)=C++greedyN m' w.k (w.pend++e))
theorem WaInv.start {k:KnD} (h:k.Ok):WaInv k [] ⟨k,[],[],false⟩ []:=⟨h,rfl,(fun b hb=>absurd hb (List.not_mem_nil)),.inl rfl,.inl ⟨rfl,rfl,rfl,rfl,rfl,rfl⟩⟩
theorem thru_clear (k:KnD):k.thru (k.c:Int)=k.cleared:=by
 unfold KnD.thru
 rw [if_neg (by omega),if_pos rfl]
theorem WaInv.next {k0:KnD} {d x:List UInt8} {w:WrD} {out:List UInt8} (hk0:k0.Ok) (h:WaInv k0 d w out) (hx: ∀ b∈x,b.toNat<k0.c):WaInv k0 (d++x) (w.write x).1 (out++(w.write x).2):=by
 by_cases hx0:x= []
 ·subst hx0
  unfold WrD.write
  rw [if_pos rfl,List.append_nil,List.append_nil]
  exact h
 obtain ⟨hk,hset,hlp,hword,hst⟩:=h
 have hc:w.k.c=k0.c:=by unfold KnD.c;rw [hset]
 have hlx: ∀ b∈w.pend++x,b.toNat<k0.c:=fun b hb=>(List.mem_append.1 hb).elim (hlp b) (hx b)
 have hB:=List.take_append_drop ((w.all x).length / 8 * 8) (w.all x)
 have hT:((w.all x).take ((w.all x).length / 8 * 8)).length % 8=0:=by rw [List.length_take];omega
 unfold WrD.write
 rw [if_neg hx0]
 rcases hst with ⟨b1,rfl,b3,b4,b5,rfl⟩|⟨b1,C,P,p1,p2,p3,p4,p5⟩
 ·have ho:w.open=(codeL k0.set.ord k0.c k0.width,k0.cleared):=by unfold WrD.open;rw [b1,b4,b5];simp
  have hcd:w.codes x=wrC x.length k0.cleared x:=by unfold WrD.codes;rw [ho,b3];rfl
  obtain ⟨q1,q2,q3,q4,q,q5⟩:=wrC_end x.length k0.cleared x (Nat.le_refl _) (KnD.cleared_ok hk0) hx
  have hth:=wrC_thru x.length k0.cleared x (KnD.cleared_ok hk0) hx
  have hall:w.all x=bitsS k0.set.ord k0 ((k0.c:Int) :: (wrC x.length k0.cleared x).1):=by
   unfold WrD.all
   rw [hcd,ho,hset]
   show codeL k0.set.ord k0.c k0.width++_=codeL k0.set.ord (k0.c:Int).toNat k0.width++bitsS k0.set.ord (k0.thru (k0.c:Int)) _
   rw [thru_clear]
   rfl
  refine ⟨by rw [hcd];exact q1,by rw [hcd];exact q2,fun b hb=>hx b ?_,by rw [hcd];exact q3,.inr ⟨rfl,(k0.c:Int) :: (wrC x.length k0.cleared x).1,_,hT,by rw [hset];rfl,by rw [hB,hall],?_,fun e m hm he=>?_⟩⟩
  ·rw [hcd] at hb
   rw [q5]
   exact List.mem_append_right _ hb
  ·rw [hcd,hth]
   show _=(k0.thru (k0.c:Int)).thruN _
   rw [thru_clear]
  ·rw [hcd]
   obtain ⟨m',r1,r2⟩:=wrC_greedy x.length k0.cleared x e m (Nat.le_refl _) hm (KnD.cleared_ok hk0) hx
   exact ⟨m',r1,by
    show (k0.c:Int) :: greedyN m k0.cleared (x++e)=_
    rw [r2];rfl⟩
 ·have ho:w.open=(w.bits,w.k):=by unfold WrD.open;rw [b1];rfl
  have hcd:w.codes x=wrC (w.pend++x).length w.k (w.pend++x):=by unfold WrD.codes;rw [ho]
  have hlw: ∀ b∈w.pend++x,b.toNat<w.k.c:=fun b hb=>by rw [hc];exact hlx b hb
  obtain ⟨q1,q2,q3,q4,q,q5⟩:=wrC_end (w.pend++x).length w.k (w.pend++x) (Nat.le_refl _) hk hlw
  have hth:=wrC_thru (w.pend++x).length w.k (w.pend++x) hk hlw
  have hall:P++w.all x=bitsS k0.set.ord k0 (C++(wrC (w.pend++x).length w.k (w.pend++x)).1):=by
   unfold WrD.all
   rw [hcd,ho,hset,bitsS_app,←p3,←p4,List.append_assoc]
  refine ⟨by rw [hcd];exact q1,by rw [hcd];exact q2.trans hset,fun b hb=>hlx b ?_,by rw [hcd];exact q3,.inr ⟨rfl,C++(wrC (w.pend++x).length w.k (w.pend++x)).1,P++(w.all x).take ((w.all x).length / 8 * 8),?_,?_,?_,?_,fun e m hm he=>?_⟩⟩
  ·rw [hcd] at hb
   rw [q5]
   exact List.mem_append_right _ hb
  ·rw [List.length_append];omega
  ·rw [p2,hset,packL_append _ p1]
  ·rw [List.append_assoc,hB,hall]
  ·rw [hcd,hth,thruN_app,←p4]
  ·rw [hcd]
   have hxe: ∀ b∈x++e,b.toNat<k0.c:=fun b hb=>(List.mem_append.1 hb).elim (hx b) (he b)
   obtain ⟨m1,r1,r2⟩:=p5 (x++e) m (by rw [← List.append_assoc];exact hm) hxe
   rw [show w.pend++(x++e)=(w.pend++x)++e from (List.append_assoc ..).symm] at r1 r2
   obtain ⟨m',s1,s2⟩:=wrC_greedy (w.pend++x).length w.k (w.pend++x) e m1 (Nat.le_refl _) r1 hk hlw
   exact ⟨m',s1,by rw [List.append_assoc d x e,r2,s2];exact (List.append_assoc ..).symm⟩
theorem WaInv.fin {k0:KnD} {d:List UInt8} {w:WrD} {out:List UInt8} (hk0:k0.Ok) (hl: ∀ b∈d,b.toNat<k0.c) (hd:d.length≤2000) (h:WaInv k0 d w out):out++w.close=compL k0 d:=by
 obtain ⟨g1,g2,g3,g4,g5⟩:=walk_greedy hk0 hl hd
 have hT:walkN k0 (greedy k0 d) [] []=⟨[]++(walkN k0 (greedy k0 d) [] []).ws,d,true⟩:=by
  generalize walkN k0 (greedy k0 d) [] []=T at *
  obtain ⟨a,b,c⟩:=T
  simp only at g2 g3
  rw [g2,g3];rfl
 have hb:=bitsS_walk k0.set.ord _ _ _ _ _ _ hT
 have hcomp:compL k0 d=packL k0.set.ord (bitsS k0.set.ord k0 (greedy k0 d)):=by unfold compL;rw [hb]
 obtain ⟨hk,hset,hlp,hword,hst⟩:=h
 have hc:w.k.c=k0.c:=by unfold KnD.c;rw [hset]
 rw [hcomp]
 unfold WrD.close
 rcases hst with ⟨b1,rfl,b3,b4,b5,rfl⟩|⟨b1,C,P,p1,p2,p3,p4,p5⟩
 ·have ho:w.open=(codeL k0.set.ord k0.c k0.width,k0.cleared):=by unfold WrD.open;rw [b1,b4,b5];simp
  rw [ho,b3,if_pos rfl,hset,hc,List.nil_append,List.nil_append]
  unfold greedy
  rw [greedyN_nil]
  show packL _ (codeL k0.set.ord k0.c k0.width++_)=packL _ (codeL k0.set.ord (k0.c:Int).toNat k0.width++bitsS k0.set.ord (k0.thru (k0.c:Int)) _)
  rw [thru_clear]
  rfl
 ·have ho:w.open=(w.bits,w.k):=by unfold WrD.open;rw [b1];rfl
  obtain ⟨m',r1,r2⟩:=p5 [] d.length (by simp) (fun b hb=>absurd hb (List.not_mem_nil))
  rw [List.append_nil,List.append_nil] at r2
  rw [List.append_nil] at r1
  have hg:greedy k0 d=C++greedyN m' w.k w.pend:=r2
  rw [wrC_close hword r1,hc] at hg
  rw [ho,hg,bitsS_app k0.set.ord C,←p3,←p4,p2,hset,hc,←packL_append _ p1,List.append_assoc]
end Go.Proofs.YtekogcjdaolcbaaGreatDoor
/- Plain: writing in parts is writing at once (for FnWriteParts and FnWriteBits). Conditions: the writer is valid, the data has only literals. -/
namespace Go.Proofs.YtekogcjdaolcbaaGreatDoor
open Go Go.RowKit
theorem KnD.longest_lt {k:KnD} {d:List UInt8} (hs:k.longest d≠d):(k.longest d).length<d.length:=by
 have hle:=KnD.longest_le (k:=k) d
 rcases Nat.lt_or_ge (k.longest d).length d.length with h|h
 ·exact h
 ·exfalso
  apply hs
  have ht:=KnD.longest_take (k:=k) d
  rw [show (k.longest d).length=d.length by omega,List.take_length] at ht
  exact ht.symm
theorem WrD.open_ok {w:WrD} (h:w.k.Ok):w.open.2.Ok∧w.open.2.set=w.k.set:=by
 unfold WrD.open
 split
 ·exact ⟨h,rfl⟩
 ·exact ⟨KnD.cleared_ok h,rfl⟩
end Go.Proofs.YtekogcjdaolcbaaGreatDoor
/- Plain: which writers are valid; what is written by a valid one is valid (for FnWriteParts, FnWriteBits). Conditions: as each says. -/
namespace Go.Proofs.YtekogcjdaolcbaaGreatDoor
open Go Go.RowKit
def KnD.vl (k:KnD):Prop:=k.last= -1→k.base=k.ps.length
theorem valid_of_ok {k:KnD} (h:k.Ok) (hv:k.vl):validK k=true:=by
 have hb0:=h.base0
 have hb1:=h.base1
 have hln:=h.len
 have hc:k.c=clr k.set:=rfl
 unfold validK
 simp only [Bool.and_eq_true]
 refine ⟨h.set,?_,?_,?_,?_⟩
 ·unfold roomOk
  rw [decide_eq_true_eq]
  omega
 ·refine pairsOk_yes fun j hj=>?_
  have:=h.ps j hj
  rw [prOk_get hj] at this
  exact this
 ·rw [inB_iff]
  exact ⟨hb0,hb1⟩
 ·unfold lastOk
  split
  ·next hl=>rw [hv hl];simp
  ·next hl =>
   rcases h.last with h|h
   ·exact absurd h hl
   ·exact h
theorem vl_cleared {k:KnD} (h:k.Ok):k.cleared.vl:=fun _=>by
 have hb0:=h.base0
 have hb1:=h.base1
 show k.base=((k.ps.take k.base.toNat).length:Int)
 rw [List.length_take];omega
theorem vl_after {k:KnD} (h:k.Ok) {x:Int} (hf:k.follows x=true):(k.after x).vl:=fun hl=>by
 have hl:x= -1:=hl
 have:=(KnD.find_bd h hf).1
 omega
theorem wrC_vl: ∀ (n:Nat) (k:KnD) (d:List UInt8),k.Ok→k.vl→(∀ b∈d,b.toNat<k.c)→(wrC n k d).2.1.vl:=by
 intro n
 induction n with
 |zero=>intro k d _ hv _;exact hv
 |succ n ih =>
  intro k d hk hv hl
  by_cases hs:d= []∨k.longest d=d
  ·rw [wrC_stop hs];exact hv
  ·have hd0:d≠ []:=fun e=>hs (.inl e)
   obtain ⟨hf,-⟩:=KnD.find_any hk hd0 hl
   have hak:=KnD.after_ok hk hf
   have hl': ∀ b∈d.drop (k.longest d).length,b.toNat<k.c:=fun b hb=>hl b (List.mem_of_mem_drop hb)
   rw [wrC,if_neg hs]
   split
   ·exact ih _ _ (KnD.cleared_ok hak) (vl_cleared hak) hl'
   ·exact ih _ _ hak (vl_after hk hf) hl'
theorem KnD.find_word {k:KnD} {d:List UInt8} (hd:d≠ []) (h:0≤k.find d):k.longest d=d:=by
 have hW:k.isW d:=by
  by_cases hc:d.length=1∧(d.getD 0 0).toNat<k.c
  ·exact .inl hc.1
  ·unfold KnD.find at h
   rw [if_neg hc] at h
   split at h
   ·next i hi =>
    right
    have h1:=List.find?_some hi
    have h2:=List.mem_of_find?_eq_some hi
    exact ⟨i,List.mem_range.1 h2,by simpa using h1⟩
   ·omega
 have h2:=KnD.isW_le hd hW (Nat.le_refl _) List.take_length
 have h3:=KnD.longest_le (k:=k) d
 have ht:=KnD.longest_take (k:=k) d
 rw [show (k.longest d).length=d.length by omega,List.take_length] at ht
 exact ht.symm
theorem KnD.word_find {k:KnD} (hk:k.Ok) {d:List UInt8} (hd:d≠ []) (hl: ∀ b∈d,b.toNat<k.c) (h:k.longest d=d):0≤k.find d:=by
 obtain ⟨hf,-⟩:=KnD.find_any hk hd hl
 rw [h] at hf
 exact (KnD.find_bd hk hf).1
def wrOk (w:WrD):Prop:=w.k.Ok∧w.k.vl∧(∀ b∈w.pend,b.toNat<w.k.c)∧w.pend.length≤2000∧isBits w.bits∧w.bits.length≤7∧(w.pend= []∨w.k.longest w.pend=w.pend)∧(w.beg=false→w.pend= []∧w.bits= [])
theorem isBits_codes (o:Int): ∀ (xs:List Int) (k:KnD),isBits (bitsS o k xs):=by
 intro xs
 induction xs with
 |nil=>intro k b hb;cases hb
 |cons x xs ih =>
  intro k b hb
  rcases List.mem_append.1 hb with hb|hb
  ·have:=isBits_packC o [x] [(k.width:Int)]
   simp only [packC,List.append_nil,Int.toNat_natCast] at this
   exact this b hb
  ·exact ih (k.thru x) b hb
theorem wrOk_write {w:WrD} {d:List UInt8} (h:wrOk w) (hl: ∀ b∈d,b.toNat<w.k.c) (hd:(w.pend++d).length≤2000):wrOk (w.write d).1∧(w.write d).1.k.set=w.k.set∧(d≠ []→(w.write d).1.beg=true∧(w.write d).1.pend≠ [])∧ ∃ p,w.pend++d=p++(w.write d).1.pend:=by
 obtain ⟨hk,hv,hp,h2,hb,h7,hw,hn⟩:=h
 by_cases hd0:d= []
 ·subst hd0
  unfold WrD.write
  rw [if_pos rfl]
  exact ⟨⟨hk,hv,hp,h2,hb,h7,hw,hn⟩,rfl,fun h=>absurd rfl h,[],by simp⟩
 obtain ⟨hok,hos⟩:=WrD.open_ok hk
 have hoc:w.open.2.c=w.k.c:=by unfold KnD.c;rw [hos]
 have hov:w.open.2.vl:=by
  unfold WrD.open
  split
  ·exact hv
  ·exact vl_cleared hk
 have hlo: ∀ x∈w.pend++d,x.toNat<w.open.2.c:=fun x hx=>by
  rw [hoc]
  exact (List.mem_append.1 hx).elim (hp x) (hl x)
 obtain ⟨q1,q2,q3,q4,p,q5⟩:=wrC_end (w.pend++d).length w.open.2 (w.pend++d) (Nat.le_refl _) hok hlo
 have q6:=wrC_vl (w.pend++d).length w.open.2 (w.pend++d) hok hov hlo
 have hcc:(w.codes d).2.1.c=w.k.c:=by unfold KnD.c;rw [show (w.codes d).2.1.set=w.open.2.set from q2,hos]
 have q5':w.pend++d=p++(w.codes d).2.2:=q5
 have hob:isBits w.open.1:=by
  unfold WrD.open
  split
  ·exact hb
  ·intro b hb'
   rcases List.mem_append.1 hb' with h|h
   ·exact hb b h
   ·have:=isBits_packC w.k.set.ord [(w.k.c:Int)] [(w.k.width:Int)]
    simp only [packC,List.append_nil,Int.toNat_natCast] at this
    exact this b h
 have hall:isBits (w.all d):=fun b hb'=>by
  rcases List.mem_append.1 hb' with h|h
  ·exact hob b h
  ·exact isBits_codes _ _ _ b h
 unfold WrD.write
 rw [if_neg hd0]
 refine ⟨⟨q1,q6,fun b hb'=>?_,?_,fun b hb'=>hall b (List.mem_of_mem_drop hb'),?_,q3,fun h=>by cases h⟩,q2.trans hos,fun _=>⟨rfl,q4 (by simp [hd0])⟩,p,q5'⟩
 ·show b.toNat<(w.codes d).2.1.c
  rw [hcc,←hoc]
  exact hlo b (by rw [q5'];exact List.mem_append_right _ hb')
 ·have:=congrArg List.length q5'
  have h9:(p++(w.codes d).2.2).length=p.length+(w.codes d).2.2.length:=List.length_append
  rw [h9] at this
  show (w.codes d).2.2.length≤2000
  omega
 ·show ((w.all d).drop ((w.all d).length / 8 * 8)).length≤7
  rw [List.length_drop];omega
end Go.Proofs.YtekogcjdaolcbaaGreatDoor
/- Slices of strings: what can be read, what has been made. Conditions: as each says. -/
namespace Go.Proofs.YtekogcjdaolcbaaGreatDoor
open Go Go.RowKit
theorem infoStr:(Tryz.prog.info? 9).map (fun i=>(i.zero,i.size,i.bytes))=some (some (.string ByteArray.empty),1,16):=by kernel_rfl
def cellsS (l:List ByteArray):List Value:=l.map Value.string
def ArgS (w:World) (v:Value) (l:List ByteArray):Prop:= ∃ a cap,v= .slice a l.length cap∧l.length≤maxLen∧(∀ s∈l,s.size≤maxLen)∧(0<l.length→ ∃ b off,a=some ⟨b,off,none⟩∧l.length≤cap∧cap≤maxLen∧b<w.heap.size∧ ∀ i s,l[i]? =some s→w.cell? ⟨b,off+i,none⟩=some (.string s))
theorem ArgS.up {w w':World} {v:Value} {l:List ByteArray} (h:ArgS w v l) (hu:Up w w'):ArgS w' v l:=by
 obtain ⟨a,cap,h1,h2,h2',h3⟩:=h
 refine ⟨a,cap,h1,h2,h2',fun hp=>?_⟩
 obtain ⟨b,off,e1,e2,e3,e4,e5⟩:=h3 hp
 exact ⟨b,off,e1,e2,e3,Nat.lt_of_lt_of_le e4 hu.size,fun i p hi=>(hu.cell (p:=⟨b,_,none⟩) e4).trans (e5 i p hi)⟩
def ownS (w:World) (base:Nat) (v:Value) (l:List ByteArray):Prop:=w.ownsRow base 9 1 v l.length (cellsS l)
theorem ArgS.of_own {w:World} {base:Nat} {v:Value} {l:List ByteArray} (h:ownS w base v l) (hs: ∀ s∈l,s.size≤maxLen):ArgS w v l:=by
 rcases ownsRow_read h with ⟨rfl,h2⟩|⟨g,cap,rfl,h1,h2,h3,h4,h5⟩
 ·exact ⟨none,0,by rw [h2],by rw [h2];exact Nat.zero_le _,hs,fun h=>by omega⟩
 ·refine ⟨some ⟨g,0,none⟩,cap,rfl,by omega,hs,fun _=>⟨g,0,rfl,h1,h2,h4,fun i x hi=>?_⟩⟩
  rw [Nat.zero_add]
  refine h5 _ _ ?_
  simp [cellsS,hi]
theorem ArgS.at {w:World} {a:Option Addr} {n c:Nat} {l:List ByteArray} (h:ArgS w (.slice a n c) l) {i:Nat} (hi:i<l.length): ∃ b off,a=some ⟨b,off,none⟩∧b<w.heap.size∧w.cell? ⟨b,off+i,none⟩=some (.string l[i])∧n=l.length∧n≤c∧c≤maxLen:=by
 obtain ⟨a',c',e,h1,h2,h3⟩:=h
 cases e
 obtain ⟨b,off,e1,e2,e3,e4,e5⟩:=h3 (by omega)
 exact ⟨b,off,e1,e4,e5 i _ (List.getElem?_eq_getElem hi),rfl,e2,e3⟩
def midS (l:List ByteArray) (k:Nat):List ByteArray:=l.take k++List.replicate (l.length - k) ByteArray.empty
theorem midS_all (l:List ByteArray):midS l l.length=l:=by simp [midS]
theorem midS_zero (l:List ByteArray):midS l 0=List.replicate l.length ByteArray.empty:=by simp [midS]
theorem midS_set (l:List ByteArray) (k:Nat) (h:k<l.length):(cellsS (midS l k)).set k (.string l[k])=cellsS (midS l (k+1)):=by
 have e:List.replicate (l.length - k) ByteArray.empty=ByteArray.empty :: List.replicate (l.length - (k+1)) ByteArray.empty:=by
  rw [show l.length - k=(l.length - (k+1))+1 by omega];rfl
 rw [midS,midS,e,List.take_succ_eq_append_getElem h]
 unfold cellsS
 simp only [List.map_append,List.map_cons,List.map_nil,List.append_assoc,List.cons_append,List.nil_append]
 rw [List.set_append_right _ _ (by simp;omega)]
 simp [List.length_take,Nat.min_eq_left (Nat.le_of_lt h)]
theorem midS_at (l:List ByteArray) (k:Nat) (h:k<l.length):(cellsS (midS l k))[k]? =some (.string ByteArray.empty):=by
 unfold cellsS midS
 rw [List.getElem?_map,List.getElem?_append_right (by simp;omega),List.getElem?_replicate,if_pos (by simp;omega)]
 rfl
theorem made_listS (n:Nat):(madeCells #[Value.string ByteArray.empty] n).toList.take n=List.replicate n (Value.string ByteArray.empty):=by
 apply List.ext_getElem
 ·simp [madeCells]
 ·intro i h1 h2
  simp [madeCells,Nat.mod_one]
theorem made_strs (w:World) (n:Nat) (hn:n≤maxLen):(w.alloc (.cells (madeCells #[.string ByteArray.empty] n) 9)).ownsRow w.heap.size 9 1 (.slice (some ⟨w.heap.size,0,none⟩) n n) n (cellsS (List.replicate n ByteArray.empty)):=by
 refine ⟨by simp [cellsS],.inr ⟨w.heap.size,n,_,rfl,Nat.le_refl _,(MapKept.heap_alloc w _).1,Nat.le_refl _,hn,?_,?_⟩⟩
 ·simp [madeCells]
 ·rw [Nat.mul_one,made_listS];simp [cellsS]
end Go.Proofs.YtekogcjdaolcbaaGreatDoor
/- Walks of the program's functions on bits. Conditions: as each says. -/
namespace Go.Proofs.YtekogcjdaolcbaaGreatDoor
open Go Go.RowKit
set_option maxRecDepth 100000 in
set_option maxHeartbeats 1000000 in
theorem placeI_any (o:Int) (i wd:Nat) (w:World) (ho:o=0∨o=1) (h:i<wd) (hw:wd≤16) :
  Calls Tryz.prog 98  #[.int .i64 o,.int .i64 i,.int .i64 wd] w (fun e w'=>e= .returned (.int .i64 ((2 ^ plc o i wd:Nat):Int))∧w=w'):=by
 rcases ho with rfl|rfl
 ·have e:Hid (((2 ^ plc 0 i wd:Nat):Int)=2 ^ i):=by unfold Hid plc;simp
  have hp:=pow2_small (n:=i) (by omega)
  go_enter Tryz.func98,Tryz.ntmps98
  go_wp2
  go_ret
  refine ⟨ret_int (by first|(rw [e.out];done)|(rw [e.out,IntWalk.wrap64_in _ (by omega)])),rfl⟩
 ·obtain ⟨m,rfl⟩: ∃ m,wd=i+1+m:=⟨wd - 1 - i,by omega⟩
  have e:Hid (((2 ^ plc 1 i (i+1+m):Nat):Int)=2 ^ m):=by unfold Hid plc;rw [if_pos rfl,show i+1+m - 1 - i=m by omega];simp
  have hp:=pow2_small (n:=m) (by omega)
  go_enter Tryz.func98,Tryz.ntmps98
  go_wp2
  go_ret
  refine ⟨ret_int (by rw [e.out];first|rfl|(rw [IntWalk.wrap64_in _ (by omega)])|(rw [show i+1+m - 1 - i=m by omega,IntWalk.wrap64_in _ (by omega)])),rfl⟩
theorem ownsRow_n2 {w:World} {base:Nat} {e:TypeId} {size n n':Nat} {v:Value} {xs:List Value} (h:w.ownsRow base e size v n xs) (hn:n=n'):w.ownsRow base e size v n' xs:=hn▸h
def RelAB (o:Int) (n wd:Nat) (d:List UInt8) (a0:World) (v i:Value) (wr:World):Prop:= ∃ j:Nat,i= .int .i64 j∧j≤wd∧ownU wr a0.heap.size v (d++(codeL o n wd).take j)∧Up a0 wr
theorem ownU_shape {w:World} {base:Nat} {v:Value} {d:List UInt8} (h:ownU w base v d): ∃ a c,v= .slice a d.length c:=ownsRow_shape h
theorem ownU_snoc {w:World} {base n:Nat} {v:Value} {d:List UInt8} {b:UInt8} {x:Int} (hx:x=(b.toNat:Int)) (hn:n=d.length+1) (h:w.ownsRow base 5 1 v n (cellsU d++ [.int .u8 x])):ownU w base v (d++ [b]):=by
 subst hx;subst hn
 unfold ownU
 rw [cellsU_app,List.length_append]
 exact h
set_option maxRecDepth 100000 in
set_option maxHeartbeats 4000000 in
theorem bitsI_any (a0:World) (o:Int) (n wd:Nat) (v:Value) (d:List UInt8) (w:World) (ho:o=0∨o=1) (hn:n≤1048576) (hw:wd≤16) (hd:d.length≤1048576) (hu:Up a0 w) (hown:ownU w a0.heap.size v d) :
  Calls Tryz.prog 95  #[v,.int .i64 o,.int .i64 n,.int .i64 wd] w (fun e w'=> ∃ v',e= .returned v'∧ownU w' a0.heap.size v' (d++codeL o n wd)∧Up a0 w'):=by
 obtain ⟨j0,hj,hy0,hy1,hy2⟩:=info_parts infoByte
 have hall:(codeL o n wd).take wd=codeL o n wd:=List.take_of_length_le (by rw [codeL_length];exact Nat.le_refl _)
 have HO:=Lib.hid hown
 have HU:=Lib.hid hu
 have HA:=Lib.hid hall
 have ho1:=ho
 obtain ⟨av,cv,rfl⟩:=ownU_shape hown
 clear hu hown hall
 go_enter Tryz.func95,Tryz.ntmps95
 go_wp2
 go_loopw [0,12] (fun v i wr=>RelAB o n wd d a0 v i wr) (fun _ i _=>wd - (intOf i).toNat)
 case atStart=>exact ⟨0,rfl,Nat.zero_le _,by rw [List.take_zero,List.append_nil];exact HO.out,HU.out⟩
 case round =>
  clear HO HU
  obtain ⟨j,rfl,hj1,hown,hup⟩:=hrel
  have hl:(d++(codeL o n wd).take j).length=d.length+j:=by rw [List.length_append,List.length_take,codeL_length];omega
  by_cases hlt:j<wd
  ·have cP:=fun w=>placeI_any o j wd w ho1 hlt hw
   have hk:=and_pow n (plc o j wd) hn (by have:=plc_lt (o:=o) hlt;omega)
   have hdig:=Lib.hid (digit_if n (plc o j wd))
   have hT:=Lib.hid (codeL_take ho1 (n:=n) hlt)
   have hq0:0<2 ^ plc o j wd:=Nat.two_pow_pos _
   generalize bitB n (plc o j wd)=bb at *
   by_cases hb:n / 2 ^ plc o j wd % 2=1
   ·rw [if_pos hb] at hk hdig
    have hown2:=ownsRow_n2 hown hl
    have HW:=Lib.hid hown2
    have HUP:=Lib.hid hup
    obtain ⟨ar,cr,rfl⟩:=ownsRow_shape hown2
    clear hb hown hown2 hup
    generalize 2 ^ plc o j wd=q at *
    go_wp2_with (first|(go_at_call 98;(with_reducible refine (cP _).mono ?_);rintro e w' ⟨rfl,rfl⟩)|(at_builtin;refine wpList_append_own _ rfl _ _ 22 rfl a0.heap.size 5 j0 (.int .u8 0) 1 1 Tryz.underlying22 hj hy0 hy1 hy2 rfl (by decide) _ _ _ rfl (ownsRow_up HW.out (Up.alloc (Up.refl _) _)) ⟨wr.heap.size,0,none⟩ 1 1 [.int .u8 49] rfl rfl (new_cells [.int .u8 49] _ rfl) (by intro u hu;simp at hu;subst hu;rfl) (by unfold maxLen;omega) (by omega) (by have:=HUP.out.size;simp;omega) ?_;rintro v4 w4 hown4 hgr4 -;have HG:=Lib.hid (And.intro hown4 hgr4);clear hown4 hgr4))
    go_roundw
    case rel=>exact ⟨j+1,by go_num,by omega,by rw [hT.out,←List.append_assoc];exact ownU_snoc hdig.out (by omega) HG.out.1,(HUP.out.alloc _).grown HG.out.2 (fun b hb=>(HW.out.lt b hb).1)⟩
    case measure=>simp [intOf];omega
   ·rw [if_neg hb] at hk hdig
    have hown2:=ownsRow_n2 hown hl
    have HW:=Lib.hid hown2
    have HUP:=Lib.hid hup
    obtain ⟨ar,cr,rfl⟩:=ownsRow_shape hown2
    clear hb hown hown2 hup
    generalize 2 ^ plc o j wd=q at *
    go_wp2_with (first|(go_at_call 98;(with_reducible refine (cP _).mono ?_);rintro e w' ⟨rfl,rfl⟩)|(at_builtin;refine wpList_append_own _ rfl _ _ 22 rfl a0.heap.size 5 j0 (.int .u8 0) 1 1 Tryz.underlying22 hj hy0 hy1 hy2 rfl (by decide) _ _ _ rfl (ownsRow_up HW.out (Up.alloc (Up.refl _) _)) ⟨wr.heap.size,0,none⟩ 1 1 [.int .u8 48] rfl rfl (new_cells [.int .u8 48] _ rfl) (by intro u hu;simp at hu;subst hu;rfl) (by unfold maxLen;omega) (by omega) (by have:=HUP.out.size;simp;omega) ?_;rintro v4 w4 hown4 hgr4 -;have HG:=Lib.hid (And.intro hown4 hgr4);clear hown4 hgr4))
    go_roundw
    case rel=>exact ⟨j+1,by go_num,by omega,by rw [hT.out,←List.append_assoc];exact ownU_snoc hdig.out (by omega) HG.out.1,(HUP.out.alloc _).grown HG.out.2 (fun b hb=>(HW.out.lt b hb).1)⟩
    case measure=>simp [intOf];omega
  ·have e:j=wd:=by omega
   subst e
   rw [HA.out] at hown
   have HW:=Lib.hid hown
   obtain ⟨ar,cr,rfl⟩:=ownU_shape hown
   clear hown
   go_wp2
   go_ret
   exact ⟨_,rfl,HW.out,hup⟩
def RelBV (n:Nat) (i:Value) (w wr:World):Prop:= ∃ j:Nat,i= .int .i64 j∧j≤n∧w=wr
set_option maxRecDepth 100000 in
set_option maxHeartbeats 1000000 in
theorem bitsVI_any (s:ByteArray) (w:World) (hb:isBits s.data.toList) (hs:s.size≤32000) :
  Calls Tryz.prog 65  #[.string s] w (fun e w'=>e= .returned (.bool true)∧w=w'):=by
 have hlen:=ba_len s
 have HB:=Lib.hid hb
 clear hb
 go_enter Tryz.func65,Tryz.ntmps65
 go_wp2
 go_loopw [9] (fun i wr=>RelBV s.size i w wr) (fun i _=>s.size - (intOf i).toNat)
 case atStart=>exact ⟨0,rfl,Nat.zero_le _,rfl⟩
 case round =>
  obtain ⟨j,rfl,hj,rfl⟩:=hrel
  by_cases hlt:j<s.size
  ·have hbit:=HB.out s[j] (by
    have e:s[j]=s.data.toList[j]'(by omega):=rfl
    rw [e];exact List.getElem_mem _)
   rcases hbit with h1|h1
   ·go_wp2
    go_roundw
    case rel=>exact ⟨j+1,by go_num,by omega,rfl⟩
    case measure=>simp [intOf];omega
   ·go_wp2
    go_roundw
    case rel=>exact ⟨j+1,by go_num,by omega,rfl⟩
    case measure=>simp [intOf];omega
  ·go_wp2
   go_ret
   exact ⟨rfl,rfl⟩
def RelPB (o:Int) (l:List UInt8) (w:World) (v f:Value) (wr:World):Prop:= ∃ k n:Nat,f= .int .i64 (n:Int)∧n=8 * k∧n≤l.length+7∧ownU wr w.heap.size v ((packL o l).take k)∧Up w wr
def RelPI (o:Int) (c:List UInt8) (m:Nat) (b i:Value) (W wr:World):Prop:= ∃ j:Nat,i= .int .i64 j∧j≤m∧b= .int .i64 (sumB o c j)∧W=wr
set_option maxRecDepth 100000 in
set_option maxHeartbeats 4000000 in
theorem packI_any (o:Int) (s:ByteArray) (w:World) (ho:o=0∨o=1) (hb:isBits s.data.toList) (hs:s.size≤1048576) :
  Calls Tryz.prog 41  #[.int .i64 o,.string s] w (Same (.string (bs (packL o s.data.toList))) w):=by
 obtain ⟨j0,hj,hy0,hy1,hy2⟩:=info_parts infoByte
 have hlen:=ba_len s
 have HB:=Lib.hid hb
 have ho1:=ho
 clear hb
 go_enter Tryz.func41,Tryz.ntmps41
 go_wp2
 go_loopw [5,6] (fun v f wr=>RelPB o s.data.toList w v f wr) (fun _ f _=>s.size+8 - (intOf f).toNat)
 case atStart=>exact ⟨0,0,rfl,rfl,by omega,World.ownsRow_nil _ _ _ _,Up.refl _⟩
 case round =>
  obtain ⟨k,f,rfl,hf,hk,hown,hup⟩:=hrel
  by_cases hlt:f<s.size
  ·have hkl:8 * k<s.data.toList.length:=by omega
   have hnum:=chunk_num ho1 HB.out hkl
   have HT:=Lib.hid (packL_take o s.data.toList hkl)
   have HC:Hid (∀ j (h:8 * k+j<s.size),j<8→(chunk s.data.toList k).getD j 0=s[8 * k+j]):=fun j h h8=>chunk_at (by omega) h8
   have hnb:=numL_bd (o:=o) (chunk_bits HB.out k)
   rw [chunk_length hkl] at hnb
   have hsb:=fun j hj=>sumB_bd o (chunk s.data.toList k) j hj
   have hplen:((packL o s.data.toList).take k).length=k:=by rw [List.length_take,packL_length];omega
   rw [hlen] at hnum
   generalize chunk s.data.toList k=c at *
   obtain ⟨m,hm⟩: ∃ m,m=min 8 (s.size - 8 * k):=⟨_,rfl⟩
   rw [← hm] at hnum
   have HN:=Lib.hid hnum
   have hm8:m≤8:=by omega
   have hms:8 * k+m≤s.size:=by omega
   have hm3:((m:Nat):Int)=min 8 ((s.size:Int) - ((8 * k:Nat):Int)):=by omega
   have HM:=Lib.hid hm3
   have hown2:=ownsRow_n2 hown hplen
   have HW:=Lib.hid hown2
   have HUP:=Lib.hid hup
   obtain ⟨ar,cr,rfl⟩:=ownsRow_shape hown2
   clear hown hown2 hup hnum hm hm3
   rw [← hf] at HM HC hms
   have HF:=Lib.hid hf
   clear hf
   go_wp2
   all_goals
    go_loopw [7,20] (fun b i wr'=>RelPI o c m b i wr wr') (fun _ i _=>m - (intOf i).toNat)
    case atStart=>exact ⟨0,rfl,Nat.zero_le _,rfl,rfl⟩
    case round =>
     obtain ⟨j,rfl,hj2,rfl,rfl⟩:=hrel
     have hmm:=HM.out
     by_cases hlj:j<m
     ·have hbb:=hsb j (by omega)
      have hC:=HC.out j (by omega) (by omega)
      have cP: ∀ w,Calls Tryz.prog 98  #[.int .i64 o,.int .i64 j,.int .i64 8] w (fun e w'=>e= .returned (.int .i64 ((2 ^ plc o j 8:Nat):Int))∧w=w'):=fun w=>placeI_any o j 8 w ho1 (by omega) (by omega)
      have hpl:2 ^ plc o j 8≤2 ^ 7:=Nat.pow_le_pow_right (by decide) (by have:=plc_lt (o:=o) (show j<8 by omega);omega)
      have HS:Hid (sumB o c (j+1)=sumB o c j+(if (s[f+j]).toNat=49 then ((2 ^ plc o j 8:Nat):Int) else 0)):=by unfold Hid;rw [sumB,hC]
      have hfj:f+j<s.size:=by omega
      clear hC hsb HC HN HT
      generalize sumB o c j=b at *
      generalize 2 ^ plc o j 8=q at *
      by_cases h49:s[f+j].toNat=49
      ·rw [if_pos h49] at HS
       go_wp2_with ((go_at_call 98;(with_reducible refine (cP _).mono ?_);rintro e w' ⟨rfl,rfl⟩))
       go_roundw
       case rel=>exact ⟨j+1,by go_num,by omega,by rw [HS.out],rfl⟩
       case measure=>simp [intOf];omega
      ·rw [if_neg h49] at HS
       go_wp2_with ((go_at_call 98;(with_reducible refine (cP _).mono ?_);rintro e w' ⟨rfl,rfl⟩))
       go_roundw
       case rel=>exact ⟨j+1,by go_num,by omega,by rw [HS.out,Int.add_zero],rfl⟩
       case measure=>simp [intOf];omega
     ·have e:j=m:=by omega
      subst e
      rw [HN.out]
      have hub:=ub_nat hnb.1 (by have:=hnb.2;omega:numL o c<256)
      generalize numL o c=nb at *
      have HUB:=Lib.hid hub
      have hnb1:=hnb.1
      have hnb2:nb<256:=by have:=hnb.2;omega
      clear HC hsb hub hnb HN
      go_wp2_with (at_builtin;refine wpList_append_own _ rfl _ _ 22 rfl w.heap.size 5 j0 (.int .u8 0) 1 1 Tryz.underlying22 hj hy0 hy1 hy2 rfl (by decide) _ _ _ rfl (ownsRow_up HW.out (Up.alloc (Up.refl _) _)) ⟨wr.heap.size,0,none⟩ 1 1 [.int .u8 nb] rfl rfl (new_cells [.int .u8 nb] _ rfl) (by intro u hu;simp at hu;subst hu;rfl) (by unfold maxLen;omega) (by omega) (by have:=HUP.out.size;simp;omega) ?_;rintro v4 w4 hown4 hgr4 -;have HG:=Lib.hid (And.intro hown4 hgr4);clear hown4 hgr4)
      go_roundw
      case rel=>exact ⟨k+1,f+8,by go_num,by have:=HF.out;omega,by have:=HF.out;omega,by rw [HT.out];exact ownU_snoc HUB.out.symm (by omega) HG.out.1,(HUP.out.alloc _).grown HG.out.2 (fun b hb=>(HW.out.lt b hb).1)⟩
      case measure=>simp [intOf];omega
  ·have hall:(packL o s.data.toList).take k=packL o s.data.toList:=List.take_of_length_le (by rw [packL_length];omega)
   rw [hall] at hown
   obtain ⟨ar,cr,rfl⟩:=ownU_shape hown
   have hconv:=conv_any hown rfl
   have HUP:=Lib.hid hup
   clear hown hup hall
   go_wp2
   go_ret
   exact ⟨rfl,HUP.out⟩
end Go.Proofs.YtekogcjdaolcbaaGreatDoor
/- As wp_region_own, but stores, moves, extracts and assignments may stand at the end, each behind all that it needs. Conditions: those of the theorem wp_region_ownf. -/
namespace Go.Proofs.YtekogcjdaolcbaaGreatDoor
open Go Go.RowKit
section
variable {P:Program}
theorem wp_region_ownf (n0 j0:Nat) (row:Option Nat) {id:Nat} {Q:Exit→Act→World→Prop} {a:Act} {w:World} {l:List Oper} (hm:P.follows .mixedOrders=true) (hB:flB l.toArray n0=true)
  (h:WG P l.toArray w row j0 (fun a' w'=>wpList P l.toArray (onlyN Q) (l.drop n0) a' w') (l.take n0) 0 [] a):(Code.region id l.toArray true).wp P Q a w:=by
 have T:=flB_text hB
 have hle:n0≤l.length:=by simpa using T.le
 obtain ⟨D,hU,hT,hZ⟩:=wpG_text (R:=gR row j0) (Kc:=gK row j0) (C:=gC w row j0) (Z:=fun a' w'=>wpList P l.toArray (onlyN Q) (l.drop n0) a' w') (a0:=a) (n0:=n0) T.c (l.take n0) 0 [] a (fun _=>False) (fun _=>undef) (fun _ _ _=>False) (by simp [hle]) (fun j hj=>by
  simp only [List.length_take] at hj
  simp [show j<n0 by omega]) ⟨(Desc.refl a (fun _=>undef)).congr (fun i=>by simp) (fun _ h=>h.elim),fun i hi=>absurd hi (Nat.not_lt_zero _),fun m hm=>(by cases hm),fun i hi=>absurd hi (Nat.not_lt_zero _)⟩
  (fun i hi=>absurd hi (Nat.not_lt_zero _)) (fun j o hj=>absurd hj (Nat.not_lt_zero _)) h.out
 refine wp_region_any hm (wpAny_gf (R:=gR row j0) (Kc:=gK row j0) (C:=gC w row j0) (I:=fun S w'=>w.grownBy w' row∧(¬ S j0→Up w w')) (fun S w' j hI hS=>?_) (fun S w1 w2 j hI hS hR=>?_) (fun j w'=>?_) (fun k j w1 w2 hne hR=>?_) (a0:=a) (Q:=Q) (Q':=onlyN Q) T (fun _ _ h=>h) (fun _ _ _ h=>h) onlyN_out hU hT (by simpa using hZ) _ (List.range n0) _ a _ (fun _=>undef) (by simp;omega) (fun i hi _=>List.mem_range.2 hi) (fun i hi=>?_) (by simp) (fun i hi his=>by
  have:i<l.length:=by simpa using his
  simp [this]) (fun j o ho hj=>?_) ?_ ?_ ?_)
 ·unfold gC
  split
  ·next e=>subst e;exact hI.2 hS
  ·exact hI.1
 ·unfold gR at hR
  split at hR
  ·next e=>subst e;exact ⟨grownBy_trans hI.1 hR,fun h=>absurd (.inr rfl) h⟩
  ·next e=>exact ⟨grownBy_up hI.1 hR,fun h=>(hI.2 fun h'=>h (.inl h')).trans hR⟩
 ·unfold gR
  split
  ·exact grownBy_refl _ _
  ·exact Up.refl _
 ·unfold gR at hR
  unfold gK
  split at hR
  ·next e=>subst e;rw [if_neg (fun e=>hne e.symm)];exact hR
  ·split
   ·exact hR
   ·exact up_grownBy hR _
 ·have hin:=List.mem_range.1 hi
  have:i<l.length:=by omega
  exact ⟨hin,by simp [this]⟩
 ·rw [getD_replicate_false] at hj;cases hj
 ·exact ⟨up_grownBy (Up.drew (Up.refl w)) _,fun _=>Up.drew (Up.refl w)⟩
 ·exact (Desc.refl a (fun _=>undef)).congr (fun i=>by rw [getD_replicate_false];simp) (fun _ h=>h.elim)
 ·intro i hi;rw [getD_replicate_false] at hi;cases hi
end
end Go.Proofs.YtekogcjdaolcbaaGreatDoor
/- Walk of the program's forget, which takes the pairs behind the base out of the tree of words. Conditions: the tree lies in memory, what is known is valid. -/
namespace Go.Proofs.YtekogcjdaolcbaaGreatDoor
open Go Go.RowKit
def HoldsN (ns:List NodD) (m:Nat) (xs:List Value):Prop:= ∀ i,i<ns.length→xs[i * 6]? =some (.int .i64 (nodAt ns i).par)∧(i<m→xs[i * 6+1]? =some (.int .i64 (lastCh ns i m)))∧xs[i * 6+2]? =some (.int .i64 (if (nodAt ns i).par<0 then -1 else lastCh ns (nodAt ns i).par i)) ∧
  xs[i * 6+3]? =some (.int .u8 (nodAt ns i).las)∧xs[i * 6+4]? =some (.int .u8 (nodAt ns i).fir)∧xs[i * 6+5]? =some (.int .i64 (nodAt ns i).cod)
theorem holdsN_all (ns:List NodD):HoldsN ns ns.length (cellsN ns):=fun i hi =>
 ⟨by have:=cellsN_get ns hi (j:=0) (by omega);rw [Nat.add_zero] at this;exact this,fun _=>cellsN_get ns hi (j:=1) (by omega),cellsN_get ns hi (j:=2) (by omega),cellsN_get ns hi (j:=3) (by omega),cellsN_get ns hi (j:=4) (by omega),cellsN_get ns hi (j:=5) (by omega)⟩
theorem HoldsN.pop {ns:List NodD} {m p:Nat} {xs:List Value} (h:HoldsN ns (m+1) xs) (hm:m<ns.length) (hp:(nodAt ns m).par=p) (hpm:p<m):HoldsN ns m (xs.set (p * 6+1) (.int .i64 (lastCh ns p m))):=by
 intro i hi
 obtain ⟨h0,h1,h2,h3,h4,h5⟩:=h i hi
 have hs: ∀ o,o≠p * 6+1→(xs.set (p * 6+1) (.int .i64 (lastCh ns p m)))[o]? =xs[o]? :=fun o ho=>List.getElem?_set_ne (Ne.symm ho)
 refine ⟨by rw [hs _ (by omega)];exact h0,fun him=>?_,by rw [hs _ (by omega)];exact h2,by rw [hs _ (by omega)];exact h3,by rw [hs _ (by omega)];exact h4,by rw [hs _ (by omega)];exact h5⟩
 by_cases hip:i=p
 ·subst hip
  have h6:=(List.getElem?_eq_some_iff.1 (h1 (by omega))).1
  rw [List.getElem?_set_self h6]
 ·rw [hs _ (by omega),h1 (by omega)]
  rw [lastCh,if_neg (by omega)]
theorem HoldsN.take {ns:List NodD} {m:Nat} {xs:List Value} (h:HoldsN ns m xs) (hm:m≤ns.length) (hx:xs.length=ns.length * 6):xs.take (m * 6)=cellsN (ns.take m):=by
 have hl:(ns.take m).length=m:=by rw [List.length_take];omega
 have hL:=cellsN_length (ns.take m)
 rw [hl] at hL
 apply List.ext_getElem?
 intro q
 by_cases hq:q<m * 6
 ·rw [List.getElem?_take,if_pos hq,cellsN_at (ns.take m) (by rw [hl];exact hq),hl]
  obtain ⟨h0,h1,h2,h3,h4,h5⟩:=h (q / 6) (by omega)
  have h1:=h1 (by omega)
  unfold nodC
  rw [nodAt_take ns (by omega:q / 6<m),lastCh_take ns _ m m (Nat.le_refl _),lastCh_take ns _ m (q / 6) (by omega)]
  have e:q=q / 6 * 6+q % 6:=by omega
  rcases (by omega:q % 6=0∨q % 6=1∨q % 6=2∨q % 6=3∨q % 6=4∨q % 6=5) with r|r|r|r|r|r
  all_goals rw [r] at e ⊢;conv=>lhs;rw [e]
  ·exact h0
  ·exact h1
  ·exact h2
  ·exact h3
  ·exact h4
  ·exact h5
 ·rw [List.getElem?_eq_none (by rw [List.length_take];omega),List.getElem?_eq_none (by omega)]
theorem HoldsN.cells {ns:List NodD} {m g cap n base:Nat} {xs:List Value} {w:World} (h:HoldsN ns m xs) (hr:w.ownsRow base 125 6 (.slice (some ⟨g,0,none⟩) n cap) n xs) {i:Nat} (hi:i<ns.length):w.cell? ⟨g,i * 6,none⟩=some (.int .i64 (nodAt ns i).par)∧w.cell? ⟨g,i * 6+2,none⟩=some (.int .i64 (if (nodAt ns i).par<0 then -1 else lastCh ns (nodAt ns i).par i))∧w.cell? ⟨g,i * 6+5,none⟩=some (.int .i64 (nodAt ns i).cod):=by
 obtain ⟨h0,h1,h2,h3,h4,h5⟩:=h i hi
 exact ⟨ownsRow_cell hr h0,ownsRow_cell hr h2,ownsRow_cell hr h5⟩
theorem ownsRow_cut {w:World} {base:Nat} {e:TypeId} {size n m c:Nat} {a:Option Addr} {xs:List Value} (h:w.ownsRow base e size (.slice a n c) n xs) (hm:m≤n):w.ownsRow base e size (.slice a m c) m (xs.take (m * size)):=by
 have hx:=h.1
 have hmn:m * size≤n * size:=Nat.mul_le_mul_right _ hm
 refine ⟨by rw [List.length_take,hx];omega,?_⟩
 rcases h.2 with ⟨hv,hn⟩|⟨g,cap,cur,hv,hb,hg,hnc,hcm,hsz,ht⟩
 ·cases hv
  exact .inl ⟨by rw [show m=0 by omega],by omega⟩
 ·cases hv
  refine .inr ⟨g,c,cur,rfl,hb,hg,by omega,hcm,hsz,?_⟩
  rw [← ht,List.take_take,Nat.min_eq_left hmn]
theorem box_oth6 {w:World} {b:Nat} {o:Obj} (h:w.heap[b]? =some o) {p:Addr} (hp:b≠p.block) (u:Value):(w.setCell p u).heap[b]? =some o:=by
 rw [Below.heap_setCell _ _ _ _ hp];exact h
theorem cellsPr_take (l:List PairD) (b:Nat):(cellsPr l).take (b * 2)=cellsPr (l.take b):=by
 induction l generalizing b with
 |nil=>simp [cellsPr]
 |cons p l ih =>
  cases b with
  |zero=>simp [cellsPr]
  |succ b =>
   show (prC p++cellsPr l).take ((b+1) * 2)=prC p++cellsPr (l.take b)
   rw [← ih,show (b+1) * 2=(prC p).length+b * 2 by simp [prC];omega,List.take_length_add_append]
theorem ownsRow_cap {w:World} {base:Nat} {e:TypeId} {size n c:Nat} {a:Option Addr} {xs:List Value} (h:w.ownsRow base e size (.slice a n c) n xs):n≤c∧c≤9223372036854775807:=by
 rcases h.2 with ⟨hv,hn⟩|⟨g,cap,cur,hv,_,_,h1,h2,_⟩
 ·cases hv;exact ⟨Nat.le_refl _,by omega⟩
 ·cases hv;unfold maxLen at h2;exact ⟨h1,by omega⟩
def KnD.cut (k:KnD):KnD:=⟨k.set,k.ps.take k.base.toNat,k.base,k.last⟩
structure FgAt (lo tb:Nat) (k:KnD) (vp vi:Value) (O:Nat→Prop) (g cap M:Nat) (w:World) (m:Nat) (xs:List Value) (wr:World):Prop where
 ge:M≤m
 le:m≤k.tree.ns.length
 box:TrBox tb k vp (.slice (some ⟨g,0,none⟩) k.tree.ns.length cap) vi wr
 prs:wr.ownsRow lo 133 2 vp k.ps.length (cellsPr k.ps)
 idx:wr.ownsRow lo 3 1 vi k.tree.ix.length (cellsI (k.tree.ix.map Int.ofNat))
 row:wr.ownsRow lo 125 6 (.slice (some ⟨g,0,none⟩) k.tree.ns.length cap) k.tree.ns.length xs
 hold:HoldsN k.tree.ns m xs
 fr:Fr O w wr
def RelFg (lo tb:Nat) (k:KnD) (vp vi:Value) (O:Nat→Prop) (g cap M:Nat) (w:World) (n:Value) (wr:World):Prop:= ∃ (m:Nat) (xs:List Value),n= .int .i64 m∧FgAt lo tb k vp vi O g cap M w m xs wr
set_option maxRecDepth 100000 in
set_option maxHeartbeats 8000000 in
theorem forget_any (lo tb:Nat) (k:KnD) (vp vn vi:Value) (w:World) (h:TreeAt lo tb k vp vn vi w) (hk:k.Tr) (hb0:0≤k.base) (hb1:k.base≤k.ps.length) :
  Calls Tryz.prog 144  #[.pointer (some ⟨tb,0,none⟩)] w (fun e w'=>(∃ v,e= .returned v)∧TrPost lo tb k.cut vp vn vi w w'):=by
 have cE:=fun w=>endI_any k.set w hk.set
 obtain ⟨b,hb⟩: ∃ b:Nat,k.base=b:=⟨k.base.toNat,by omega⟩
 have hbl:b≤k.ps.length:=by omega
 obtain ⟨hb2,hb3,hb4⟩:=clr_le hk.set
 have hlen:=hk.len
 have hns2:k.tree.ns.length≤2000:=by have:=hk.tree.hi;have:=hk.c_bd;omega
 obtain ⟨t1,t2,t3,t4,t5⟩:=treeF_take hk.c_bd.2.1 hk.ps b hbl
 have hM:=(treeF_ok hk.c_bd.2.1 (hk.ps.take b)).lo
 have hpar:=hk.tree.par
 have hcut:Hid (k.cut.tree=treeF k.c (k.ps.take b)):=by unfold Hid KnD.cut KnD.tree;rw [hb];rfl
 have HT:=Lib.hid (And.intro t1 t2)
 have hixl:k.tree.ix.length=k.ps.length:=treeF_ixl _ _
 change (treeF k.c (k.ps.take b)).ns.length≤k.tree.ns.length at t3
 change ∀ i,(treeF k.c (k.ps.take b)).ns.length≤i→i<k.tree.ns.length→(k.c:Int)+2+b≤(nodAt k.tree.ns i).cod at t4
 change ∀ i,i<(treeF k.c (k.ps.take b)).ns.length→(nodAt k.tree.ns i).cod<(k.c:Int)+2+b at t5
 generalize hMe:(treeF k.c (k.ps.take b)).ns.length=M at *
 have ec:k.c=clr k.set:=rfl
 rw [ec] at t4 t5
 obtain ⟨c0,c1,c2,c3,c4,c5,c6,c7⟩:=h.cells
 have hfr:=box_free h.box
 have htb:=h.lt
 obtain ⟨g,cap,rfl,hg1,hg2,hg3,hg4,hg5,-⟩:=h.nodes hk
 obtain ⟨ap,cp,rfl⟩:=h.shape
 obtain ⟨ai,ci,rfl⟩:=ownsRow_shape h.idx
 have H:=Lib.hid h
 have hlo:=h.low
 obtain ⟨hcap1,hcap2⟩:=ownsRow_cap h.prs
 obtain ⟨hcap3,hcap4⟩:=ownsRow_cap h.idx
 have hcap5:b≤cp:=by omega
 have hcap6:b≤ci:=by omega
 clear hcap1 hcap3
 have hbp:(k.ps.length:Int)≤2000:=by omega
 rw [hb] at c4
 clear h t1 t2
 unfold maxLen at hg2
 have hcb:(clr k.set:Int)+1+1+b=clr k.set+2+b:=by omega
 go_enter Tryz.func144,Tryz.ntmps144
 go_wp2_with (first|((go_at_call 58;(with_reducible refine (cE _).mono ?_);rintro e w1 ⟨rfl,U1⟩;have B1:=bcell U1;have Z1:=U1.size;(try simp at Z1);(try rw [Nat.add_one_le_iff] at Z1));clear B1;obtain ⟨c0,c1,c2,c3,c4,c5,c6,c7⟩:=(H.out.up U1).cells;have hfr:=box_free (H.out.up U1).box))
 have hT1:=H.out.up U1
 clear c0 c1 c2 c3 c4 c5 c6 c7 hfr cE
 go_loopw [4] (fun n wr=>RelFg lo tb k (.slice ap k.ps.length cp) (.slice ai k.tree.ix.length ci) (Own tb (.slice ap k.ps.length cp) (.slice (some ⟨g,0,none⟩) k.tree.ns.length cap) (.slice ai k.tree.ix.length ci)) g cap M w1 n wr) (fun n _=>(intOf n).toNat)
 case atStart=>exact ⟨k.tree.ns.length,cellsN k.tree.ns,rfl,t3,Nat.le_refl _,hT1.box,hT1.prs,hT1.idx,hT1.nod,holdsN_all _,Fr.refl _ _⟩
 case round =>
  clear hT1
  obtain ⟨m,xs,rfl,hF⟩:=hrel
  have HF:=Lib.hid hF
  obtain ⟨hge,hle,hbox,-,-,hrow,hhold,hfr2⟩:=hF
  obtain ⟨q,rfl⟩: ∃ q,m=q+1:=⟨m - 1,by omega⟩
  obtain ⟨d0,d2,d5⟩:=hhold.cells hrow (i:=q) (by omega)
  obtain ⟨c0,c1,c2,c3,c4,c5,c6,c7⟩:=hbox.cells
  have hfr:=box_free hbox
  have hfg:=fun j=>ownsRow_free hrow j
  have htb1:=(Array.getElem?_eq_some_iff.1 hbox).1
  have hgl:=(hrow.lt g rfl).2
  rw [hb] at c4
  have hq1:(((q+1:Nat):Int) - 1)=q:=by omega
  by_cases hmM:q+1=M
  ·have hc:=t5 q (by omega)
   have HM:=Lib.hid hmM
   clear hmM hbox hrow hhold hfr2 t4 t5
   go_wp2
   go_end0
   clear c0 c1 c2 c3 c4 c5 c6 c7 hfr d0 d2 d5 hfg hc
   have R3: ∀ {e:TypeId} {size n:Nat} {v:Value} {ys:List Value} (x y z:Value),wr.ownsRow lo e size v n ys→81≠e→(((wr.setCell ⟨tb,6,none⟩ x).setCell ⟨tb,7,none⟩ y).setCell ⟨tb,3,none⟩ z).ownsRow lo e size v n ys:=fun x y z hr hne =>
    ownsRow_setb (ownsRow_setb (ownsRow_setb hr (box_ne HF.out.box hr hne) 6 x) (box_ne HF.out.box hr hne) 7 y) (box_ne HF.out.box hr hne) 3 z
   have hbl2:(k.ps.take b).length=b:=by rw [List.length_take];omega
   have hcp:k.cut.ps=k.ps.take b:=by unfold KnD.cut;rw [hb];rfl
   have e1:=HT.out.1
   have e2:=HT.out.2
   try rw [hMe] at e1
   change (treeF k.c (k.ps.take b)).ns=k.tree.ns.take M at e1
   change (treeF k.c (k.ps.take b)).ix=k.tree.ix.take b at e2
   have hnl:(k.tree.ns.take M).length=M:=by rw [List.length_take];omega
   have hil:(k.tree.ix.take b).length=b:=by rw [List.length_take];omega
   refine ⟨⟨_,rfl⟩,.slice ap b cp,.slice (some ⟨g,0,none⟩) M cap,.slice ai b ci,⟨?_,hlo,?_,?_,?_⟩,?_,?_⟩
   ·rw [← HM.out]
    have hbe:(Value.int .i64 k.cut.base)= .int .i64 (b:Int):=by show (Value.int .i64 k.base)=_;rw [hb]
    exact box_set (box_set (box_set HF.out.box 6 _) 7 _) 3 _
   ·rw [hcp,hbl2]
    have:=R3 (.slice (some ⟨g,0,none⟩) (q+1) cap) (.slice ai b ci) (.slice ap b cp) (ownsRow_cut HF.out.prs hbl) (by decide)
    rw [cellsPr_take] at this
    exact this
   ·rw [hcut.out,e1,hnl]
    have:=R3 (.slice (some ⟨g,0,none⟩) (q+1) cap) (.slice ai b ci) (.slice ap b cp) (ownsRow_cut HF.out.row (m:=M) (by omega)) (by decide)
    have hh:=HF.out.hold
    rw [HM.out] at hh
    rw [hh.take (by omega) HF.out.row.1] at this
    exact this
   ·rw [hcut.out,e2,hil]
    have:=R3 (.slice (some ⟨g,0,none⟩) (q+1) cap) (.slice ai b ci) (.slice ap b cp) (ownsRow_cut HF.out.idx (m:=b) (by omega)) (by decide)
    rw [Nat.mul_one] at this
    unfold cellsI at this ⊢
    rw [List.map_take,List.map_take]
    exact this
   ·exact (((((Fr.of _ U1).trans HF.out.fr (fun _ h=> .inl h)).set (p:=⟨tb,6,none⟩) (.inl (.inl rfl)) _).set (p:=⟨tb,7,none⟩) (.inl (.inl rfl)) _).set (p:=⟨tb,3,none⟩) (.inl (.inl rfl)) _)
   ·rintro x (h|h|h|h)
    ·exact .inl (.inl h)
    ·exact .inl (.inr (.inl (by cases ap <;> exact h)))
    ·exact .inl (.inr (.inr (.inl h)))
    ·exact .inl (.inr (.inr (.inr (by cases ai <;> exact h))))
  ·have hc:=t4 q (by omega) (by omega)
   obtain ⟨p,hp1,hp2⟩:=hpar q (by omega) (by omega)
   have HP3:Hid (¬ ((p:Nat):Int)<0):=by unfold Hid;omega
   rw [hp1] at d0 d2
   rw [if_neg HP3.out] at d2
   clear hbox hrow hhold hfr2
   go_wp2
   clear t4 t5
   refine wp_region_upf 22 (by kernel_rfl) (by kernel_rfl) ?_
   simp only [List.take,List.drop]
   repeat (refine wpUp_step (fun K hK=>?_);go_simp;(try simp only [↓IntWalk.iteOmega]);first
    |(refine hK _ _ ?_;clear hK K)
    |(apply stepU_c
      ·intro wq hwq;(have hbq:=bcell hwq;(repeat (first|refine fills_no (by rfl) ?_|refine fills_yes (by rfl) (fun vq hvq=>?_)));simp only [List.filter_nil,fills];unfold upAt;go_simp;(try go_bits);(try simp only [↓IntWalk.iteOmega]);first|exact upOut_value)
      go_simp;refine hK _ _ ?_;clear hK K))
   refine wpUp_nil (fun wq hwq=>?_)
   simp only [fills]
   have hfg2:=fun j=>ownsRow_free (ownsRow_up HF.out.row hwq) j
   have hcg2:=ownsRow_cell (ownsRow_up HF.out.row hwq) ((HF.out.hold p (by omega)).2.1 (by omega))
   go_wp2
   rw [onlyN_normal]
   go_wp2
   go_roundw
   case rel =>
    have hrow:=ownsRow_up HF.out.row hwq
    refine ⟨q,xs.set (p * 6+1) (.int .i64 (lastCh k.tree.ns p q)),rfl,by omega,by omega,box_oth6 (box_up hwq HF.out.box) (p:=⟨g,p * 6+1,none⟩) (Ne.symm hg5) _,ownsRow_setb (ownsRow_up HF.out.prs hwq) (row_ne HF.out.prs HF.out.row (by decide)) _ _,ownsRow_setb (ownsRow_up HF.out.idx hwq) (row_ne HF.out.idx HF.out.row (by decide)) _ _,ownsRow_set hrow _ _,HF.out.hold.pop (by omega) hp1 hp2,(HF.out.fr.up hwq).set (p:=⟨g,p * 6+1,none⟩) (.inl (.inr (.inr (.inl rfl)))) _⟩
   case measure=>simp [intOf]
end Go.Proofs.YtekogcjdaolcbaaGreatDoor

/- Texts joined into one: the walks and laws that the last text leans on. Conditions: as each says. -/
import Derived.Test.YtekogcjdaolcbaaGreatDoorMFnTravelLawE
import Derived.Test.YtekogcjdaolcbaaGreatDoorMFnTravelLawI
import Derived.Test.YtekogcjdaolcbaaGreatDoorMFnTravelLawG
import Derived.Test.YtekogcjdaolcbaaGreatDoorMFnTravelLawP
import Derived.Test.YtekogcjdaolcbaaGreatDoorMFnTravelLawJ
import Derived.Test.YtekogcjdaolcbaaGreatDoorMFnTravelLawF

set_option linter.unusedVariables false
set_option linter.unusedSimpArgs false
/- Plain: what reading codes from bits gives. Conditions: as each says. -/
namespace Go.Proofs.YtekogcjdaolcbaaGreatDoor
open Go Go.RowKit
structure RdR where
 k:KnD
 codes:List Int
 data:List UInt8
 fin:Int
 pos:Nat
def codeAt (o:Int) (bits:List UInt8) (p wd:Nat):Int:=numL o ((bits.drop p).take wd)
def readN (o:Int) (bits:List UInt8) (sz ct:Nat):Nat→KnD→Nat→List Int→List UInt8→RdR
 |0,k,p,cs,d=>⟨k,cs,d,1,p⟩
 |n+1,k,p,cs,d =>
  if bits.length<p+k.width then ⟨k,cs,d,1,p⟩
  else if codeAt o bits p k.width=(k.c:Int)+1 then ⟨k,cs++ [codeAt o bits p k.width],d,0,p+k.width⟩
  else if codeAt o bits p k.width=(k.c:Int) then
   if 3100≤ct+(cs.length+1) then ⟨k.cleared,cs++ [codeAt o bits p k.width],d,3,p+k.width⟩ else readN o bits sz ct n k.cleared (p+k.width) (cs++ [codeAt o bits p k.width]) d
  else if k.follows (codeAt o bits p k.width)=false then ⟨k,cs,d,2,p+k.width⟩
  else if 2000<sz+d.length+(k.any (codeAt o bits p k.width)).length then ⟨k,cs,d,3,p+k.width⟩
  else if 3100≤ct+(cs.length+1) then ⟨k.after (codeAt o bits p k.width),cs++ [codeAt o bits p k.width],d++k.any (codeAt o bits p k.width),3,p+k.width⟩
  else readN o bits sz ct n (k.after (codeAt o bits p k.width)) (p+k.width) (cs++ [codeAt o bits p k.width]) (d++k.any (codeAt o bits p k.width))
section
variable {o:Int} {bits:List UInt8} {sz ct n:Nat} {k:KnD} {p:Nat} {cs:List Int} {d:List UInt8} {x:Int}
theorem readN_short (h:bits.length<p+k.width):readN o bits sz ct n k p cs d=⟨k,cs,d,1,p⟩:=by
 cases n with
 |zero=>rfl
 |succ n=>rw [readN,if_pos h]
theorem readN_end (hx:codeAt o bits p k.width=x) (h: ¬ bits.length<p+k.width) (h1:x=(k.c:Int)+1):readN o bits sz ct (n+1) k p cs d=⟨k,cs++ [x],d,0,p+k.width⟩:=by
 rw [readN,hx,if_neg h,if_pos h1]
theorem readN_clearL (hx:codeAt o bits p k.width=x) (h: ¬ bits.length<p+k.width) (h1:x=(k.c:Int)) (h2:3100≤ct+(cs.length+1)):readN o bits sz ct (n+1) k p cs d=⟨k.cleared,cs++ [x],d,3,p+k.width⟩:=by
 rw [readN,hx,if_neg h,if_neg (by omega),if_pos h1,if_pos h2]
theorem readN_clear (hx:codeAt o bits p k.width=x) (h: ¬ bits.length<p+k.width) (h1:x=(k.c:Int)) (h2: ¬ 3100≤ct+(cs.length+1)):readN o bits sz ct (n+1) k p cs d=readN o bits sz ct n k.cleared (p+k.width) (cs++ [x]) d:=by
 rw [readN,hx,if_neg h,if_neg (by omega),if_pos h1,if_neg h2]
theorem readN_wrong (hx:codeAt o bits p k.width=x) (h: ¬ bits.length<p+k.width) (h1:x≠(k.c:Int)+1) (h2:x≠(k.c:Int)) (h3:k.follows x=false):readN o bits sz ct (n+1) k p cs d=⟨k,cs,d,2,p+k.width⟩:=by
 rw [readN,hx,if_neg h,if_neg h1,if_neg h2,if_pos h3]
theorem readN_long (hx:codeAt o bits p k.width=x) (h: ¬ bits.length<p+k.width) (h1:x≠(k.c:Int)+1) (h2:x≠(k.c:Int)) (h3:k.follows x=true) (h4:2000<sz+d.length+(k.any x).length):readN o bits sz ct (n+1) k p cs d=⟨k,cs,d,3,p+k.width⟩:=by
 rw [readN,hx,if_neg h,if_neg h1,if_neg h2,if_neg (by rw [h3];decide),if_pos h4]
theorem readN_wordL (hx:codeAt o bits p k.width=x) (h: ¬ bits.length<p+k.width) (h1:x≠(k.c:Int)+1) (h2:x≠(k.c:Int)) (h3:k.follows x=true) (h4: ¬ 2000<sz+d.length+(k.any x).length) (h5:3100≤ct+(cs.length+1)) :
  readN o bits sz ct (n+1) k p cs d=⟨k.after x,cs++ [x],d++k.any x,3,p+k.width⟩:=by
 rw [readN,hx,if_neg h,if_neg h1,if_neg h2,if_neg (by rw [h3];decide),if_neg h4,if_pos h5]
theorem readN_word (hx:codeAt o bits p k.width=x) (h: ¬ bits.length<p+k.width) (h1:x≠(k.c:Int)+1) (h2:x≠(k.c:Int)) (h3:k.follows x=true) (h4: ¬ 2000<sz+d.length+(k.any x).length) (h5: ¬ 3100≤ct+(cs.length+1)) :
  readN o bits sz ct (n+1) k p cs d=readN o bits sz ct n (k.after x) (p+k.width) (cs++ [x]) (d++k.any x):=by
 rw [readN,hx,if_neg h,if_neg h1,if_neg h2,if_neg (by rw [h3];decide),if_neg h4,if_neg h5]
end
theorem codeAt_bd {o:Int} {bits:List UInt8} (hb:isBits bits) {p wd:Nat} (hw:wd≤16):0≤codeAt o bits p wd∧codeAt o bits p wd<65536:=by
 have h:=numL_bd (o:=o) (l:=(bits.drop p).take wd) ((hb.drop _).take _)
 have hl:((bits.drop p).take wd).length≤wd:=by rw [List.length_take];omega
 have:=pow_len hl hw
 unfold codeAt
 omega
structure RdInv (bits:List UInt8) (sz:Nat) (k0:KnD) (k:KnD) (p:Nat) (cs:List Int) (d:List UInt8):Prop where
 ok:k.Ok
 set:k.set=k0.set
 pos:p≤bits.length
 dl:sz+d.length≤2000
 walk: ∀ ys,∃ ws,walkN k0 (cs++ys) [] []=walkN k ys ws d
theorem RdInv.start {bits:List UInt8} {sz:Nat} {k:KnD} (h:k.Ok) (hs:sz≤2000):RdInv bits sz k k 0 [] []:=⟨h,rfl,Nat.zero_le _,by simpa using hs,fun ys=>⟨[],rfl⟩⟩
theorem RdInv.clear {bits:List UInt8} {sz:Nat} {k0 k:KnD} {p:Nat} {cs:List Int} {d:List UInt8} (h:RdInv bits sz k0 k p cs d) (hp: ¬ bits.length<p+k.width):RdInv bits sz k0 k.cleared (p+k.width) (cs++ [(k.c:Int)]) d :=
 ⟨KnD.cleared_ok h.ok,h.set,by omega,h.dl,fun ys=>by
  obtain ⟨ws,hw⟩:=h.walk ((k.c:Int) :: ys)
  refine ⟨ws++ [(k.width:Int)],?_⟩
  rw [List.append_assoc]
  show walkN k0 (cs++(k.c:Int) :: ys) [] []=_
  rw [hw,walkN_clear rfl]⟩
theorem RdInv.word {bits:List UInt8} {sz:Nat} {k0 k:KnD} {p:Nat} {cs:List Int} {d:List UInt8} {x:Int} (h:RdInv bits sz k0 k p cs d) (hp: ¬ bits.length<p+k.width) (h1:x≠(k.c:Int)+1) (h2:x≠(k.c:Int)) (h3:k.follows x=true) (h4: ¬ 2000<sz+d.length+(k.any x).length):RdInv bits sz k0 (k.after x) (p+k.width) (cs++ [x]) (d++k.any x) :=
 ⟨KnD.after_ok h.ok h3,h.set,by omega,by rw [List.length_append];omega,fun ys=>by
  obtain ⟨ws,hw⟩:=h.walk (x :: ys)
  have:=h.dl
  refine ⟨ws++ [(k.width:Int)],?_⟩
  rw [List.append_assoc]
  show walkN k0 (cs++x :: ys) [] []=_
  rw [hw,walkN_word h1 h2 h3 (by omega)]⟩
structure RdFin (bits:List UInt8) (sz ct:Nat) (k0:KnD) (R:RdR):Prop where
 ok:R.k.Ok
 set:R.k.set=k0.set
 pos:R.pos≤bits.length
 dl:sz+R.data.length≤2000
 fin:0≤R.fin∧R.fin≤3
 cl:ct+R.codes.length≤3100
 walk:(walkN k0 R.codes [] []).data=R.data
 kind:R.fin=0∨R.fin=1∨R.fin=2∨R.fin=3
theorem readN_fin {o:Int} {bits:List UInt8} {sz ct:Nat} {k0:KnD} : ∀ (n:Nat) (k:KnD) (p:Nat) (cs:List Int) (d:List UInt8),RdInv bits sz k0 k p cs d→ct+cs.length<3100→RdFin bits sz ct k0 (readN o bits sz ct n k p cs d):=by
 intro n
 induction n with
 |zero =>
  intro k p cs d h hc
  obtain ⟨ws,hw⟩:=h.walk []
  rw [List.append_nil] at hw
  exact ⟨h.ok,h.set,h.pos,h.dl,by show (0:Int)≤1∧(1:Int)≤3;omega,by show ct+cs.length≤3100;omega,by show (walkN k0 cs [] []).data=d;rw [hw];rfl,.inr (.inl rfl)⟩
 |succ n ih =>
  intro k p cs d h hc
  have hcs: ∀ y:Int,(cs++ [y]).length=cs.length+1:=fun y=>by simp
  have hdl:=h.dl
  by_cases hp:bits.length<p+k.width
  ·rw [readN_short hp]
   obtain ⟨ws,hw⟩:=h.walk []
   rw [List.append_nil] at hw
   exact ⟨h.ok,h.set,h.pos,h.dl,by show (0:Int)≤1∧(1:Int)≤3;omega,by show ct+cs.length≤3100;omega,by show (walkN k0 cs [] []).data=d;rw [hw];rfl,.inr (.inl rfl)⟩
  ·obtain ⟨x,hx⟩: ∃ x,codeAt o bits p k.width=x:=⟨_,rfl⟩
   by_cases h1:x=(k.c:Int)+1
   ·rw [readN_end hx hp h1]
    obtain ⟨ws,hw⟩:=h.walk [x]
    exact ⟨h.ok,h.set,by show p+k.width≤bits.length;omega,h.dl,by show (0:Int)≤0∧(0:Int)≤3;omega,by show ct+(cs++ [x]).length≤3100;rw [hcs];omega,by show (walkN k0 (cs++ [x]) [] []).data=d;rw [hw,walkN_end h1],.inl rfl⟩
   ·by_cases h2:x=(k.c:Int)
    ·have hi:=h.clear hp
     rw [← h2] at hi
     by_cases h5:3100≤ct+(cs.length+1)
     ·rw [readN_clearL hx hp h2 h5]
      obtain ⟨ws,hw⟩:=hi.walk []
      rw [List.append_nil] at hw
      exact ⟨hi.ok,hi.set,hi.pos,hi.dl,by show (0:Int)≤3∧(3:Int)≤3;omega,by show ct+(cs++ [x]).length≤3100;rw [hcs];omega,by show (walkN k0 (cs++ [x]) [] []).data=d;rw [hw];rfl,.inr (.inr (.inr rfl))⟩
     ·rw [readN_clear hx hp h2 h5]
      exact ih _ _ _ _ hi (by rw [hcs];omega)
    ·cases h3:k.follows x
     ·rw [readN_wrong hx hp h1 h2 h3]
      obtain ⟨ws,hw⟩:=h.walk []
      rw [List.append_nil] at hw
      exact ⟨h.ok,h.set,by show p+k.width≤bits.length;omega,h.dl,by show (0:Int)≤2∧(2:Int)≤3;omega,by show ct+cs.length≤3100;omega,by show (walkN k0 cs [] []).data=d;rw [hw];rfl,.inr (.inr (.inl rfl))⟩
     ·by_cases h4:2000<sz+d.length+(k.any x).length
      ·rw [readN_long hx hp h1 h2 h3 h4]
       obtain ⟨ws,hw⟩:=h.walk []
       rw [List.append_nil] at hw
       exact ⟨h.ok,h.set,by show p+k.width≤bits.length;omega,h.dl,by show (0:Int)≤3∧(3:Int)≤3;omega,by show ct+cs.length≤3100;omega,by show (walkN k0 cs [] []).data=d;rw [hw];rfl,.inr (.inr (.inr rfl))⟩
      ·have hi:=h.word hp h1 h2 h3 h4
       by_cases h5:3100≤ct+(cs.length+1)
       ·rw [readN_wordL hx hp h1 h2 h3 h4 h5]
        obtain ⟨ws,hw⟩:=hi.walk []
        rw [List.append_nil] at hw
        exact ⟨hi.ok,hi.set,hi.pos,hi.dl,by show (0:Int)≤3∧(3:Int)≤3;omega,by show ct+(cs++ [x]).length≤3100;rw [hcs];omega,by show (walkN k0 (cs++ [x]) [] []).data=d++k.any x;rw [hw];simp [walkN],.inr (.inr (.inr rfl))⟩
       ·rw [readN_word hx hp h1 h2 h3 h4 h5]
        exact ih _ _ _ _ hi (by rw [hcs];omega)
def unpackL (o:Int) (s:List UInt8):List UInt8:=s.flatMap fun b=>codeL o b.toNat 8
theorem unpackL_snoc (o:Int) (s:List UInt8) (b:UInt8):unpackL o (s++ [b])=unpackL o s++codeL o b.toNat 8:=by simp [unpackL]
theorem unpackL_length (o:Int) (s:List UInt8):(unpackL o s).length=8 * s.length:=by
 induction s using snoc_ind with
 |h0=>rfl
 |h1 l a ih=>rw [unpackL_snoc,List.length_append,ih,codeL_length,List.length_append];simp;omega
theorem isBits_unpack (o:Int) (s:List UInt8):isBits (unpackL o s):=fun b hb=>by
 unfold unpackL at hb
 obtain ⟨x,-,hx⟩:=List.mem_flatMap.1 hb
 exact isBits_code o _ 8 b hx
def readS (k:KnD) (s:List UInt8):RdR:=readN k.set.ord (unpackL k.set.ord s) 0 0 (8 * s.length) k 0 [] []
def usedS (s:List UInt8) (R:RdR):Nat:=if R.fin=1 then s.length else (R.pos+7) / 8
theorem readS_fin {k:KnD} (h:k.Ok) (s:List UInt8):RdFin (unpackL k.set.ord s) 0 0 k (readS k s):=readN_fin _ _ _ _ _ (RdInv.start h (by omega)) (by simp)
structure DecR where
 data:List UInt8
 fin:Int
 used:Nat
def decK (k:KnD) (s:List UInt8):DecR:=if s.length≤4000 then ⟨(readS k s).data,(readS k s).fin,usedS s (readS k s)⟩ else ⟨[],4,0⟩
end Go.Proofs.YtekogcjdaolcbaaGreatDoor
/- Plain: reading the stream of data gives the data again. Conditions: what is known is valid, the data fits. -/
namespace Go.Proofs.YtekogcjdaolcbaaGreatDoor
open Go Go.RowKit
/-! Bits and numbers. -/
theorem numF_fold (l:List UInt8): ∀ a:Int,l.foldl (fun (n:Int) b=>2 * n+(b.toNat:Int) - 48) a=a * ((2 ^ l.length:Nat):Int)+numF l:=by
 induction l with
 |nil=>intro a;simp [numF]
 |cons b l ih =>
  intro a
  have h0:numF (b :: l)=l.foldl (fun (n:Int) b=>2 * n+(b.toNat:Int) - 48) (2 * 0+(b.toNat:Int) - 48):=rfl
  rw [h0,List.foldl_cons,ih,ih,List.length_cons,Nat.pow_succ]
  simp only [Int.natCast_mul]
  generalize ((2 ^ l.length:Nat):Int)=q
  have e:((2:Nat):Int)=2:=rfl
  rw [e,show (2 * a+(b.toNat:Int) - 48) * q=2 * a * q+((b.toNat:Int) - 48) * q by rw [← Int.add_mul];congr 1;omega,show a * (q * 2)=2 * a * q by rw [Int.mul_comm q 2,←Int.mul_assoc,Int.mul_comm a 2],show (2 * 0+(b.toNat:Int) - 48) * q=((b.toNat:Int) - 48) * q by rw [show (2 * 0+(b.toNat:Int) - 48)=(b.toNat:Int) - 48 by omega]]
  omega
theorem numF_cons (b:UInt8) (l:List UInt8):numF (b :: l)=((b.toNat:Int) - 48) * ((2 ^ l.length:Nat):Int)+numF l:=by
 have h0:numF (b :: l)=l.foldl (fun (n:Int) b=>2 * n+(b.toNat:Int) - 48) (2 * 0+(b.toNat:Int) - 48):=rfl
 rw [h0,numF_fold,show (2 * 0+(b.toNat:Int) - 48)=(b.toNat:Int) - 48 by omega]
theorem numF_low (n wd:Nat):numF (lowL n wd).reverse=((n % 2 ^ wd:Nat):Int):=by
 induction wd with
 |zero=>simp [lowL,numF,Nat.mod_one]
 |succ wd ih =>
  rw [lowL_succ,List.reverse_append,List.reverse_cons,List.reverse_nil,List.nil_append,List.singleton_append,numF_cons,ih,List.length_reverse,lowL_length,bitB_nat,Nat.mod_pow_succ]
  have h:(((48+n / 2 ^ wd % 2:Nat):Int) - 48)=((n / 2 ^ wd % 2:Nat):Int):=by omega
  rw [h]
  have h2:((n % 2 ^ wd+2 ^ wd * (n / 2 ^ wd % 2):Nat):Int)=((n % 2 ^ wd:Nat):Int)+((2 ^ wd:Nat):Int) * ((n / 2 ^ wd % 2:Nat):Int):=by
   rw [← Int.natCast_mul,←Int.natCast_add]
  rw [h2,Int.mul_comm,Int.add_comm]
theorem num_code (o:Int) {n wd:Nat} (h:n<2 ^ wd):numL o (codeL o n wd)=n:=by
 have e:=numF_low n wd
 rw [Nat.mod_eq_of_lt h] at e
 unfold numL codeL
 split
 ·exact e
 ·exact e
theorem numF_inj: ∀ {l m:List UInt8},isBits l→isBits m→l.length=m.length→numF l=numF m→l=m
 | [],[],_,_,_,_=>rfl
 | [],_ :: _,_,_,h,_=>by simp at h
 |_ :: _,[],_,_,h,_=>by simp at h
 |a :: l,b :: m,ha,hb,hl,he=>by
  have hl':l.length=m.length:=by simpa using hl
  have ha2:isBits l:=fun x hx=>ha x (List.mem_cons_of_mem _ hx)
  have hb2:isBits m:=fun x hx=>hb x (List.mem_cons_of_mem _ hx)
  have h1:=numF_bd ha2
  have h2:=numF_bd hb2
  have a1:=ha a (List.mem_cons_self ..)
  have b1:=hb b (List.mem_cons_self ..)
  rw [numF_cons,numF_cons,hl'] at he
  rw [hl'] at h1
  generalize ((2 ^ m.length:Nat):Int)=q at *
  have hab:a=b:=by
   apply UInt8.toNat_inj.1
   rcases a1 with a1|a1 <;> rcases b1 with b1|b1 <;> rw [a1,b1] at he <;> simp at he <;> omega
  subst hab
  rw [numF_inj ha2 hb2 hl' (by omega)]
theorem code_num {o:Int} (ho:o=0∨o=1) {l:List UInt8} (hb:isBits l):codeL o (numL o l).toNat l.length=l:=by
 have h1:=numL_bd (o:=o) hb
 have hlt:(numL o l).toNat<2 ^ l.length:=by omega
 have h2:=num_code o hlt
 have hcb:=isBits_code o (numL o l).toNat l.length
 have hcl:=codeL_length o (numL o l).toNat l.length
 rw [Int.toNat_of_nonneg h1.1] at h2
 generalize codeL o (numL o l).toNat l.length=c at *
 unfold numL at h2
 split at h2
 ·have:=numF_inj hcb.rev hb.rev (by simp [hcl]) h2
  exact List.reverse_inj.1 this
 ·exact numF_inj hcb hb hcl h2
theorem chunks_take (P:List UInt8): ∀ m:Nat,(List.range m).flatMap (fun k=>(P.drop (8 * k)).take 8)=P.take (8 * m)
 |0=>by simp
 |m+1=>by
  rw [List.range_succ,List.flatMap_append,chunks_take P m]
  simp only [List.flatMap_cons,List.flatMap_nil,List.append_nil]
  rw [show 8 * (m+1)=8 * m+8 by omega,List.take_add]
theorem unpack_pack {o:Int} (ho:o=0∨o=1) {l:List UInt8} (hb:isBits l):unpackL o (packL o l)=padL l:=by
 unfold unpackL packL
 rw [List.flatMap_map]
 have hpl:=padL_length l
 have hpb:=isBits_pad hb
 generalize padL l=P at *
 have e:(List.range (P.length / 8)).flatMap (fun a=>codeL o (byteN o P a).toNat 8)=(List.range (P.length / 8)).flatMap (fun k=>(P.drop (8 * k)).take 8):=by
  rw [List.flatMap_def,List.flatMap_def]
  congr 1
  refine List.map_congr_left fun k hk=>?_
  rw [List.mem_range] at hk
  have hl8:((P.drop (8 * k)).take 8).length=8:=by rw [List.length_take,List.length_drop];omega
  have hb8:isBits ((P.drop (8 * k)).take 8):=(hpb.drop _).take _
  have hbd:=numL_bd (o:=o) hb8
  rw [hl8] at hbd
  have hu:=ub_nat hbd.1 (by have:=hbd.2;simpa using this)
  have h2:(byteN o P k).toNat=(numL o ((P.drop (8 * k)).take 8)).toNat:=by unfold byteN;omega
  rw [h2]
  have:=code_num ho hb8
  rw [hl8] at this
  exact this
 rw [e,chunks_take,List.take_of_length_le (by omega)]
/-! Codes and their bits. -/
theorem KnD.fol_top {k:KnD} {x:Int} (h:k.Ok) (hf:k.follows x=true):0≤x∧x≤(k.top:Int):=by
 have ht:=(KnD.top_bd h).1
 rcases KnD.follows_cases h hf with hc|⟨hg,hxn,_⟩
 ·rw [codeOk_iff] at hc
  have:k.next≤k.top+1:=by unfold KnD.top;split <;> omega
  unfold KnD.next at this;omega
 ·unfold KnD.top;rw [if_pos hg];omega
theorem top_lt (k:KnD):k.top<2 ^ k.width:=by
 have h1:=pow_needed k.top
 have h2:needed k.top≤k.width:=by unfold KnD.width;omega
 have h3:2 ^ needed k.top≤2 ^ k.width:=Nat.pow_le_pow_right (by decide) h2
 omega
theorem codeAt_code {o:Int} {pre post:List UInt8} {x:Int} {wd:Nat} (h0:0≤x) (hx:x.toNat<2 ^ wd):codeAt o (pre++(codeL o x.toNat wd++post)) pre.length wd=x:=by
 unfold codeAt
 rw [List.drop_left,List.take_append_of_le_length (by rw [codeL_length];exact Nat.le_refl _),List.take_of_length_le (by rw [codeL_length];exact Nat.le_refl _),num_code o hx]
 omega
theorem read_pack (o:Int) (sz ct:Nat) (post:List UInt8): ∀ (xs:List Int) (k:KnD) (pre:List UInt8) (cs:List Int) (d:List UInt8) (ws W:List Int) (D:List UInt8) (n:Nat),k.Ok→walkN k xs ws d=⟨ws++W,D,true⟩→W.length=xs.length→(∃ ys,xs=ys++ [(k.c:Int)+1]) →
  sz+D.length≤2000→ct+cs.length+xs.length≤3100→(pre++(packC o xs W++post)).length≤pre.length+n→xs.length≤n →
  ∃ k',readN o (pre++(packC o xs W++post)) sz ct n k pre.length cs d=⟨k',cs++xs,D,0,pre.length+(packC o xs W).length⟩:=by
 intro xs
 induction xs with
 |nil=>intro k pre cs d ws W D n _ _ _ ⟨ys,h⟩;simp at h
 |cons x xs ih =>
  intro k pre cs d ws W D n hk hT hW hend hD hc hn hn2
  obtain ⟨w0,W',rfl⟩: ∃ w0 W',W=w0 :: W':=by
   cases W with
   |nil=>simp at hW
   |cons a l=>exact ⟨a,l,rfl⟩
  have hW':W'.length=xs.length:=by simpa using hW
  obtain ⟨n,rfl⟩: ∃ m,n=m+1:=⟨n - 1,by simp only [List.length_cons] at hn2;omega⟩
  simp only [List.length_cons] at hn2 hc
  -- the width of the first code
  have hw0:w0=(k.width:Int):=by
   have hpre: ∀ (zs:List Int) (kk:KnD) (vs:List Int) (dd:List UInt8),∃ V,(walkN kk zs vs dd).ws=vs++V:=by
    intro zs
    induction zs with
    |nil=>intro kk vs dd;exact ⟨[],by simp [walkN]⟩
    |cons z zs ihz =>
     intro kk vs dd
     rw [walkN]
     split
     ·exact ⟨_,rfl⟩
     ·split
      ·obtain ⟨V,hV⟩:=ihz kk.cleared (vs++ [(kk.width:Int)]) dd
       exact ⟨(kk.width:Int) :: V,by rw [hV];simp⟩
      ·split
       ·exact ⟨_,rfl⟩
       ·obtain ⟨V,hV⟩:=ihz (kk.after z) (vs++ [(kk.width:Int)]) (dd++kk.any z)
        exact ⟨(kk.width:Int) :: V,by rw [hV];simp⟩
   have hws:(walkN k (x :: xs) ws d).ws=ws++w0 :: W':=by rw [hT]
   rcases walkN_ok hT rfl with ⟨h1,h2,h3⟩|⟨h1,h2⟩|⟨h1,h2,h3,h4,h5⟩
   ·have:=congrArg WkR.ws h3
    have h9:w0=(k.width:Int)∧W'= []:=by simpa using this
    exact h9.1
   ·obtain ⟨V,hV⟩:=hpre xs k.cleared (ws++ [(k.width:Int)]) d
    rw [h2] at hV
    have:ws++w0 :: W'=ws++(k.width:Int) :: V:=by simpa using hV
    exact (List.cons.inj (List.append_cancel_left this)).1
   ·obtain ⟨V,hV⟩:=hpre xs (k.after x) (ws++ [(k.width:Int)]) (d++k.any x)
    rw [h4] at hV
    have:ws++w0 :: W'=ws++(k.width:Int) :: V:=by simpa using hV
    exact (List.cons.inj (List.append_cancel_left this)).1
  subst hw0
  have hb:pre++(packC o (x :: xs) ((k.width:Int) :: W')++post)=pre++(codeL o x.toNat k.width++(packC o xs W'++post)):=by
   simp [packC]
  have hb2:pre++(packC o (x :: xs) ((k.width:Int) :: W')++post)=(pre++codeL o x.toNat k.width)++(packC o xs W'++post):=by
   simp [packC]
  have hpl:(packC o (x :: xs) ((k.width:Int) :: W')).length=k.width+(packC o xs W').length:=by
   simp [packC,codeL_length]
  have hlen: ¬ (pre++(packC o (x :: xs) ((k.width:Int) :: W')++post)).length<pre.length+k.width:=by
   rw [List.length_append,List.length_append,hpl];omega
  have hpl2:(pre++codeL o x.toNat k.width).length=pre.length+k.width:=by rw [List.length_append,codeL_length]
  have hwb:=KnD.width_bd hk
  have htb:=(KnD.top_bd hk).1
  have htl:=top_lt k
  have hn3:((pre++codeL o x.toNat k.width)++(packC o xs W'++post)).length≤(pre++codeL o x.toNat k.width).length+n:=by
   rw [← hb2,hpl2];omega
  have hcode:0≤x→x≤(k.top:Int)→codeAt o (pre++(packC o (x :: xs) ((k.width:Int) :: W')++post)) pre.length k.width=x:=fun h0 h1=>by
   rw [hb];exact codeAt_code h0 (by omega)
  have hend2:xs≠ []→ ∃ ys,xs=ys++ [(k.c:Int)+1]:=fun hne=>by
   obtain ⟨ys,hys⟩:=hend
   cases ys with
   |nil=>simp at hys;exact absurd hys.2 hne
   |cons y ys=>simp at hys;exact ⟨ys,hys.2⟩
  rcases walkN_ok hT rfl with ⟨h1,h2,h3⟩|⟨h1,h2⟩|⟨h1,h2,h3,h4,h5⟩
  ·subst h2
   have hx:=hcode (by omega) (by omega)
   have hDe:D=d:=congrArg WkR.data h3
   have hWn:W'= []:=List.length_eq_zero_iff.1 (by simpa using hW')
   subst hWn
   refine ⟨k,?_⟩
   rw [readN_end hx hlen h1,hpl,hDe]
   simp [packC]
  ·have hne:xs≠ []:=fun e=>by
    obtain ⟨ys,hys⟩:=hend
    rw [e] at hys
    cases ys with
    |nil=>simp at hys;omega
    |cons y ys=>simp at hys
   have hx:=hcode (by omega) (by omega)
   have hxp:1≤xs.length:=List.length_pos_iff.2 hne
   rw [readN_clear hx hlen h1 (by omega),hb2]
   have h2':walkN k.cleared xs (ws++ [(k.width:Int)]) d=⟨(ws++ [(k.width:Int)])++W',D,true⟩:=by rw [h2];simp
   obtain ⟨k',hk'⟩:=ih k.cleared (pre++codeL o x.toNat k.width) (cs++ [x]) d (ws++ [(k.width:Int)]) W' D n (KnD.cleared_ok hk) h2' hW' (hend2 hne) hD (by simp;omega) hn3 (by omega)
   rw [hpl2] at hk'
   refine ⟨k',?_⟩
   rw [hk',hpl]
   simp [Nat.add_assoc]
  ·have hne:xs≠ []:=fun e=>by
    obtain ⟨ys,hys⟩:=hend
    rw [e] at hys
    cases ys with
    |nil=>simp at hys;exact h1 hys
    |cons y ys=>simp at hys
   obtain ⟨t1,t2⟩:=KnD.fol_top hk h3
   have hx:=hcode t1 t2
   have hxp:1≤xs.length:=List.length_pos_iff.2 hne
   have h5':d.length+(k.any x).length≤D.length:=h5
   rw [readN_word hx hlen h1 h2 h3 (by omega) (by omega),hb2]
   have h4':walkN (k.after x) xs (ws++ [(k.width:Int)]) (d++k.any x)=⟨(ws++ [(k.width:Int)])++W',D,true⟩:=by rw [h4];simp
   obtain ⟨k',hk'⟩:=ih (k.after x) (pre++codeL o x.toNat k.width) (cs++ [x]) (d++k.any x) (ws++ [(k.width:Int)]) W' D n (KnD.after_ok hk h3) h4' hW' (hend2 hne) hD (by simp;omega) hn3 (by omega)
   rw [hpl2] at hk'
   refine ⟨k',?_⟩
   rw [hk',hpl]
   simp [Nat.add_assoc]
theorem greedyN_end: ∀ (n:Nat) (k:KnD) (d:List UInt8),∃ ys,greedyN n k d=ys++ [(k.c:Int)+1]
 |0,k,d=>⟨[],rfl⟩
 |n+1,k,d=>by
  rw [greedyN]
  split
  ·exact ⟨[],rfl⟩
  ·split
   ·obtain ⟨ys,h⟩:=greedyN_end n (k.after (k.find (k.longest d))).cleared (d.drop (k.longest d).length)
    exact ⟨_ :: _ :: ys,by rw [h];rfl⟩
   ·obtain ⟨ys,h⟩:=greedyN_end n (k.after (k.find (k.longest d))) (d.drop (k.longest d).length)
    exact ⟨_ :: ys,by rw [h];rfl⟩
theorem read_greedy {k:KnD} {d:List UInt8} (hk:k.Ok) (hl: ∀ b∈d,b.toNat<k.c) (hd:d.length≤2000) :
  ∃ k',readS k (compL k d)=⟨k',greedy k d,d,0,(packC k.set.ord (greedy k d) (walkN k (greedy k d) [] []).ws).length⟩:=by
 obtain ⟨g1,g2,g3,g4,g5⟩:=walk_greedy hk hl hd
 have g6:=greedy_tight hk hl hd
 have ho:=(setOk_bd hk.set).1
 have hib:=isBits_packC k.set.ord (greedy k d) (walkN k (greedy k d) [] []).ws
 have hun:=unpack_pack ho hib
 have hplen:=packL_length k.set.ord (packC k.set.ord (greedy k d) (walkN k (greedy k d) [] []).ws)
 unfold readS compL
 rw [hun]
 obtain ⟨ys,hys⟩:=greedyN_end d.length k.cleared d
 have hgl:(greedy k d).length≤(packC k.set.ord (greedy k d) (walkN k (greedy k d) [] []).ws).length:=by
  have: ∀ (xs ws:List Int),xs.length=ws.length→(∀ w∈ws,1≤w)→xs.length≤(packC k.set.ord xs ws).length:=by
   intro xs
   induction xs with
   |nil=>intro ws _ _;simp
   |cons x xs ih =>
    intro ws h1 h2
    cases ws with
    |nil=>simp at h1
    |cons w ws =>
     have h3:=ih ws (by simpa using h1) fun v hv=>h2 v (List.mem_cons_of_mem _ hv)
     have h4:=h2 w (List.mem_cons_self ..)
     simp only [packC,List.length_append,codeL_length,List.length_cons]
     omega
  exact this _ _ g1.symm fun w hw=>(g4 w hw).1
 have hT:walkN k (greedy k d) [] []=⟨[]++(walkN k (greedy k d) [] []).ws,d,true⟩:=by
  generalize walkN k (greedy k d) [] []=T at *
  obtain ⟨a,b,c⟩:=T
  simp only at g2 g3
  rw [g2,g3];rfl
 have hpad:padL (packC k.set.ord (greedy k d) (walkN k (greedy k d) [] []).ws)= []++(packC k.set.ord (greedy k d) (walkN k (greedy k d) [] []).ws++List.replicate ((8 - (packC k.set.ord (greedy k d) (walkN k (greedy k d) [] []).ws).length % 8) % 8) 48):=rfl
 rw [hpad]
 obtain ⟨k',h⟩:=read_pack k.set.ord 0 0 (List.replicate ((8 - (packC k.set.ord (greedy k d) (walkN k (greedy k d) [] []).ws).length % 8) % 8) 48) (greedy k d) k [] [] [] [] (walkN k (greedy k d) [] []).ws d
  (8 * (packL k.set.ord (packC k.set.ord (greedy k d) (walkN k (greedy k d) [] []).ws)).length) hk hT g1 ⟨(k.c:Int) :: ys,by unfold greedy;rw [hys];rfl⟩ (by omega) (by simp;omega)
  (by rw [← hpad,padL_length,hplen];simp) (by rw [hplen];omega)
 refine ⟨k',?_⟩
 simpa using h
theorem dec_comp {k:KnD} {d:List UInt8} (hk:k.Ok) (hl: ∀ b∈d,b.toNat<k.c) (hd:d.length≤2000) (h4:(compL k d).length≤4000):decK k (compL k d)=⟨d,0,(compL k d).length⟩:=by
 obtain ⟨k',h⟩:=read_greedy hk hl hd
 unfold decK
 rw [if_pos h4]
 unfold usedS
 rw [h]
 simp only [if_neg (show ¬ (0:Int)=1 by decide)]
 unfold compL
 rw [packL_length]
end Go.Proofs.YtekogcjdaolcbaaGreatDoor
/- Walks of the program's bitsNumber and unpackBytes; the memory of a reading. Conditions: as each says. -/
namespace Go.Proofs.YtekogcjdaolcbaaGreatDoor
open Go Go.RowKit
def sumW (o:Int) (l:List UInt8) (wd:Nat):Nat→Int
 |0=>0
 |j+1=>sumW o l wd j+(if (l.getD j 0).toNat=49 then ((2 ^ plc o j wd:Nat):Int) else 0)
theorem sumW_step {o:Int} {l:List UInt8} {wd j:Nat} (h:j<l.length):sumW o l wd (j+1)=sumW o l wd j+(if (l[j]).toNat=49 then ((2 ^ plc o j wd:Nat):Int) else 0):=by
 rw [sumW,List.getD_eq_getElem?_getD,List.getElem?_eq_getElem h];rfl
theorem sumW_bd (o:Int) (l:List UInt8) {wd:Nat} (hw:wd≤16): ∀ j,j≤wd→0≤sumW o l wd j∧sumW o l wd j≤65536 * j
 |0,_=>by simp [sumW]
 |j+1,h=>by
  have ih:=sumW_bd o l hw j (by omega)
  have h1:=plc_lt (o:=o) (i:=j) (wd:=wd) (by omega)
  have h2:=pow_len (k:=plc o j wd) (n:=16) (by omega) (by omega)
  have h3:(0:Int)≤((2 ^ plc o j wd:Nat):Int):=Int.natCast_nonneg _
  have h4:((2 ^ plc o j wd:Nat):Int)≤65536:=by have:=Int.ofNat_le.2 h2;exact this
  rw [sumW]
  clear h1 h2
  generalize ((2 ^ plc o j wd:Nat):Int)=q at *
  split
  ·omega
  ·omega
theorem sumW_low {l:List UInt8} (hb:isBits l): ∀ j,j≤l.length→sumW 0 l l.length j=numF (l.take j).reverse
 |0,_=>by simp [sumW,numF]
 |j+1,h=>by
  have hj:j<l.length:=h
  rw [sumW_step hj,sumW_low hb j (by omega),List.take_succ_eq_append_getElem hj,List.reverse_append,List.reverse_cons,List.reverse_nil,List.nil_append,List.singleton_append,numF_cons,List.length_reverse,List.length_take,Nat.min_eq_left (by omega)]
  have e:plc 0 j l.length=j:=by unfold plc;rw [if_neg (by decide)]
  rw [e]
  rcases hb l[j] (List.getElem_mem hj) with h1|h1
  ·rw [if_neg (by omega),h1];simp
  ·rw [if_pos h1,h1];simp;omega
theorem sumW_high {l:List UInt8} (hb:isBits l): ∀ j,j≤l.length→sumW 1 l l.length j=numF (l.take j) * ((2 ^ (l.length - j):Nat):Int)
 |0,_=>by simp [sumW,numF]
 |j+1,h=>by
  have hj:j<l.length:=h
  rw [sumW_step hj,sumW_high hb j (by omega),List.take_succ_eq_append_getElem hj,numF_snoc]
  have e:plc 1 j l.length=l.length - (j+1):=by unfold plc;rw [if_pos rfl];omega
  have e2:l.length - j=(l.length - (j+1))+1:=by omega
  rw [e,e2,Nat.pow_succ]
  generalize 2 ^ (l.length - (j+1))=q
  generalize numF (l.take j)=f
  have e3:((q * 2:Nat):Int)=(q:Int) * 2:=by simp
  rw [e3]
  rcases hb l[j] (List.getElem_mem hj) with h1|h1
  ·rw [if_neg (by omega),h1,show (2 * f+((48:Nat):Int) - 48)=2 * f by omega,Int.add_zero,←Int.mul_assoc,Int.mul_comm (f * (q:Int)) 2,←Int.mul_assoc]
  ·rw [if_pos h1,h1,show (2 * f+((49:Nat):Int) - 48)=2 * f+1 by omega,Int.add_mul,Int.one_mul,←Int.mul_assoc,Int.mul_comm (f * (q:Int)) 2,←Int.mul_assoc]
theorem sumW_num {o:Int} (ho:o=0∨o=1) {l:List UInt8} (hb:isBits l):sumW o l l.length l.length=numL o l:=by
 rcases ho with rfl|rfl
 ·rw [sumW_low hb l.length (Nat.le_refl _),List.take_length];unfold numL;rw [if_pos rfl]
 ·rw [sumW_high hb l.length (Nat.le_refl _),List.take_length,Nat.sub_self];unfold numL;rw [if_neg (by decide)];simp
def RelBn (o:Int) (l:List UInt8) (wd:Nat) (n i:Value):Prop:= ∃ j:Nat,j≤wd∧i= .int .i64 j∧n= .int .i64 (sumW o l wd j)
set_option maxRecDepth 100000 in
set_option maxHeartbeats 1000000 in
theorem bitsN_any (o:Int) (s:ByteArray) (w:World) (ho:o=0∨o=1) (hb:isBits s.data.toList) (hs:s.size≤16) :
  Calls Tryz.prog 135  #[.int .i64 o,.string s] w (fun e w'=>e= .returned (.int .i64 (numL o s.data.toList))∧w=w'):=by
 have hlen:=ba_len s
 have HT:Hid (sumW o s.data.toList s.size s.size=numL o s.data.toList):=by unfold Hid;rw [← sumW_num ho hb,hlen]
 have ho1:=ho
 go_enter Tryz.func135,Tryz.ntmps135
 go_wp2
 go_loop [5,9] (fun n i=>RelBn o s.data.toList s.size n i) (fun _ i=>s.size - (intOf i).toNat)
 case atStart=>exact ⟨0,Nat.zero_le _,rfl,rfl⟩
 case round =>
  obtain ⟨j,hj,rfl,rfl⟩:=hrel
  have hbd:=sumW_bd o s.data.toList (wd:=s.size) (by omega) j (by omega)
  have hbd1:=hbd.1
  have hbd2:sumW o s.data.toList s.size j≤1048576:=by omega
  by_cases hlt:j<s.size
  ·have hlt2:j<s.data.toList.length:=by omega
   have HS:=Lib.hid (sumW_step (o:=o) (wd:=s.size) hlt2)
   have hu:=u8_bd s[j]
   have e:s[j]=s.data.toList[j]:=rfl
   have hpl:=plc_lt (o:=o) (i:=j) (wd:=s.size) hlt
   have hpw:=pow_len (k:=plc o j s.size) (n:=16) (by omega) (by omega)
   have cP: ∀ wx,Calls Tryz.prog 98  #[.int .i64 o,.int .i64 j,.int .i64 s.size] wx (fun e w'=>e= .returned (.int .i64 ((2 ^ plc o j s.size:Nat):Int))∧wx=w'):=fun wx=>placeI_any o j s.size wx ho1 hlt (by omega)
   have hpw2:((2 ^ plc o j s.size:Nat):Int)≤65536:=by have:=Int.ofNat_le.2 hpw;exact this
   have hpw3:0≤((2 ^ plc o j s.size:Nat):Int):=Int.natCast_nonneg _
   clear hbd hpl hpw
   generalize ((2 ^ plc o j s.size:Nat):Int)=q at *
   by_cases h1:(s[j]).toNat=49
   ·have HS2:Hid (sumW o s.data.toList s.size (j+1)=sumW o s.data.toList s.size j+q):=by
     unfold Hid;rw [HS.out,if_pos (by rw [← e];exact h1)]
    have h1':((s[j]).toNat:Int)=49:=by omega
    clear HS e h1 ho ho1
    generalize hf:sumW o s.data.toList s.size j=f at *
    clear hf
    go_wp2_with ((go_at_call 98;(with_reducible refine (cP _).mono ?_);rintro e w' ⟨rfl,rfl⟩))
    go_round
    case rel=>exact ⟨j+1,by omega,by go_num,by rw [HS2.out]⟩
    case measure=>simp [intOf];omega
   ·have HS2:Hid (sumW o s.data.toList s.size (j+1)=sumW o s.data.toList s.size j):=by
     unfold Hid;rw [HS.out,if_neg (by rw [← e];exact h1),Int.add_zero]
    have h1':(((s[j]).toNat:Int) == 49)=false:=by simp;omega
    clear HS e h1 ho ho1 cP
    go_wp2
    go_round
    case rel=>exact ⟨j+1,by omega,by go_num,by rw [HS2.out]⟩
    case measure=>simp [intOf];omega
  ·have HJ:Hid (j=s.size):=by unfold Hid;omega
   go_wp2
   go_ret
   exact ⟨ret_int (by rw [← HT.out,HJ.out]),rfl⟩
def RelUb (o:Int) (s:List UInt8) (w:World) (out i:Value) (wr:World):Prop:= ∃ n:Nat,i= .int .i64 n∧n≤s.length∧ownU wr w.heap.size out (unpackL o (s.take n))∧Up w wr
theorem mk_u8b (n:Nat) (hn:n≤1048576) (w:World):(Instr.makeSlice 22 (.int .i64 0) (.int .i64 (n:Int))).run Tryz.prog w= .ok (.slice (some ⟨w.heap.size,0,none⟩) 0 n) (w.alloc (.cells (madeCells #[.int .u8 0] n) 5)):=by
 obtain ⟨i0,hi0,hz0,hz1,hz2⟩:=info_parts infoByte
 have:=run_make (P:=Tryz.prog) w 22 5 i0 _ Tryz.underlying22 hi0 hz0 .i64 .i64 0 n (by omega) (by omega) (by rw [hz2];omega) (by omega)
 rw [hz1] at this
 simpa [Value.cells] using this
theorem own_mk0b {w:World} {base n:Nat} (hb:base≤w.heap.size) (hn:n≤maxLen):ownU (w.alloc (.cells (madeCells #[.int .u8 0] n) 5)) base (.slice (some ⟨w.heap.size,0,none⟩) 0 n) [] :=
 World.ownsRow_made w _ n hb hn (by simp [madeCells])
theorem unpackL_takeb (o:Int) {s:List UInt8} {i:Nat} (h:i<s.length):unpackL o (s.take (i+1))=unpackL o (s.take i)++codeL o (s[i]).toNat 8:=by
 rw [List.take_succ_eq_append_getElem h,unpackL_snoc]
set_option maxRecDepth 100000 in
set_option maxHeartbeats 4000000 in
theorem unpackBI_any (o:Int) (s:ByteArray) (w:World) (ho:o=0∨o=1) (hs:s.size≤4000) :
  Calls Tryz.prog 82  #[.int .i64 o,.string s] w (Same (.string (bs (unpackL o s.data.toList))) w):=by
 have hlen:=ba_len s
 have hmk:=mk_u8b (8 * s.size) (by omega)
 have e1:Hid (((8 * s.size:Nat):Int)=8 * (s.size:Int)):=by unfold Hid;omega
 rw [e1.out] at hmk
 have HO:=Lib.hid ho
 clear ho
 go_enter Tryz.func82,Tryz.ntmps82
 go_wp2
 go_loopw [5,13] (fun out i wr=>RelUb o s.data.toList w out i wr) (fun _ i _=>s.size - (intOf i).toNat)
 case atStart=>exact ⟨0,rfl,Nat.zero_le _,by rw [List.take_zero];exact own_mk0b (Nat.le_refl _) (by unfold maxLen;omega),by (repeat (first|with_reducible exact Up.refl _|with_reducible assumption|with_reducible refine Up.alloc ?_ _))⟩
 case round =>
  clear hmk
  obtain ⟨n,rfl,hle,hown,hup⟩:=hrel
  obtain ⟨a,c,rfl⟩:=ownsRow_shape hown
  have HOW:=Lib.hid hown
  have HU:=Lib.hid hup
  have hul:(unpackL o (s.data.toList.take n)).length≤32000:=by rw [unpackL_length,List.length_take];omega
  by_cases hlt:n<s.size
  ·have hlt2:n<s.data.toList.length:=by omega
   have hu:=u8_bd s[n]
   have HS:Hid (unpackL o (s.data.toList.take (n+1))=unpackL o (s.data.toList.take n)++codeL o (s[n]).toNat 8):=unpackL_takeb o hlt2
   obtain ⟨cl,hcl⟩: ∃ cl,cl=codeL o (s[n]).toNat 8:=⟨_,rfl⟩
   obtain ⟨d,hd⟩: ∃ d,d=unpackL o (s.data.toList.take n):=⟨_,rfl⟩
   have cB:Calls Tryz.prog 95  #[.slice a d.length c,.int .i64 o,.int .i64 ((s[n]).toNat:Nat),.int .i64 8] wr (fun e w'=> ∃ v',e= .returned v'∧ownU w' w.heap.size v' (d++cl)∧Up w w'):=by
    rw [hcl,hd]
    exact bitsI_any w o (s[n]).toNat 8 _ _ wr HO.out (by omega) (by omega) (by omega) HU.out HOW.out
   rw [← hcl,←hd] at HS
   rw [← hd] at HOW hul ⊢
   clear hcl hd
   clear hown
   go_wp2_with (go_at_call 95;(with_reducible refine cB.mono ?_);rintro e w2 ⟨v2,rfl,ho2,hu2⟩)
   go_roundw
   case rel=>exact ⟨n+1,by go_num,by omega,by rw [HS.out];exact ho2,hu2⟩
   case measure=>simp [intOf];omega
  ·have HT:Hid (s.data.toList.take n=s.data.toList):=List.take_of_length_le (by omega)
   have cv:=conv_any hown rfl
   clear hown
   go_wp2
   go_ret
   exact ⟨ret_str (by rw [HT.out]),hup⟩
end Go.Proofs.YtekogcjdaolcbaaGreatDoor
/- Walk of the program's readCodes. Conditions: what is known is valid and can be read; all bytes are bits, their number is bounded. -/
namespace Go.Proofs.YtekogcjdaolcbaaGreatDoor
open Go Go.RowKit
def RgAt (b:Nat) (k:KnD) (v vc vd:Value) (fin pos:Int) (w:World):Prop:=w.heap[b]? =some (.cells #[.int .i64 k.set.ord,.int .i64 k.set.lit,.int .i64 k.set.most,v,.int .i64 k.base,.int .i64 k.last,vc,vd,.int .i64 fin,.int .i64 pos] 114)
theorem RgAt.cells {b:Nat} {k:KnD} {v vc vd:Value} {fin pos:Int} {w:World} (h:RgAt b k v vc vd fin pos w):b<w.heap.size∧w.cell? ⟨b,0,none⟩=some (.int .i64 k.set.ord)∧w.cell? ⟨b,1,none⟩=some (.int .i64 k.set.lit)∧w.cell? ⟨b,2,none⟩=some (.int .i64 k.set.most)∧w.cell? ⟨b,3,none⟩=some v∧w.cell? ⟨b,4,none⟩=some (.int .i64 k.base)∧w.cell? ⟨b,5,none⟩=some (.int .i64 k.last) ∧
  w.cell? ⟨b,6,none⟩=some vc∧w.cell? ⟨b,7,none⟩=some vd∧w.cell? ⟨b,8,none⟩=some (.int .i64 fin)∧w.cell? ⟨b,9,none⟩=some (.int .i64 pos) :=
 ⟨(Array.getElem?_eq_some_iff.1 h).1,box_cell h 0,box_cell h 1,box_cell h 2,box_cell h 3,box_cell h 4,box_cell h 5,box_cell h 6,box_cell h 7,box_cell h 8,box_cell h 9⟩
abbrev rgV (k:KnD) (v vc vd:Value) (fin pos:Int):Value:= .agg #[.int .i64 k.set.ord,.int .i64 k.set.lit,.int .i64 k.set.most,v,.int .i64 k.base,.int .i64 k.last,vc,vd,.int .i64 fin,.int .i64 pos]
def RgW (w:World) (b:Nat) (k:KnD) (v vc vd:Value) (fin pos:Int):World:=(World.setCell (World.setCell (World.setCell (World.setCell (World.setCell (World.setCell (World.setCell (World.setCell (World.setCell (World.setCell w ⟨b,0,none⟩ (.int .i64 k.set.ord)) ⟨b,1,none⟩ (.int .i64 k.set.lit)) ⟨b,2,none⟩ (.int .i64 k.set.most)) ⟨b,3,none⟩ v) ⟨b,4,none⟩ (.int .i64 k.base)) ⟨b,5,none⟩ (.int .i64 k.last)) ⟨b,6,none⟩ vc) ⟨b,7,none⟩ vd) ⟨b,8,none⟩ (.int .i64 fin)) ⟨b,9,none⟩ (.int .i64 pos))
def RgC (b:Nat) (c0 c1 c2 c3 c4 c5 c6 c7 c8 c9:Value) (w:World):Prop:=w.heap[b]? =some (.cells #[c0,c1,c2,c3,c4,c5,c6,c7,c8,c9] 114)
section
variable {w:World} {b:Nat} {c0 c1 c2 c3 c4 c5 c6 c7 c8 c9:Value}
theorem RgC.s0 (h:RgC b c0 c1 c2 c3 c4 c5 c6 c7 c8 c9 w) (u:Value):RgC b u c1 c2 c3 c4 c5 c6 c7 c8 c9 (w.setCell ⟨b,0,none⟩ u):=box_set h 0 u
theorem RgC.s1 (h:RgC b c0 c1 c2 c3 c4 c5 c6 c7 c8 c9 w) (u:Value):RgC b c0 u c2 c3 c4 c5 c6 c7 c8 c9 (w.setCell ⟨b,1,none⟩ u):=box_set h 1 u
theorem RgC.s2 (h:RgC b c0 c1 c2 c3 c4 c5 c6 c7 c8 c9 w) (u:Value):RgC b c0 c1 u c3 c4 c5 c6 c7 c8 c9 (w.setCell ⟨b,2,none⟩ u):=box_set h 2 u
theorem RgC.s3 (h:RgC b c0 c1 c2 c3 c4 c5 c6 c7 c8 c9 w) (u:Value):RgC b c0 c1 c2 u c4 c5 c6 c7 c8 c9 (w.setCell ⟨b,3,none⟩ u):=box_set h 3 u
theorem RgC.s4 (h:RgC b c0 c1 c2 c3 c4 c5 c6 c7 c8 c9 w) (u:Value):RgC b c0 c1 c2 c3 u c5 c6 c7 c8 c9 (w.setCell ⟨b,4,none⟩ u):=box_set h 4 u
theorem RgC.s5 (h:RgC b c0 c1 c2 c3 c4 c5 c6 c7 c8 c9 w) (u:Value):RgC b c0 c1 c2 c3 c4 u c6 c7 c8 c9 (w.setCell ⟨b,5,none⟩ u):=box_set h 5 u
theorem RgC.s6 (h:RgC b c0 c1 c2 c3 c4 c5 c6 c7 c8 c9 w) (u:Value):RgC b c0 c1 c2 c3 c4 c5 u c7 c8 c9 (w.setCell ⟨b,6,none⟩ u):=box_set h 6 u
theorem RgC.s7 (h:RgC b c0 c1 c2 c3 c4 c5 c6 c7 c8 c9 w) (u:Value):RgC b c0 c1 c2 c3 c4 c5 c6 u c8 c9 (w.setCell ⟨b,7,none⟩ u):=box_set h 7 u
theorem RgC.s8 (h:RgC b c0 c1 c2 c3 c4 c5 c6 c7 c8 c9 w) (u:Value):RgC b c0 c1 c2 c3 c4 c5 c6 c7 u c9 (w.setCell ⟨b,8,none⟩ u):=box_set h 8 u
theorem RgC.s9 (h:RgC b c0 c1 c2 c3 c4 c5 c6 c7 c8 c9 w) (u:Value):RgC b c0 c1 c2 c3 c4 c5 c6 c7 c8 u (w.setCell ⟨b,9,none⟩ u):=box_set h 9 u
end
theorem RgAt.store {w:World} {b:Nat} {k0:KnD} {v0 vc0 vd0:Value} {fin0 pos0:Int} (h:RgAt b k0 v0 vc0 vd0 fin0 pos0 w) (k:KnD) (v vc vd:Value) (fin pos:Int):RgAt b k v vc vd fin pos (RgW w b k v vc vd fin pos) :=
 ((((((((((show RgC b _ _ _ _ _ _ _ _ _ _ w from h).s0 (.int .i64 k.set.ord)).s1 (.int .i64 k.set.lit)).s2 (.int .i64 k.set.most)).s3 v).s4 (.int .i64 k.base)).s5 (.int .i64 k.last)).s6 vc).s7 vd).s8 (.int .i64 fin)).s9 (.int .i64 pos)
theorem RgAt.storeK {w:World} {b:Nat} {k0:KnD} {v0 vc vd:Value} {fin pos:Int} (h:RgAt b k0 v0 vc vd fin pos w) (k:KnD) (v:Value):RgAt b k v vc vd fin pos (KnW w b k v) :=
 ((((((show RgC b _ _ _ _ _ _ _ _ _ _ w from h).s0 (.int .i64 k.set.ord)).s1 (.int .i64 k.set.lit)).s2 (.int .i64 k.set.most)).s3 v).s4 (.int .i64 k.base)).s5 (.int .i64 k.last)
theorem RgW.up {a w:World} (h:Up a w) {b:Nat} (hb:a.heap.size≤b) (k:KnD) (v vc vd:Value) (fin pos:Int):Up a (RgW w b k v vc vd fin pos):=by
 unfold RgW
 repeat (refine Up.set ?_ (by exact hb) _)
 exact h
theorem RgW.own {w:World} {base:Nat} {e:TypeId} {size n:Nat} {u:Value} {xs:List Value} (h:w.ownsRow base e size u n xs) {b:Nat} (hb:some b≠u.ownBlock) (k:KnD) (v vc vd:Value) (fin pos:Int):(RgW w b k v vc vd fin pos).ownsRow base e size u n xs:=by
 unfold RgW
 repeat (refine ownsRow_setb ?_ hb _ _)
 exact h
theorem fr_grown {v:Value} {w w':World} (h:Fr (fun b=>v.ownBlock=some b) w w'):w.grownBy w' v.ownBlock:=⟨h.os,h.tape,h.output,h.size,fun b hb hne=>h.block b hb (fun e=>hne e.symm)⟩
theorem gOut_adv {f:FuncId} {args:Array Value} {w:World} {k:KnD} {B:Nat} {v:Value} (h:Calls Tryz.prog f args w (AdvPost k B v w)):gOut Tryz.prog (fun w w'=>w.grownBy w' v.ownBlock) (fun u w'=> ∃ vv,u=kV k vv∧ownPr w' B vv k.ps) w (.ok (.enter f args) w) :=
 ⟨rfl,h.mono fun e w'' ⟨vv,he,ho,hf⟩=>⟨_,he,fr_grown hf,vv,rfl,ho⟩⟩
structure RcB (w:World) (k0:KnD) (v0:Value) (rb:Nat) (k:KnD) (v:Value) (cs:List Int) (vc:Value) (d:List UInt8) (vd:Value) (fin pos:Int) (wr:World):Prop where
 kn0:KnAt w.heap.size k0 v0 wr
 res:RgAt (w.heap.size+1) ⟨⟨0,0,0⟩,[],0,0⟩ (.slice none 0 0) (.slice none 0 0) (.slice none 0 0) 0 0 wr
 box:RgAt rb k v vc vd fin pos wr
 lo:w.heap.size+2≤rb
 pr:ownPr wr (w.heap.size+2) v k.ps
 own:ownI wr (w.heap.size+2) vc cs
 dat:ownU wr (w.heap.size+2) vd d
 up:Up w wr
section
variable {w:World} {k0:KnD} {v0:Value} {rb:Nat} {k k':KnD} {v v':Value} {cs cs':List Int} {vc vc':Value} {d d':List UInt8} {vd vd':Value} {fin pos fin' pos':Int} {wr w':World}
theorem RcB.upd (h:RcB w k0 v0 rb k v cs vc d vd fin pos wr) (hu:Up wr w'):RcB w k0 v0 rb k v cs vc d vd fin pos w' :=
 ⟨h.kn0.up hu,box_up hu h.res,box_up hu h.box,h.lo,ownsRow_up h.pr hu,ownsRow_up h.own hu,ownsRow_up h.dat hu,h.up.trans hu⟩
theorem RcB.set (h:RcB w k0 v0 rb k v cs vc d vd fin pos wr) (i:Nat) (u:Value) {kx:KnD} {vx vcx vdx:Value} {fx px:Int} (hb:RgAt rb kx vx vcx vdx fx px wr) (hb':RgAt rb k' v' vc' vd' fin' pos' (wr.setCell ⟨rb,i,none⟩ u)) (hp:ownPr wr (w.heap.size+2) v' k'.ps) (ho:ownI wr (w.heap.size+2) vc' cs') (hd:ownU wr (w.heap.size+2) vd' d') :
  RcB w k0 v0 rb k' v' cs' vc' d' vd' fin' pos' (wr.setCell ⟨rb,i,none⟩ u) :=
 have hl:=h.lo
 ⟨(Below.heap_setCell _ _ _ _ (show w.heap.size≠rb by omega)).trans h.kn0,(Below.heap_setCell _ _ _ _ (show w.heap.size+1≠rb by omega)).trans h.res,hb',hl,ownsRow_setb hp (box_ne hb hp (by decide)) i u,ownsRow_setb ho (box_ne hb ho (by decide)) i u,ownsRow_setb hd (box_ne hb hd (by decide)) i u,h.up.set (p:=⟨rb,i,none⟩) (by show w.heap.size≤rb;omega) u⟩
theorem RcB.setF (h:RcB w k0 v0 rb k v cs vc d vd fin pos wr) (f:Int):RcB w k0 v0 rb k v cs vc d vd f pos (wr.setCell ⟨rb,8,none⟩ (.int .i64 f)):=h.set 8 _ h.box (box_set h.box 8 _) h.pr h.own h.dat
theorem RcB.setP (h:RcB w k0 v0 rb k v cs vc d vd fin pos wr) (p:Int):RcB w k0 v0 rb k v cs vc d vd fin p (wr.setCell ⟨rb,9,none⟩ (.int .i64 p)):=h.set 9 _ h.box (box_set h.box 9 _) h.pr h.own h.dat
structure RcG (w:World) (k0:KnD) (v0:Value) (rb:Nat) (k:KnD) (v:Value) (vc:Value) (vd:Value) (fin pos:Int) (wr:World):Prop where
 kn0:KnAt w.heap.size k0 v0 wr
 res:RgAt (w.heap.size+1) ⟨⟨0,0,0⟩,[],0,0⟩ (.slice none 0 0) (.slice none 0 0) (.slice none 0 0) 0 0 wr
 box:RgAt rb k v vc vd fin pos wr
 up:Up w wr
theorem RcB.grown {e:TypeId} {size n base:Nat} {vr:Value} {xs:List Value} (h:RcB w k0 v0 rb k v cs vc d vd fin pos wr) (ho:wr.ownsRow base e size vr n xs) (hbase:w.heap.size+2≤base) (he:114≠e) (hg:wr.grownBy w' vr.ownBlock):RcG w k0 v0 rb k v vc vd fin pos w' :=
 ⟨h.kn0.gr hg (low_ne (w:=w) ho (by omega)),gbox hg h.res (low_ne (w:=w) ho (by omega)),gbox hg h.box (box_ne h.box ho he),h.up.grown hg fun y hy=>by have:=(ho.lt y hy).1;omega⟩
theorem RcB.putC (h:RcB w k0 v0 rb k v cs vc d vd fin pos wr) (hg:wr.grownBy w' vc.ownBlock) (hn:ownI w' (w.heap.size+2) vc' cs'):RcB w k0 v0 rb k v cs' vc' d vd fin pos (w'.setCell ⟨rb,6,none⟩ vc'):=by
 have hG:=h.grown h.own (Nat.le_refl _) (by decide) hg
 have hp:=h.pr.kept hg (rows_ne h.pr h.own (by decide))
 have hd:=h.dat.kept hg (rows_ne h.dat h.own (by decide))
 have hl:=h.lo
 exact ⟨(Below.heap_setCell _ _ _ _ (show w.heap.size≠rb by omega)).trans hG.kn0,(Below.heap_setCell _ _ _ _ (show w.heap.size+1≠rb by omega)).trans hG.res,box_set hG.box 6 _,hl,ownsRow_setb hp (box_ne hG.box hp (by decide)) _ _,ownsRow_setb hn (box_ne hG.box hn (by decide)) _ _,ownsRow_setb hd (box_ne hG.box hd (by decide)) _ _,hG.up.set (p:=⟨rb,6,none⟩) (by show w.heap.size≤rb;omega) _⟩
theorem RcB.putD (h:RcB w k0 v0 rb k v cs vc d vd fin pos wr) (hg:wr.grownBy w' vd.ownBlock) (hn:ownU w' (w.heap.size+2) vd' d'):RcB w k0 v0 rb k v cs vc d' vd' fin pos (w'.setCell ⟨rb,7,none⟩ vd'):=by
 have hG:=h.grown h.dat (Nat.le_refl _) (by decide) hg
 have hp:=h.pr.kept hg (rows_ne h.pr h.dat (by decide))
 have ho:=h.own.kept hg (rows_ne h.own h.dat (by decide))
 have hl:=h.lo
 exact ⟨(Below.heap_setCell _ _ _ _ (show w.heap.size≠rb by omega)).trans hG.kn0,(Below.heap_setCell _ _ _ _ (show w.heap.size+1≠rb by omega)).trans hG.res,box_set hG.box 7 _,hl,ownsRow_setb hp (box_ne hG.box hp (by decide)) _ _,ownsRow_setb ho (box_ne hG.box ho (by decide)) _ _,ownsRow_setb hn (box_ne hG.box hn (by decide)) _ _,hG.up.set (p:=⟨rb,7,none⟩) (by show w.heap.size≤rb;omega) _⟩
theorem RcB.putK (h:RcB w k0 v0 rb k v cs vc d vd fin pos wr) (hg:wr.grownBy w' v.ownBlock) (hn:ownPr w' (w.heap.size+2) v' k'.ps):RcB w k0 v0 rb k' v' cs vc d vd fin pos (KnW w' rb k' v'):=by
 have hG:=h.grown h.pr (Nat.le_refl _) (by decide) hg
 have ho:=h.own.kept hg (rows_ne h.own h.pr (by decide))
 have hd:=h.dat.kept hg (rows_ne h.dat h.pr (by decide))
 have hl:=h.lo
 exact ⟨(KnW.other (show w.heap.size≠rb by omega) k' v').trans hG.kn0,(KnW.other (show w.heap.size+1≠rb by omega) k' v').trans hG.res,hG.box.storeK k' v',hl,
  KnW.own hn (box_ne hG.box hn (by decide)) k' v',KnW.own ho (box_ne hG.box ho (by decide)) k' v',KnW.own hd (box_ne hG.box hd (by decide)) k' v',KnW.up hG.up (by omega) k' v'⟩
end
structure RcD (T:RdR) (o:Int) (bits:List UInt8) (sz ct:Nat) (k0:KnD) (m:Nat) (k:KnD) (p:Nat) (cs:List Int) (d:List UInt8):Prop where
 inv:RdInv bits sz k0 k p cs d
 tot:readN o bits sz ct m k p cs d=T
 len:bits.length≤p+m
 cl:ct+cs.length<3100
def RelRc (T:RdR) (bits:List UInt8) (sz ct:Nat) (k0:KnD) (v0:Value) (w:World) (rb:Nat) (q:Value) (wr:World):Prop:= ∃ (k:KnD) (v vc vd:Value) (p m:Nat) (cs:List Int) (d:List UInt8),RcD T k0.set.ord bits sz ct k0 m k p cs d∧RcB w k0 v0 rb k v cs vc d vd 1 p wr
def posOf (rb:Nat) (wr:World):Nat:=match wr.cell? ⟨rb,9,none⟩ with
 |some (.int _ n)=>n.toNat
 |_=>0
theorem posOf_box {rb:Nat} {wr:World} {k:KnD} {v vc vd:Value} {fin pos:Int} (h:RgAt rb k v vc vd fin pos wr):posOf rb wr=pos.toNat:=by
 unfold posOf
 rw [(h.cells).2.2.2.2.2.2.2.2.2.2]
def RcPost (R:RdR) (w:World) (e:Ending) (w':World):Prop:= ∃ v vc vd,e= .returned (rgV R.k v vc vd R.fin R.pos)∧ownPr w' w.heap.size v R.k.ps∧ownI w' w.heap.size vc R.codes∧ownU w' w.heap.size vd R.data∧Up w w'
theorem RcPost.of {w:World} {k0:KnD} {v0:Value} {rb:Nat} {k:KnD} {v:Value} {cs:List Int} {vc:Value} {d:List UInt8} {vd:Value} {fin:Int} {p:Nat} {wr:World} (h:RcB w k0 v0 rb k v cs vc d vd fin p wr):RcPost ⟨k,cs,d,fin,p⟩ w (.returned (rgV k v vc vd fin p)) (RgW wr (w.heap.size+1) k v vc vd fin p) :=
 ⟨v,vc,vd,rfl,ownsRow_base (RgW.own h.pr (low_ne (w:=w) h.pr (by omega)) ..) (by omega),ownsRow_base (RgW.own h.own (low_ne (w:=w) h.own (by omega)) ..) (by omega),ownsRow_base (RgW.own h.dat (low_ne (w:=w) h.dat (by omega)) ..) (by omega),RgW.up h.up (by omega) ..⟩
theorem top_follows {k:KnD} (h:k.Ok) {x:Int} (h0:0≤x) (h1:x≤(k.top:Int)) (h2:x≠(k.c:Int)+1) (h3:x≠(k.c:Int)):k.follows x=true:=by
 unfold KnD.follows
 rw [Bool.or_eq_true,Bool.and_eq_true,codeOk_iff,decide_eq_true_iff]
 unfold KnD.top at h1
 unfold KnD.next at *
 split at h1
 ·next hg =>
  by_cases hx:x=((k.c+2+k.ps.length:Nat):Int)
  ·exact .inr ⟨hg,hx⟩
  ·left;omega
 ·left;omega
theorem follows_top {k:KnD} (h:k.Ok) {x:Int} (h1: ¬ x≤(k.top:Int)):x≠(k.c:Int)+1∧x≠(k.c:Int)∧k.follows x=false:=by
 have ht:=(KnD.top_bd h).1
 refine ⟨by omega,by omega,?_⟩
 cases hf:k.follows x
 ·rfl
 ·exact absurd (KnD.fol_top h hf).2 h1
set_option maxRecDepth 100000 in
set_option maxHeartbeats 8000000 in
theorem readI_any (k:KnD) (v:Value) (lo:Nat) (bits:List UInt8) (sz ct:Nat) (w:World) (h:k.Ok) (hr:RdP lo w v k.ps) (hb:isBits bits) (hl:bits.length≤40000) (hs:sz≤2000) (hc:ct<3100) :
  Calls Tryz.prog 83  #[kV k v,.string (bs bits),.int .i64 sz,.int .i64 ct] w (RcPost (readN k.set.ord bits sz ct bits.length k 0 [] []) w):=by
 obtain ⟨i0,hi,hz0,hz1,hz2⟩:=info_parts infoIntG
 have hpl0:=h.nums.2.2.2.1
 have cY:=fun wx hr=>copyI_any k v lo wx hr (by omega)
 have cK0:=fun wx=>clearI_any k.set wx h.set
 have cE0:=fun wx=>endI_any k.set wx h.set
 have hrt:=fun (wq:World) (hu:Up w wq)=>hr.up hu
 have HKT:=Lib.hid h
 obtain ⟨T,hT⟩: ∃ T,T=readN k.set.ord bits sz ct bits.length k 0 [] []:=⟨_,rfl⟩
 rw [← hT]
 have HTT:=Lib.hid hT.symm
 have HIB:=Lib.hid hb
 have hord0:=(setOk_bd h.set).1
 have HOR:=Lib.hid hord0
 have hbz:=bs_size bits
 obtain ⟨a,cap,rfl,-,-,-,-⟩:=hr
 simp only [kV] at *
 clear h hT hb hord0
 go_enter Tryz.func83,Tryz.ntmps83
 go_wp2_with (go_at_call 35;(with_reducible refine (cY _ (hrt _ (by (repeat (first|with_reducible exact Up.refl _|with_reducible assumption|with_reducible refine Up.alloc ?_ _|refine Up.trans ?_ (by with_reducible assumption)))))).mono ?_);rintro e w2 ⟨v2,rfl,ho2,U2⟩;obtain ⟨a2,c2,rfl⟩:=ownsRow_shape ho2;have hk2:KnAt w.heap.size k (.slice a k.ps.length cap) w2:=box_up U2 (box_up ((Up.refl _).alloc _) (MapKept.heap_alloc w _).1);have hq2:RgAt (w.heap.size+1) ⟨⟨0,0,0⟩,[],0,0⟩ (.slice none 0 0) (.slice none 0 0) (.slice none 0 0) 0 0 w2:=box_up U2 (alloc2 w _ _);have hU2:Up w w2:=(by (repeat (first|with_reducible exact Up.refl _|with_reducible assumption|with_reducible refine Up.alloc ?_ _|refine Up.trans ?_ (by with_reducible assumption))));have hs2:=U2.size;simp at hs2;have hm2:RcB w k (.slice a k.ps.length cap) w2.heap.size k (.slice a2 k.ps.length c2) [] (.slice none 0 0) [] (.slice none 0 0) 1 0 (w2.alloc (.cells #[.int .i64 k.set.ord,.int .i64 k.set.lit,.int .i64 k.set.most,.slice a2 k.ps.length c2,.int .i64 k.base,.int .i64 k.last,.slice none 0 0,.slice none 0 0,.int .i64 1,.int .i64 0] 114)):=⟨box_up ((Up.refl _).alloc _) hk2,box_up ((Up.refl _).alloc _) hq2,(MapKept.heap_alloc w2 _).1,hs2,ownsRow_base (ownsRow_up ho2 ((Up.refl _).alloc _)) (by simp),World.ownsRow_nil _ _ _ _,World.ownsRow_nil _ _ _ _,hU2.alloc _⟩;have HM2:=Lib.hid hm2;clear ho2 hk2 hq2 hm2 hU2)
 generalize w2.alloc (.cells #[.int .i64 k.set.ord,.int .i64 k.set.lit,.int .i64 k.set.most,.slice a2 k.ps.length c2,.int .i64 k.base,.int .i64 k.last,.slice none 0 0,.slice none 0 0,.int .i64 1,.int .i64 0] 114)=W at HM2 ⊢
 generalize w2.heap.size=rb at *
 refine wp_region_upf 6 (by kernel_rfl) (by kernel_rfl) ?_
 simp only [List.take,List.drop]
 repeat (refine wpUp_step (fun K hK=>?_);go_simp;(try simp only [↓IntWalk.iteOmega]);first
  |(refine hK _ _ ?_;clear hK K)
  |(apply stepU_c
    ·intro wq hwq;(have hbq:=bcell hwq;(repeat (first|refine fills_no (by rfl) ?_|refine fills_yes (by rfl) (fun vq hvq=>?_)));simp only [List.filter_nil,fills];unfold upAt;(try ((obtain ⟨-,s0,s1,s2,s3,s4,s5⟩:=(HM2.out.kn0.up hwq).cells)));go_simp;(try go_bits);(try simp only [↓IntWalk.iteOmega]);first|exact upOut_value|(apply upOut_call;(go_at_call 40;exact cK0 _))|(apply upOut_eq;(go_at_call 40;exact cK0 _))|(apply upOut_call;(go_at_call 58;exact cE0 _))|(apply upOut_eq;(go_at_call 58;exact cE0 _)))
    go_simp;refine hK _ _ ?_;clear hK K))
 refine wpUp_nil (fun wq hwq=>?_)
 simp only [fills]
 have HM3:=Lib.hid (HM2.out.upd hwq)
 clear hwq
 go_wp2
 rw [onlyN_normal]
 go_wp2
 have hlo:=HM3.out.lo
 go_loopw [12] (fun q wr=>RelRc T bits sz ct k (.slice a k.ps.length cap) w rb q wr) (fun _ wr=>bits.length - posOf rb wr)
 case atStart=>exact ⟨k,_,_,_,0,bits.length,[],[],⟨RdInv.start HKT.out hs,HTT.out,by omega,by simpa using hc⟩,HM3.out⟩
 case round =>
  clear HM2 HM3 cY hrt hs2
  obtain ⟨k',v',vc,vd,p,m,cs,d,hD,hB⟩:=hrel
  have HD:=Lib.hid hD
  have HB:=Lib.hid hB
  have HB0:=Lib.hid hB
  have hok:=hD.inv.ok
  obtain ⟨a',c',rfl⟩:=ownsRow_shape hB.pr
  obtain ⟨aw,cw,rfl⟩:=ownsRow_shape hB.own
  obtain ⟨ad,cd,rfl⟩:=ownsRow_shape hB.dat
  obtain ⟨hbr,r0,r1,r2,r3,r4,r5,r6,r7,r8,r9⟩:=(hB).box.cells;have hfb:=box_free (hB).box
  obtain ⟨hbq,q0,q1,q2,q3,q4,q5,q6,q7,q8,q9⟩:=RgAt.cells (k:=⟨⟨0,0,0⟩,[],0,0⟩) (hB).res;have hfq:=box_free (hB).res
  obtain ⟨hbk,s0,s1,s2,s3,s4,s5⟩:=hB.kn0.cells
  have hdl:=hD.inv.dl
  have hcl:=hD.cl
  have hpl:=hD.inv.pos
  have hlm:=hD.len
  have HSET:=Lib.hid hD.inv.set
  have hcc:Hid (k'.c=clr k.set):=by unfold Hid KnD.c;rw [HSET.out]
  have cWd:=fun wq hr=>widthI_any k' (.slice a' k'.ps.length c') (w.heap.size+2) wq hok hr
  obtain ⟨hb1,hb2,-,-,-⟩:=hok.nums
  have hwd:=KnD.width_bd hok
  have hwd1:=hwd.1
  have hwd2:=hwd.2
  clear hD hB hwd
  by_cases hsh:bits.length<p+k'.width
  ·have HR:Hid (T=⟨k',cs,d,1,p⟩):=by unfold Hid;rw [← HD.out.tot,readN_short hsh]
   generalize k'.width=wd at *
   simp only [kV] at *
   go_wp2_with ((go_at_call 84;(with_reducible refine (cWd _ (RdP.of_own HB.out.pr)).mono ?_);rintro e w3 ⟨rfl,U3⟩;have B3:=bcell U3;have Z3:=U3.size;(try simp at Z3);(try rw [Nat.add_one_le_iff] at Z3));obtain ⟨hbr,r0,r1,r2,r3,r4,r5,r6,r7,r8,r9⟩:=(HB.out.upd U3).box.cells;have hfb:=box_free (HB.out.upd U3).box;obtain ⟨hbq,q0,q1,q2,q3,q4,q5,q6,q7,q8,q9⟩:=RgAt.cells (k:=⟨⟨0,0,0⟩,[],0,0⟩) (HB.out.upd U3).res;have hfq:=box_free (HB.out.upd U3).res)
   have HFI:=Lib.hid (HB.out.upd U3)
   have HQI:=Lib.hid (RgAt.store (HFI.out).res ((k')) (.slice a' k'.ps.length c') (.slice aw cs.length cw) (.slice ad d.length cd) (1) ((p:Int)))
   rw [show (World.setCell (World.setCell (World.setCell (World.setCell (World.setCell (World.setCell (World.setCell (World.setCell (World.setCell (World.setCell w3 ⟨w.heap.size+1,0,none⟩ (.int .i64 (k').set.ord)) ⟨w.heap.size+1,1,none⟩ (.int .i64 (k').set.lit)) ⟨w.heap.size+1,2,none⟩ (.int .i64 (k').set.most)) ⟨w.heap.size+1,3,none⟩ (.slice a' k'.ps.length c')) ⟨w.heap.size+1,4,none⟩ (.int .i64 (k').base)) ⟨w.heap.size+1,5,none⟩ (.int .i64 (k').last)) ⟨w.heap.size+1,6,none⟩ (.slice aw cs.length cw)) ⟨w.heap.size+1,7,none⟩ (.slice ad d.length cd)) ⟨w.heap.size+1,8,none⟩ (.int .i64 1)) ⟨w.heap.size+1,9,none⟩ (.int .i64 (p:Int)))=RgW w3 (w.heap.size+1) ((k')) (.slice a' k'.ps.length c') (.slice aw cs.length cw) (.slice ad d.length cd) (1) ((p:Int)) from rfl]
   have HPO:=Lib.hid (RcPost.of HFI.out)
   obtain ⟨hbq,q0,q1,q2,q3,q4,q5,q6,q7,q8,q9⟩:=HQI.out.cells
   rw [HR.out]
   refine bodyPost_ret (v:=rgV ((k')) (.slice a' k'.ps.length c') (.slice aw cs.length cw) (.slice ad d.length cd) (1) ((p:Int))) (by simp [results,Tryz.results83,go_sem,q0,q1,q2,q3,q4,q5,q6,q7,q8,q9]) rfl ?_
   exact HPO.out
  ·obtain ⟨x,hx⟩: ∃ x,codeAt k.set.ord bits p k'.width=x:=⟨_,rfl⟩
   have hxb:=codeAt_bd (o:=k.set.ord) HIB.out (p:=p) (by omega:k'.width≤16)
   rw [hx] at hxb
   have HX:=Lib.hid hx
   have hsub:(bs bits).extract p (p+k'.width)=bs ((bits.drop p).take k'.width):=by rw [bs_ext,Nat.add_sub_cancel_left]
   have cN:=fun wx=>bitsN_any k.set.ord ((bs bits).extract p (p+k'.width)) wx HOR.out (by rw [hsub,bs_data];exact (HIB.out.drop _).take _) (by rw [hsub,bs_size,List.length_take];omega)
   have hnum:numL k.set.ord ((bs bits).extract p (p+k'.width)).data.toList=x:=by rw [hsub,bs_data];exact hx
   rw [hnum] at cN
   obtain ⟨m',rfl⟩: ∃ m',m=m'+1:=⟨m - 1,by omega⟩
   have HSH:=Lib.hid hsh
   have hxc:=hok.c_bd
   have HOK:=Lib.hid hok
   have hx0:=hxb.1
   have hxlt:=hxb.2
   have hcan0:=fun wq hr=>canI_any k' (.slice a' k'.ps.length c') (w.heap.size+2) x wq hok hr hx0
   have htopl:=(KnD.top_bd hok).1
   clear hsub hnum hx hlm hxb
   generalize hwe:k'.width=wd at *
   have HWE:=Lib.hid hwe
   clear hok hwe
   simp only [kV] at *
   go_wp2_with ((go_at_call 84;(with_reducible refine (cWd _ (RdP.of_own HB.out.pr)).mono ?_);rintro e w3 ⟨rfl,U3⟩;have B3:=bcell U3;have Z3:=U3.size;(try simp at Z3);(try rw [Nat.add_one_le_iff] at Z3));obtain ⟨hbr,r0,r1,r2,r3,r4,r5,r6,r7,r8,r9⟩:=(HB.out.upd U3).box.cells;have hfb:=box_free (HB.out.upd U3).box)
   refine wp_region_up 13 (by kernel_rfl) (by kernel_rfl) ?_
   simp only [List.take,List.drop]
   repeat (refine wpUp_step (fun K hK=>?_);go_simp;(try simp only [↓IntWalk.iteOmega]);first
    |(refine hK _ _ ?_;clear hK K)
    |(apply stepU_c
      ·intro wq hwq;(have hbq:=bcell hwq;(repeat (first|refine fills_no (by rfl) ?_|refine fills_yes (by rfl) (fun vq hvq=>?_)));simp only [List.filter_nil,fills];unfold upAt;(try ((obtain ⟨hbr,r0,r1,r2,r3,r4,r5,r6,r7,r8,r9⟩:=((HB.out.upd U3).upd hwq).box.cells;have hfb:=box_free ((HB.out.upd U3).upd hwq).box;obtain ⟨hbk,s0,s1,s2,s3,s4,s5⟩:=(((HB.out.upd U3).upd hwq).kn0).cells)));go_simp;(try go_bits);(try simp only [↓IntWalk.iteOmega]);first|exact upOut_value|(apply upOut_call;(go_at_call 135;exact cN _))|(apply upOut_eq;(go_at_call 135;exact cN _)))
      go_simp;refine hK _ _ ?_;clear hK K))
   refine wpUp_nil (fun wq hwq=>?_)
   simp only [fills]
   have HB4:=Lib.hid ((HB.out.upd U3).upd hwq)
   clear hwq U3 B3 Z3 HB cN cWd
   obtain ⟨hbr,r0,r1,r2,r3,r4,r5,r6,r7,r8,r9⟩:=(HB4.out).box.cells;have hfb:=box_free (HB4.out).box
   go_wp2_with fail
   have hB7:=HB4.out.setP ((p:Int)+(wd:Int))
   have HB7:=Lib.hid hB7
   clear hB7
   generalize World.setCell wq ⟨rb,9,none⟩ (.int .i64 ((p:Int)+(wd:Int)))=w7 at HB7 ⊢
   by_cases htp:x≤((k'.top:Nat):Int)
   ·have hcan:decide (x≤((k'.top:Nat):Int))=true:=decide_eq_true htp
    simp only [hcan] at hcan0
    have HTP:=Lib.hid htp
    clear hcan htp
    (with_reducible refine (hcan0 _ (RdP.of_own HB7.out.pr)).mono ?_)
    rintro e w8 ⟨rfl,U8⟩
    have HB8:=Lib.hid (HB7.out.upd U8)
    clear U8 HB7 hcan0
    obtain ⟨hbr,r0,r1,r2,r3,r4,r5,r6,r7,r8,r9⟩:=(HB8.out).box.cells;have hfb:=box_free (HB8.out).box
    obtain ⟨hbq,q0,q1,q2,q3,q4,q5,q6,q7,q8,q9⟩:=RgAt.cells (k:=⟨⟨0,0,0⟩,[],0,0⟩) (HB8.out).res;have hfq:=box_free (HB8.out).res
    by_cases hx1:x=(clr k.set:Int)+1
    ·have HX1:Hid (x=(k'.c:Int)+1):=by unfold Hid;rw [hcc.out];exact hx1
     have HR:Hid (T=⟨k',cs++ [x],d,0,p+wd⟩):=by
      unfold Hid;rw [← HD.out.tot,readN_end (x:=x) (by rw [HWE.out];exact HX.out) (by rw [HWE.out];exact HSH.out) HX1.out,HWE.out]
     have hx1e:(x == (clr k.set:Int)+1)=true:=by simpa using hx1
     clear hx1
     go_wp2_with ((at_builtin;refine wpList_append_own _ rfl _ _ 79 rfl (w.heap.size+2) 3 i0 (.int .i64 0) 1 8 Tryz.underlying79 hi hz0 hz1 hz2 rfl (by decide) _ _ _ rfl (ownsRow_up (HB8.out).own (Up.alloc (Up.refl _) _)) ⟨w8.heap.size,0,none⟩ 1 1 [.int .i64 x] rfl rfl (new_cells [.int .i64 x] _ rfl) (by intro u hu;simp at hu;subst hu;rfl) (by unfold maxLen;omega) (by omega) (by have:=(HB8.out).kn0.cells.1;have:=(HB8.out).res.cells.1;simp;omega) ?_;rintro v12 w12 hown12 hgr12 -;obtain ⟨a12,c12,rfl⟩:=ownsRow_shape hown12;have hg12:=((HB8.out).upd (Up.alloc (Up.refl _) _)).grown ((HB8.out).upd (Up.alloc (Up.refl _) _)).own (Nat.le_refl _) (by decide) hgr12;have hb12:=((HB8.out).upd (Up.alloc (Up.refl _) _)).putC hgr12 (ownI_snoc hown12);obtain ⟨hbr,r0,r1,r2,r3,r4,r5,r6,r7,r8,r9⟩:=(hg12).box.cells;have hfb:=box_free (hg12).box;obtain ⟨hbq,q0,q1,q2,q3,q4,q5,q6,q7,q8,q9⟩:=RgAt.cells (k:=⟨⟨0,0,0⟩,[],0,0⟩) (hg12).res;have hfq:=box_free (hg12).res;have HB12:=Lib.hid hb12;clear hb12 hown12 hgr12 hg12))
     have HFI:=Lib.hid (HB12.out.setF 0)
     have HQI:=Lib.hid (RgAt.store (HFI.out).res ((k')) (.slice a' k'.ps.length c') (.slice a12 (cs.length+1) c12) (.slice ad d.length cd) (0) (((p:Int)+(wd:Int))))
     rw [show (World.setCell (World.setCell (World.setCell (World.setCell (World.setCell (World.setCell (World.setCell (World.setCell (World.setCell (World.setCell (World.setCell (World.setCell w12 ⟨rb,6,none⟩ (.slice a12 (cs.length+1) c12)) ⟨rb,8,none⟩ (.int .i64 0)) ⟨w.heap.size+1,0,none⟩ (.int .i64 (k').set.ord)) ⟨w.heap.size+1,1,none⟩ (.int .i64 (k').set.lit)) ⟨w.heap.size+1,2,none⟩ (.int .i64 (k').set.most)) ⟨w.heap.size+1,3,none⟩ (.slice a' k'.ps.length c')) ⟨w.heap.size+1,4,none⟩ (.int .i64 (k').base)) ⟨w.heap.size+1,5,none⟩ (.int .i64 (k').last)) ⟨w.heap.size+1,6,none⟩ (.slice a12 (cs.length+1) c12)) ⟨w.heap.size+1,7,none⟩ (.slice ad d.length cd)) ⟨w.heap.size+1,8,none⟩ (.int .i64 0)) ⟨w.heap.size+1,9,none⟩ (.int .i64 ((p:Int)+(wd:Int))))=RgW (World.setCell (World.setCell w12 ⟨rb,6,none⟩ (.slice a12 (cs.length+1) c12)) ⟨rb,8,none⟩ (.int .i64 0)) (w.heap.size+1) ((k')) (.slice a' k'.ps.length c') (.slice a12 (cs.length+1) c12) (.slice ad d.length cd) (0) (((p:Int)+(wd:Int))) from rfl]
     have HPO:=Lib.hid (RcPost.of (p:=p+wd) (by have h:=HFI.out;rw [← Int.natCast_add] at h;exact h))
     obtain ⟨hbq,q0,q1,q2,q3,q4,q5,q6,q7,q8,q9⟩:=HQI.out.cells
     rw [HR.out]
     refine bodyPost_ret (v:=rgV ((k')) (.slice a' k'.ps.length c') (.slice a12 (cs.length+1) c12) (.slice ad d.length cd) (0) (((p:Int)+(wd:Int)))) (by simp [results,Tryz.results83,go_sem,q0,q1,q2,q3,q4,q5,q6,q7,q8,q9]) rfl ?_
     (have h:=HPO.out;rw [Int.natCast_add] at h;exact h)
    ·have HX1:Hid (x≠(k'.c:Int)+1):=by unfold Hid;rw [hcc.out];exact hx1
     have hx1e:(x == (clr k.set:Int)+1)=false:=by simpa using hx1
     clear hx1
     by_cases hx2:x=(clr k.set:Int)
     ·have HX2:Hid (x=(k'.c:Int)):=by unfold Hid;rw [hcc.out];exact hx2
      have hx2e:(x == (clr k.set:Int))=true:=by simpa using hx2
      clear hx2
      have cAC:=fun wq hB hp=>advC_any k' (.slice a' k'.ps.length c') (w.heap.size+2) 0 wq HOK.out hB hp
      rw [← HX2.out] at cAC
      simp only [kV] at cAC
      by_cases h5:3100≤ct+(cs.length+1)
      ·have HR:Hid (T=⟨k'.cleared,cs++ [x],d,3,p+wd⟩):=by
        unfold Hid;rw [← HD.out.tot,readN_clearL (x:=x) (by rw [HWE.out];exact HX.out) (by rw [HWE.out];exact HSH.out) HX2.out h5,HWE.out]
       go_wp2_with fail
       (with_reducible refine (cAC _ (by have:=HB8.out.res.cells.1;omega) HB8.out.pr).mono ?_)
       rintro e w9 ⟨v9,rfl,ho9,hF9⟩
       obtain ⟨a9,c9,rfl⟩:=ownsRow_shape ho9
       have hm9:=HB8.out.putK (fr_grown hF9) ho9
       have hg9:=HB8.out.grown HB8.out.pr (Nat.le_refl _) (by decide) (fr_grown hF9)
       obtain ⟨hbr,r0,r1,r2,r3,r4,r5,r6,r7,r8,r9⟩:=(hg9).box.cells;have hfb:=box_free (hg9).box
       have HM9:=Lib.hid hm9
       clear hm9 hg9 ho9 hF9
       go_simp
       iterate 11 go_step
       rw [show (World.setCell (World.setCell (World.setCell (World.setCell (World.setCell (World.setCell w9 ⟨rb,0,none⟩ (.int .i64 (k'.cleared).set.ord)) ⟨rb,1,none⟩ (.int .i64 (k'.cleared).set.lit)) ⟨rb,2,none⟩ (.int .i64 (k'.cleared).set.most)) ⟨rb,3,none⟩ (.slice a9 k'.cleared.ps.length c9)) ⟨rb,4,none⟩ (.int .i64 (k'.cleared).base)) ⟨rb,5,none⟩ (.int .i64 (k'.cleared).last))=KnW w9 rb k'.cleared (.slice a9 k'.cleared.ps.length c9) from rfl]
       generalize KnW w9 rb k'.cleared (.slice a9 k'.cleared.ps.length c9)=W9 at HM9 ⊢
       obtain ⟨hbr,r0,r1,r2,r3,r4,r5,r6,r7,r8,r9⟩:=(HM9.out).box.cells;have hfb:=box_free (HM9.out).box
       go_wp2_with ((at_builtin;refine wpList_append_own _ rfl _ _ 79 rfl (w.heap.size+2) 3 i0 (.int .i64 0) 1 8 Tryz.underlying79 hi hz0 hz1 hz2 rfl (by decide) _ _ _ rfl (ownsRow_up (HM9.out).own (Up.alloc (Up.refl _) _)) ⟨W9.heap.size,0,none⟩ 1 1 [.int .i64 x] rfl rfl (new_cells [.int .i64 x] _ rfl) (by intro u hu;simp at hu;subst hu;rfl) (by unfold maxLen;omega) (by omega) (by have:=(HM9.out).kn0.cells.1;have:=(HM9.out).res.cells.1;simp;omega) ?_;rintro v12 w12 hown12 hgr12 -;obtain ⟨a12,c12,rfl⟩:=ownsRow_shape hown12;have hg12:=((HM9.out).upd (Up.alloc (Up.refl _) _)).grown ((HM9.out).upd (Up.alloc (Up.refl _) _)).own (Nat.le_refl _) (by decide) hgr12;have hb12:=((HM9.out).upd (Up.alloc (Up.refl _) _)).putC hgr12 (ownI_snoc hown12);obtain ⟨hbr,r0,r1,r2,r3,r4,r5,r6,r7,r8,r9⟩:=(hg12).box.cells;have hfb:=box_free (hg12).box;obtain ⟨hbq,q0,q1,q2,q3,q4,q5,q6,q7,q8,q9⟩:=RgAt.cells (k:=⟨⟨0,0,0⟩,[],0,0⟩) (hg12).res;have hfq:=box_free (hg12).res;have HB12:=Lib.hid hb12;clear hb12 hown12 hgr12 hg12))
       have HFI:=Lib.hid (HB12.out.setF 3)
       have HQI:=Lib.hid (RgAt.store (HFI.out).res ((k'.cleared)) (.slice a9 k'.cleared.ps.length c9) (.slice a12 (cs.length+1) c12) (.slice ad d.length cd) (3) (((p:Int)+(wd:Int))))
       rw [show (World.setCell (World.setCell (World.setCell (World.setCell (World.setCell (World.setCell (World.setCell (World.setCell (World.setCell (World.setCell (World.setCell (World.setCell w12 ⟨rb,6,none⟩ (.slice a12 (cs.length+1) c12)) ⟨rb,8,none⟩ (.int .i64 3)) ⟨w.heap.size+1,0,none⟩ (.int .i64 (k'.cleared).set.ord)) ⟨w.heap.size+1,1,none⟩ (.int .i64 (k'.cleared).set.lit)) ⟨w.heap.size+1,2,none⟩ (.int .i64 (k'.cleared).set.most)) ⟨w.heap.size+1,3,none⟩ (.slice a9 k'.cleared.ps.length c9)) ⟨w.heap.size+1,4,none⟩ (.int .i64 (k'.cleared).base)) ⟨w.heap.size+1,5,none⟩ (.int .i64 (k'.cleared).last)) ⟨w.heap.size+1,6,none⟩ (.slice a12 (cs.length+1) c12)) ⟨w.heap.size+1,7,none⟩ (.slice ad d.length cd)) ⟨w.heap.size+1,8,none⟩ (.int .i64 3)) ⟨w.heap.size+1,9,none⟩ (.int .i64 ((p:Int)+(wd:Int))))=RgW (World.setCell (World.setCell w12 ⟨rb,6,none⟩ (.slice a12 (cs.length+1) c12)) ⟨rb,8,none⟩ (.int .i64 3)) (w.heap.size+1) ((k'.cleared)) (.slice a9 k'.cleared.ps.length c9) (.slice a12 (cs.length+1) c12) (.slice ad d.length cd) (3) (((p:Int)+(wd:Int))) from rfl]
       have HPO:=Lib.hid (RcPost.of (p:=p+wd) (by have h:=HFI.out;rw [← Int.natCast_add] at h;exact h))
       obtain ⟨hbq,q0,q1,q2,q3,q4,q5,q6,q7,q8,q9⟩:=HQI.out.cells
       rw [HR.out]
       refine bodyPost_ret (v:=rgV ((k'.cleared)) (.slice a9 k'.cleared.ps.length c9) (.slice a12 (cs.length+1) c12) (.slice ad d.length cd) (3) (((p:Int)+(wd:Int)))) (by simp [results,Tryz.results83,go_sem,q0,q1,q2,q3,q4,q5,q6,q7,q8,q9]) rfl ?_
       (have h:=HPO.out;rw [Int.natCast_add] at h;exact h)
      ·have HR:Hid (readN k.set.ord bits sz ct m' (k'.cleared) (p+wd) (cs++ [x]) (d)=T):=by
        unfold Hid;rw [← HD.out.tot,readN_clear (x:=x) (by rw [HWE.out];exact HX.out) (by rw [HWE.out];exact HSH.out) HX2.out h5,HWE.out]
       have HI:=Lib.hid (by have:=HD.out.inv.clear (by rw [HWE.out];exact HSH.out);rw [HWE.out,←HX2.out] at this;exact this)
       have hlm:=HD.out.len
       go_wp2_with fail
       (with_reducible refine (cAC _ (by have:=HB8.out.res.cells.1;omega) HB8.out.pr).mono ?_)
       rintro e w9 ⟨v9,rfl,ho9,hF9⟩
       obtain ⟨a9,c9,rfl⟩:=ownsRow_shape ho9
       have hm9:=HB8.out.putK (fr_grown hF9) ho9
       have hg9:=HB8.out.grown HB8.out.pr (Nat.le_refl _) (by decide) (fr_grown hF9)
       obtain ⟨hbr,r0,r1,r2,r3,r4,r5,r6,r7,r8,r9⟩:=(hg9).box.cells;have hfb:=box_free (hg9).box
       have HM9:=Lib.hid hm9
       clear hm9 hg9 ho9 hF9
       go_simp
       iterate 11 go_step
       rw [show (World.setCell (World.setCell (World.setCell (World.setCell (World.setCell (World.setCell w9 ⟨rb,0,none⟩ (.int .i64 (k'.cleared).set.ord)) ⟨rb,1,none⟩ (.int .i64 (k'.cleared).set.lit)) ⟨rb,2,none⟩ (.int .i64 (k'.cleared).set.most)) ⟨rb,3,none⟩ (.slice a9 k'.cleared.ps.length c9)) ⟨rb,4,none⟩ (.int .i64 (k'.cleared).base)) ⟨rb,5,none⟩ (.int .i64 (k'.cleared).last))=KnW w9 rb k'.cleared (.slice a9 k'.cleared.ps.length c9) from rfl]
       generalize KnW w9 rb k'.cleared (.slice a9 k'.cleared.ps.length c9)=W9 at HM9 ⊢
       obtain ⟨hbr,r0,r1,r2,r3,r4,r5,r6,r7,r8,r9⟩:=(HM9.out).box.cells;have hfb:=box_free (HM9.out).box
       go_wp2_with ((at_builtin;refine wpList_append_own _ rfl _ _ 79 rfl (w.heap.size+2) 3 i0 (.int .i64 0) 1 8 Tryz.underlying79 hi hz0 hz1 hz2 rfl (by decide) _ _ _ rfl (ownsRow_up (HM9.out).own (Up.alloc (Up.refl _) _)) ⟨W9.heap.size,0,none⟩ 1 1 [.int .i64 x] rfl rfl (new_cells [.int .i64 x] _ rfl) (by intro u hu;simp at hu;subst hu;rfl) (by unfold maxLen;omega) (by omega) (by have:=(HM9.out).kn0.cells.1;have:=(HM9.out).res.cells.1;simp;omega) ?_;rintro v12 w12 hown12 hgr12 -;obtain ⟨a12,c12,rfl⟩:=ownsRow_shape hown12;have hg12:=((HM9.out).upd (Up.alloc (Up.refl _) _)).grown ((HM9.out).upd (Up.alloc (Up.refl _) _)).own (Nat.le_refl _) (by decide) hgr12;have hb12:=((HM9.out).upd (Up.alloc (Up.refl _) _)).putC hgr12 (ownI_snoc hown12);obtain ⟨hbr,r0,r1,r2,r3,r4,r5,r6,r7,r8,r9⟩:=(hg12).box.cells;have hfb:=box_free (hg12).box;obtain ⟨hbq,q0,q1,q2,q3,q4,q5,q6,q7,q8,q9⟩:=RgAt.cells (k:=⟨⟨0,0,0⟩,[],0,0⟩) (hg12).res;have hfq:=box_free (hg12).res;have HB12:=Lib.hid hb12;clear hb12 hown12 hgr12 hg12))
       have hlen9:posOf rb wr=p:=by rw [posOf_box HB0.out.box];simp
       have HS12:Hid (RcB w k (.slice a k.ps.length cap) rb (k'.cleared) (.slice a9 k'.cleared.ps.length c9) (cs++ [x]) (.slice a12 (cs.length+1) c12) (d) (.slice ad d.length cd) 1 ((p+wd:Nat):Int) (World.setCell w12 ⟨rb,6,none⟩ (.slice a12 (cs.length+1) c12))):=by
        have:=HB12.out
        rw [← Int.natCast_add] at this
        exact this
       have hpos9:=posOf_box HS12.out.box
       generalize World.setCell w12 ⟨rb,6,none⟩ (.slice a12 (cs.length+1) c12)=W12 at HS12 hpos9 ⊢
       go_roundw
       case rel=>exact ⟨k'.cleared,_,_,_,p+wd,m',cs++ [x],d,⟨HI.out,HR.out,by omega,by simp;omega⟩,HS12.out⟩
       case measure=>rw [hlen9,hpos9];simp;omega
     ·have HX2:Hid (x≠(k'.c:Int)):=by unfold Hid;rw [hcc.out];exact hx2
      have hx2e:(x == (clr k.set:Int))=false:=by simpa using hx2
      clear hx2
      have hf:=top_follows HOK.out hx0 HTP.out HX1.out HX2.out
      have HF:=Lib.hid hf
      have cWJ:=fun wq hr=>wordJ_any k' (.slice a' k'.ps.length c') (w.heap.size+2) x wq HOK.out hr hf
      have cAW:=fun wq hB hp=>advW_any k' (.slice a' k'.ps.length c') (w.heap.size+2) x wq HOK.out hB hp hf HX2.out
      have hwp:=KnD.any_pos HOK.out hf
      have hwl1:=KnD.any_len HOK.out hf
      have HFX:Hid (∀ h,(((bs (k'.any x))[0]'h).toNat:Int)=k'.first x):=fun h=>by rw [bs_get0];rfl
      have hfb9:=KnD.first_bd HOK.out hf
      have hsz:=bs_size (k'.any x)
      clear hf
      simp only [kV] at cWJ cAW
      by_cases h4:2000<sz+d.length+(k'.any x).length
      ·have HR:Hid (T=⟨k',cs,d,3,p+wd⟩):=by
        unfold Hid;rw [← HD.out.tot,readN_long (x:=x) (by rw [HWE.out];exact HX.out) (by rw [HWE.out];exact HSH.out) HX1.out HX2.out HF.out h4,HWE.out]
       generalize k'.any x=wl at *
       go_wp2_with ((go_at_call 138;(with_reducible refine (cWJ _ (RdP.of_own HB8.out.pr)).mono ?_);rintro e w9 ⟨rfl,U9⟩;have B9:=bcell U9;have Z9:=U9.size;(try simp at Z9);(try rw [Nat.add_one_le_iff] at Z9));obtain ⟨hbr,r0,r1,r2,r3,r4,r5,r6,r7,r8,r9⟩:=(HB8.out.upd U9).box.cells;have hfb:=box_free (HB8.out.upd U9).box;obtain ⟨hbq,q0,q1,q2,q3,q4,q5,q6,q7,q8,q9⟩:=RgAt.cells (k:=⟨⟨0,0,0⟩,[],0,0⟩) (HB8.out.upd U9).res;have hfq:=box_free (HB8.out.upd U9).res)
       have HFI:=Lib.hid ((HB8.out.upd U9).setF 3)
       have HQI:=Lib.hid (RgAt.store (HFI.out).res ((k')) (.slice a' k'.ps.length c') (.slice aw cs.length cw) (.slice ad d.length cd) (3) (((p:Int)+(wd:Int))))
       rw [show (World.setCell (World.setCell (World.setCell (World.setCell (World.setCell (World.setCell (World.setCell (World.setCell (World.setCell (World.setCell (World.setCell w9 ⟨rb,8,none⟩ (.int .i64 3)) ⟨w.heap.size+1,0,none⟩ (.int .i64 (k').set.ord)) ⟨w.heap.size+1,1,none⟩ (.int .i64 (k').set.lit)) ⟨w.heap.size+1,2,none⟩ (.int .i64 (k').set.most)) ⟨w.heap.size+1,3,none⟩ (.slice a' k'.ps.length c')) ⟨w.heap.size+1,4,none⟩ (.int .i64 (k').base)) ⟨w.heap.size+1,5,none⟩ (.int .i64 (k').last)) ⟨w.heap.size+1,6,none⟩ (.slice aw cs.length cw)) ⟨w.heap.size+1,7,none⟩ (.slice ad d.length cd)) ⟨w.heap.size+1,8,none⟩ (.int .i64 3)) ⟨w.heap.size+1,9,none⟩ (.int .i64 ((p:Int)+(wd:Int))))=RgW (World.setCell w9 ⟨rb,8,none⟩ (.int .i64 3)) (w.heap.size+1) ((k')) (.slice a' k'.ps.length c') (.slice aw cs.length cw) (.slice ad d.length cd) (3) (((p:Int)+(wd:Int))) from rfl]
       have HPO:=Lib.hid (RcPost.of (p:=p+wd) (by have h:=HFI.out;rw [← Int.natCast_add] at h;exact h))
       obtain ⟨hbq,q0,q1,q2,q3,q4,q5,q6,q7,q8,q9⟩:=HQI.out.cells
       rw [HR.out]
       refine bodyPost_ret (v:=rgV ((k')) (.slice a' k'.ps.length c') (.slice aw cs.length cw) (.slice ad d.length cd) (3) (((p:Int)+(wd:Int)))) (by simp [results,Tryz.results83,go_sem,q0,q1,q2,q3,q4,q5,q6,q7,q8,q9]) rfl ?_
       (have h:=HPO.out;rw [Int.natCast_add] at h;exact h)
      ·have H4:=Lib.hid h4
       generalize hwl:k'.any x=wl at *
       have HWL:=Lib.hid hwl
       clear hwl
       have hfx:=HFX.out (by rw [bs_size];omega)
       by_cases h5:3100≤ct+(cs.length+1)
       ·have HR:Hid (T=⟨k'.after x,cs++ [x],d++wl,3,p+wd⟩):=by
         unfold Hid;rw [← HD.out.tot,readN_wordL (x:=x) (by rw [HWE.out];exact HX.out) (by rw [HWE.out];exact HSH.out) HX1.out HX2.out HF.out (by rw [HWL.out];exact H4.out) h5,HWE.out,HWL.out]
        go_wp2_with (first|((go_at_call 138;(with_reducible refine (cWJ _ (RdP.of_own HB8.out.pr)).mono ?_);rintro e w9 ⟨rfl,U9⟩;have B9:=bcell U9;have Z9:=U9.size;(try simp at Z9);(try rw [Nat.add_one_le_iff] at Z9));obtain ⟨hbr,r0,r1,r2,r3,r4,r5,r6,r7,r8,r9⟩:=(HB8.out.upd U9).box.cells;have hfb:=box_free (HB8.out.upd U9).box)|(at_builtin;refine wpList_append_str rfl _ _ rfl (w.heap.size+2) _ d wl rfl (HB8.out.upd U9).dat rfl (by omega) (by omega) (by have:=(HB8.out.upd U9).res.cells.1;omega) ?_;rintro v10 w10 ho10 hg10;obtain ⟨a10,c10,rfl⟩:=ownsRow_shape (ownsRow_n2 (n':=d.length+wl.length) ho10 (by simp));have hG10:=(HB8.out.upd U9).grown (HB8.out.upd U9).dat (Nat.le_refl _) (by decide) hg10;have hb10:=(HB8.out.upd U9).putD hg10 ho10;obtain ⟨hbr,r0,r1,r2,r3,r4,r5,r6,r7,r8,r9⟩:=(hG10).box.cells;have hfb:=box_free (hG10).box;have HB10:=Lib.hid hb10;clear hb10 ho10 hg10 hG10))
        have HB10':=HB10
        generalize World.setCell w10 ⟨rb,7,none⟩ (.slice a10 (d.length+wl.length) c10)=W10 at HB10' ⊢
        obtain ⟨hbr,r0,r1,r2,r3,r4,r5,r6,r7,r8,r9⟩:=(HB10'.out).box.cells;have hfb:=box_free (HB10'.out).box
        refine wp_region_ownf 7 5 (Value.ownBlock (.slice a' k'.ps.length c')) (by kernel_rfl) (by kernel_rfl) ?_
        simp only [List.take,List.drop]
        repeat (refine wpG_step (fun K hK=>?_);go_simp;(try simp only [↓IntWalk.iteOmega]);first
         |(refine hK _ _ ?_;clear hK K)
         |(refine stepG_own (by rfl) (by kernel_rfl) ((fun u w'=> ∃ vv,u=kV (k'.after x) vv∧ownPr w' (w.heap.size+2) vv (k'.after x).ps)) ((fun v w w' ⟨vv,h1,h2⟩ hu=>⟨vv,h1,ownsRow_up h2 hu⟩)) (fun wq hwq=>?_) ?_
           ·((repeat (first|refine fills_no (by rfl) ?_|refine fills_yes (by rfl) (fun vq hvq=>?_)));simp only [List.filter_nil,fills];(unfold gAt;go_simp;(try rw [hfx]);(with_reducible apply gOut_adv);go_at_call 137;exact cAW _ (by have:=(HB10'.out.upd hwq).res.cells.1;omega) (HB10'.out.upd hwq).pr))
           refine hK _ _ ?_;clear hK K)
         |(refine stepG_c (by rfl) ?_ ?_ ?_
           rotate_left
           ·intro wq hwq;(have hbq:=gcell hwq;(repeat (first|refine fills_no (by rfl) ?_|refine fills_yes (by rfl) (fun vq hvq=>?_)));simp only [List.filter_nil,fills];unfold upAt;(try ((have hG11:=HB10'.out.grown HB10'.out.pr (Nat.le_refl _) (by decide) hwq;obtain ⟨hbr,r0,r1,r2,r3,r4,r5,r6,r7,r8,r9⟩:=(hG11).box.cells;have hfb:=box_free (hG11).box)));go_simp;(try go_bits);(try simp only [↓IntWalk.iteOmega]);first|exact upOut_value)
           go_simp;refine hK _ _ ?_;clear hK K))
        refine wpG_nil (by rfl) (fun wq hwq=>?_)
        simp only [fills]
        rintro u ⟨vv,rfl,ho11⟩
        obtain ⟨a11,c11,rfl⟩:=ownsRow_shape ho11
        have hG11:=HB10'.out.grown HB10'.out.pr (Nat.le_refl _) (by decide) hwq
        have HM11:=Lib.hid (HB10'.out.putK hwq ho11)
        obtain ⟨hbr,r0,r1,r2,r3,r4,r5,r6,r7,r8,r9⟩:=(hG11).box.cells;have hfb:=box_free (hG11).box
        clear ho11 hwq hG11
        go_wp2
        rw [onlyN_normal]
        rw [show (World.setCell (World.setCell (World.setCell (World.setCell (World.setCell (World.setCell wq ⟨rb,0,none⟩ (.int .i64 (k'.after x).set.ord)) ⟨rb,1,none⟩ (.int .i64 (k'.after x).set.lit)) ⟨rb,2,none⟩ (.int .i64 (k'.after x).set.most)) ⟨rb,3,none⟩ (.slice a11 (k'.after x).ps.length c11)) ⟨rb,4,none⟩ (.int .i64 (k'.after x).base)) ⟨rb,5,none⟩ (.int .i64 (k'.after x).last))=KnW wq rb (k'.after x) (.slice a11 (k'.after x).ps.length c11) from rfl]
        generalize KnW wq rb (k'.after x) (.slice a11 (k'.after x).ps.length c11)=W11 at HM11 ⊢
        obtain ⟨hbr,r0,r1,r2,r3,r4,r5,r6,r7,r8,r9⟩:=(HM11.out).box.cells;have hfb:=box_free (HM11.out).box
        go_wp2_with ((at_builtin;refine wpList_append_own _ rfl _ _ 79 rfl (w.heap.size+2) 3 i0 (.int .i64 0) 1 8 Tryz.underlying79 hi hz0 hz1 hz2 rfl (by decide) _ _ _ rfl (ownsRow_up (HM11.out).own (Up.alloc (Up.refl _) _)) ⟨W11.heap.size,0,none⟩ 1 1 [.int .i64 x] rfl rfl (new_cells [.int .i64 x] _ rfl) (by intro u hu;simp at hu;subst hu;rfl) (by unfold maxLen;omega) (by omega) (by have:=(HM11.out).kn0.cells.1;have:=(HM11.out).res.cells.1;simp;omega) ?_;rintro v12 w12 hown12 hgr12 -;obtain ⟨a12,c12,rfl⟩:=ownsRow_shape hown12;have hg12:=((HM11.out).upd (Up.alloc (Up.refl _) _)).grown ((HM11.out).upd (Up.alloc (Up.refl _) _)).own (Nat.le_refl _) (by decide) hgr12;have hb12:=((HM11.out).upd (Up.alloc (Up.refl _) _)).putC hgr12 (ownI_snoc hown12);obtain ⟨hbr,r0,r1,r2,r3,r4,r5,r6,r7,r8,r9⟩:=(hg12).box.cells;have hfb:=box_free (hg12).box;obtain ⟨hbq,q0,q1,q2,q3,q4,q5,q6,q7,q8,q9⟩:=RgAt.cells (k:=⟨⟨0,0,0⟩,[],0,0⟩) (hg12).res;have hfq:=box_free (hg12).res;have HB12:=Lib.hid hb12;clear hb12 hown12 hgr12 hg12))
        have HFI:=Lib.hid (HB12.out.setF 3)
        have HQI:=Lib.hid (RgAt.store (HFI.out).res ((k'.after x)) (.slice a11 (k'.after x).ps.length c11) (.slice a12 (cs.length+1) c12) (.slice a10 (d.length+wl.length) c10) (3) (((p:Int)+(wd:Int))))
        rw [show (World.setCell (World.setCell (World.setCell (World.setCell (World.setCell (World.setCell (World.setCell (World.setCell (World.setCell (World.setCell (World.setCell (World.setCell w12 ⟨rb,6,none⟩ (.slice a12 (cs.length+1) c12)) ⟨rb,8,none⟩ (.int .i64 3)) ⟨w.heap.size+1,0,none⟩ (.int .i64 (k'.after x).set.ord)) ⟨w.heap.size+1,1,none⟩ (.int .i64 (k'.after x).set.lit)) ⟨w.heap.size+1,2,none⟩ (.int .i64 (k'.after x).set.most)) ⟨w.heap.size+1,3,none⟩ (.slice a11 (k'.after x).ps.length c11)) ⟨w.heap.size+1,4,none⟩ (.int .i64 (k'.after x).base)) ⟨w.heap.size+1,5,none⟩ (.int .i64 (k'.after x).last)) ⟨w.heap.size+1,6,none⟩ (.slice a12 (cs.length+1) c12)) ⟨w.heap.size+1,7,none⟩ (.slice a10 (d.length+wl.length) c10)) ⟨w.heap.size+1,8,none⟩ (.int .i64 3)) ⟨w.heap.size+1,9,none⟩ (.int .i64 ((p:Int)+(wd:Int))))=RgW (World.setCell (World.setCell w12 ⟨rb,6,none⟩ (.slice a12 (cs.length+1) c12)) ⟨rb,8,none⟩ (.int .i64 3)) (w.heap.size+1) ((k'.after x)) (.slice a11 (k'.after x).ps.length c11) (.slice a12 (cs.length+1) c12) (.slice a10 (d.length+wl.length) c10) (3) (((p:Int)+(wd:Int))) from rfl]
        have HPO:=Lib.hid (RcPost.of (p:=p+wd) (by have h:=HFI.out;rw [← Int.natCast_add] at h;exact h))
        obtain ⟨hbq,q0,q1,q2,q3,q4,q5,q6,q7,q8,q9⟩:=HQI.out.cells
        rw [HR.out]
        refine bodyPost_ret (v:=rgV ((k'.after x)) (.slice a11 (k'.after x).ps.length c11) (.slice a12 (cs.length+1) c12) (.slice a10 (d.length+wl.length) c10) (3) (((p:Int)+(wd:Int)))) (by simp [results,Tryz.results83,go_sem,q0,q1,q2,q3,q4,q5,q6,q7,q8,q9]) rfl ?_
        (have h:=HPO.out;rw [Int.natCast_add] at h;exact h)
       ·have HR:Hid (readN k.set.ord bits sz ct m' (k'.after x) (p+wd) (cs++ [x]) (d++wl)=T):=by
         unfold Hid;rw [← HD.out.tot,readN_word (x:=x) (by rw [HWE.out];exact HX.out) (by rw [HWE.out];exact HSH.out) HX1.out HX2.out HF.out (by rw [HWL.out];exact H4.out) h5,HWE.out,HWL.out]
        have HI:=Lib.hid (by have:=HD.out.inv.word (by rw [HWE.out];exact HSH.out) HX1.out HX2.out HF.out (by rw [HWL.out];exact H4.out);rw [HWE.out,HWL.out] at this;exact this)
        have hlm:=HD.out.len
        go_wp2_with (first|((go_at_call 138;(with_reducible refine (cWJ _ (RdP.of_own HB8.out.pr)).mono ?_);rintro e w9 ⟨rfl,U9⟩;have B9:=bcell U9;have Z9:=U9.size;(try simp at Z9);(try rw [Nat.add_one_le_iff] at Z9));obtain ⟨hbr,r0,r1,r2,r3,r4,r5,r6,r7,r8,r9⟩:=(HB8.out.upd U9).box.cells;have hfb:=box_free (HB8.out.upd U9).box)|(at_builtin;refine wpList_append_str rfl _ _ rfl (w.heap.size+2) _ d wl rfl (HB8.out.upd U9).dat rfl (by omega) (by omega) (by have:=(HB8.out.upd U9).res.cells.1;omega) ?_;rintro v10 w10 ho10 hg10;obtain ⟨a10,c10,rfl⟩:=ownsRow_shape (ownsRow_n2 (n':=d.length+wl.length) ho10 (by simp));have hG10:=(HB8.out.upd U9).grown (HB8.out.upd U9).dat (Nat.le_refl _) (by decide) hg10;have hb10:=(HB8.out.upd U9).putD hg10 ho10;obtain ⟨hbr,r0,r1,r2,r3,r4,r5,r6,r7,r8,r9⟩:=(hG10).box.cells;have hfb:=box_free (hG10).box;have HB10:=Lib.hid hb10;clear hb10 ho10 hg10 hG10))
        have HB10':=HB10
        generalize World.setCell w10 ⟨rb,7,none⟩ (.slice a10 (d.length+wl.length) c10)=W10 at HB10' ⊢
        obtain ⟨hbr,r0,r1,r2,r3,r4,r5,r6,r7,r8,r9⟩:=(HB10'.out).box.cells;have hfb:=box_free (HB10'.out).box
        refine wp_region_ownf 7 5 (Value.ownBlock (.slice a' k'.ps.length c')) (by kernel_rfl) (by kernel_rfl) ?_
        simp only [List.take,List.drop]
        repeat (refine wpG_step (fun K hK=>?_);go_simp;(try simp only [↓IntWalk.iteOmega]);first
         |(refine hK _ _ ?_;clear hK K)
         |(refine stepG_own (by rfl) (by kernel_rfl) ((fun u w'=> ∃ vv,u=kV (k'.after x) vv∧ownPr w' (w.heap.size+2) vv (k'.after x).ps)) ((fun v w w' ⟨vv,h1,h2⟩ hu=>⟨vv,h1,ownsRow_up h2 hu⟩)) (fun wq hwq=>?_) ?_
           ·((repeat (first|refine fills_no (by rfl) ?_|refine fills_yes (by rfl) (fun vq hvq=>?_)));simp only [List.filter_nil,fills];(unfold gAt;go_simp;(try rw [hfx]);(with_reducible apply gOut_adv);go_at_call 137;exact cAW _ (by have:=(HB10'.out.upd hwq).res.cells.1;omega) (HB10'.out.upd hwq).pr))
           refine hK _ _ ?_;clear hK K)
         |(refine stepG_c (by rfl) ?_ ?_ ?_
           rotate_left
           ·intro wq hwq;(have hbq:=gcell hwq;(repeat (first|refine fills_no (by rfl) ?_|refine fills_yes (by rfl) (fun vq hvq=>?_)));simp only [List.filter_nil,fills];unfold upAt;(try ((have hG11:=HB10'.out.grown HB10'.out.pr (Nat.le_refl _) (by decide) hwq;obtain ⟨hbr,r0,r1,r2,r3,r4,r5,r6,r7,r8,r9⟩:=(hG11).box.cells;have hfb:=box_free (hG11).box)));go_simp;(try go_bits);(try simp only [↓IntWalk.iteOmega]);first|exact upOut_value)
           go_simp;refine hK _ _ ?_;clear hK K))
        refine wpG_nil (by rfl) (fun wq hwq=>?_)
        simp only [fills]
        rintro u ⟨vv,rfl,ho11⟩
        obtain ⟨a11,c11,rfl⟩:=ownsRow_shape ho11
        have hG11:=HB10'.out.grown HB10'.out.pr (Nat.le_refl _) (by decide) hwq
        have HM11:=Lib.hid (HB10'.out.putK hwq ho11)
        obtain ⟨hbr,r0,r1,r2,r3,r4,r5,r6,r7,r8,r9⟩:=(hG11).box.cells;have hfb:=box_free (hG11).box
        clear ho11 hwq hG11
        go_wp2
        rw [onlyN_normal]
        rw [show (World.setCell (World.setCell (World.setCell (World.setCell (World.setCell (World.setCell wq ⟨rb,0,none⟩ (.int .i64 (k'.after x).set.ord)) ⟨rb,1,none⟩ (.int .i64 (k'.after x).set.lit)) ⟨rb,2,none⟩ (.int .i64 (k'.after x).set.most)) ⟨rb,3,none⟩ (.slice a11 (k'.after x).ps.length c11)) ⟨rb,4,none⟩ (.int .i64 (k'.after x).base)) ⟨rb,5,none⟩ (.int .i64 (k'.after x).last))=KnW wq rb (k'.after x) (.slice a11 (k'.after x).ps.length c11) from rfl]
        generalize KnW wq rb (k'.after x) (.slice a11 (k'.after x).ps.length c11)=W11 at HM11 ⊢
        obtain ⟨hbr,r0,r1,r2,r3,r4,r5,r6,r7,r8,r9⟩:=(HM11.out).box.cells;have hfb:=box_free (HM11.out).box
        go_wp2_with ((at_builtin;refine wpList_append_own _ rfl _ _ 79 rfl (w.heap.size+2) 3 i0 (.int .i64 0) 1 8 Tryz.underlying79 hi hz0 hz1 hz2 rfl (by decide) _ _ _ rfl (ownsRow_up (HM11.out).own (Up.alloc (Up.refl _) _)) ⟨W11.heap.size,0,none⟩ 1 1 [.int .i64 x] rfl rfl (new_cells [.int .i64 x] _ rfl) (by intro u hu;simp at hu;subst hu;rfl) (by unfold maxLen;omega) (by omega) (by have:=(HM11.out).kn0.cells.1;have:=(HM11.out).res.cells.1;simp;omega) ?_;rintro v12 w12 hown12 hgr12 -;obtain ⟨a12,c12,rfl⟩:=ownsRow_shape hown12;have hg12:=((HM11.out).upd (Up.alloc (Up.refl _) _)).grown ((HM11.out).upd (Up.alloc (Up.refl _) _)).own (Nat.le_refl _) (by decide) hgr12;have hb12:=((HM11.out).upd (Up.alloc (Up.refl _) _)).putC hgr12 (ownI_snoc hown12);obtain ⟨hbr,r0,r1,r2,r3,r4,r5,r6,r7,r8,r9⟩:=(hg12).box.cells;have hfb:=box_free (hg12).box;obtain ⟨hbq,q0,q1,q2,q3,q4,q5,q6,q7,q8,q9⟩:=RgAt.cells (k:=⟨⟨0,0,0⟩,[],0,0⟩) (hg12).res;have hfq:=box_free (hg12).res;have HB12:=Lib.hid hb12;clear hb12 hown12 hgr12 hg12))
        have hlen9:posOf rb wr=p:=by rw [posOf_box HB0.out.box];simp
        have HS12:Hid (RcB w k (.slice a k.ps.length cap) rb (k'.after x) (.slice a11 (k'.after x).ps.length c11) (cs++ [x]) (.slice a12 (cs.length+1) c12) (d++wl) (.slice a10 (d.length+wl.length) c10) 1 ((p+wd:Nat):Int) (World.setCell w12 ⟨rb,6,none⟩ (.slice a12 (cs.length+1) c12))):=by
         have:=HB12.out
         rw [← Int.natCast_add] at this
         exact this
        have hpos9:=posOf_box HS12.out.box
        generalize World.setCell w12 ⟨rb,6,none⟩ (.slice a12 (cs.length+1) c12)=W12 at HS12 hpos9 ⊢
        go_roundw
        case rel=>exact ⟨k'.after x,_,_,_,p+wd,m',cs++ [x],d++wl,⟨HI.out,HR.out,by omega,by simp;omega⟩,HS12.out⟩
        case measure=>rw [hlen9,hpos9];simp;omega
   ·have hcan:decide (x≤((k'.top:Nat):Int))=false:=decide_eq_false htp
    simp only [hcan] at hcan0
    obtain ⟨t1,t2,t3⟩:=follows_top HOK.out htp
    have HR:Hid (T=⟨k',cs,d,2,p+wd⟩):=by
     unfold Hid;rw [← HD.out.tot,readN_wrong (x:=x) (by rw [HWE.out];exact HX.out) (by rw [HWE.out];exact HSH.out) t1 t2 t3,HWE.out]
    clear hcan htp t1 t2 t3
    (with_reducible refine (hcan0 _ (RdP.of_own HB7.out.pr)).mono ?_)
    rintro e w8 ⟨rfl,U8⟩
    have HB8:=Lib.hid (HB7.out.upd U8)
    clear U8 HB7 hcan0
    obtain ⟨hbr,r0,r1,r2,r3,r4,r5,r6,r7,r8,r9⟩:=(HB8.out).box.cells;have hfb:=box_free (HB8.out).box
    obtain ⟨hbq,q0,q1,q2,q3,q4,q5,q6,q7,q8,q9⟩:=RgAt.cells (k:=⟨⟨0,0,0⟩,[],0,0⟩) (HB8.out).res;have hfq:=box_free (HB8.out).res
    go_wp2
    have HFI:=Lib.hid (HB8.out.setF 2)
    have HQI:=Lib.hid (RgAt.store (HFI.out).res ((k')) (.slice a' k'.ps.length c') (.slice aw cs.length cw) (.slice ad d.length cd) (2) (((p:Int)+(wd:Int))))
    rw [show (World.setCell (World.setCell (World.setCell (World.setCell (World.setCell (World.setCell (World.setCell (World.setCell (World.setCell (World.setCell (World.setCell w8 ⟨rb,8,none⟩ (.int .i64 2)) ⟨w.heap.size+1,0,none⟩ (.int .i64 (k').set.ord)) ⟨w.heap.size+1,1,none⟩ (.int .i64 (k').set.lit)) ⟨w.heap.size+1,2,none⟩ (.int .i64 (k').set.most)) ⟨w.heap.size+1,3,none⟩ (.slice a' k'.ps.length c')) ⟨w.heap.size+1,4,none⟩ (.int .i64 (k').base)) ⟨w.heap.size+1,5,none⟩ (.int .i64 (k').last)) ⟨w.heap.size+1,6,none⟩ (.slice aw cs.length cw)) ⟨w.heap.size+1,7,none⟩ (.slice ad d.length cd)) ⟨w.heap.size+1,8,none⟩ (.int .i64 2)) ⟨w.heap.size+1,9,none⟩ (.int .i64 ((p:Int)+(wd:Int))))=RgW (World.setCell w8 ⟨rb,8,none⟩ (.int .i64 2)) (w.heap.size+1) ((k')) (.slice a' k'.ps.length c') (.slice aw cs.length cw) (.slice ad d.length cd) (2) (((p:Int)+(wd:Int))) from rfl]
    have HPO:=Lib.hid (RcPost.of (p:=p+wd) (by have h:=HFI.out;rw [← Int.natCast_add] at h;exact h))
    obtain ⟨hbq,q0,q1,q2,q3,q4,q5,q6,q7,q8,q9⟩:=HQI.out.cells
    rw [HR.out]
    refine bodyPost_ret (v:=rgV ((k')) (.slice a' k'.ps.length c') (.slice aw cs.length cw) (.slice ad d.length cd) (2) (((p:Int)+(wd:Int)))) (by simp [results,Tryz.results83,go_sem,q0,q1,q2,q3,q4,q5,q6,q7,q8,q9]) rfl ?_
    (have h:=HPO.out;rw [Int.natCast_add] at h;exact h)
end Go.Proofs.YtekogcjdaolcbaaGreatDoor
/- Walks of the reference's l1Unpack and UnpackCodes. Conditions: what is known is valid and can be read; the string's length is bounded. -/
namespace Go.Proofs.YtekogcjdaolcbaaGreatDoor
open Go Go.RowKit
structure UnR where
 codes:List Int
 fin:Int
 used:Nat
structure UnB (lo:Nat) (w:World) (k:KnD) (v:Value) (cs:List Int) (vc:Value) (wr:World):Prop where
 kn:KnAt w.heap.size k v wr
 pr:RdP lo w v k.ps∨ownPr wr (w.heap.size+1) v k.ps
 own:ownI wr (w.heap.size+1) vc cs
 up:Up w wr
structure UnD (T:RdR) (o:Int) (bits:List UInt8) (k0:KnD) (m:Nat) (k:KnD) (p:Nat) (cs:List Int) (d:List UInt8):Prop where
 inv:RdInv bits 0 k0 k p cs d
 tot:readN o bits 0 0 m k p cs d=T
 len:bits.length≤p+m
 cl:cs.length<3100
end Go.Proofs.YtekogcjdaolcbaaGreatDoor

/- Texts joined into one: the walks and laws that the last text leans on. Conditions: as each says. -/
import Derived.Test.YtekogcjdaolcbaaGreatDoorMFnTravelLawQ
import Derived.Test.YtekogcjdaolcbaaGreatDoorMFnTravelLawJ
import Derived.Test.YtekogcjdaolcbaaGreatDoorMFnTravelLawK
import Derived.Test.YtekogcjdaolcbaaGreatDoorMFnTravelLawE
import Derived.Test.YtekogcjdaolcbaaGreatDoorMFnTravelLawM

set_option linter.unusedVariables false
set_option linter.unusedSimpArgs false
/- Plain: reading bits that go on (for the readers' laws: reading in parts). Conditions: what is known is valid. -/
namespace Go.Proofs.YtekogcjdaolcbaaGreatDoor
open Go Go.RowKit
theorem codeAt_more {o:Int} {bits more:List UInt8} {p wd:Nat} (h:p+wd≤bits.length):codeAt o (bits++more) p wd=codeAt o bits p wd:=by
 unfold codeAt
 rw [List.drop_append_of_le_length (by omega),List.take_append_of_le_length (by rw [List.length_drop];omega)]
theorem readN_more (o:Int) (bits more:List UInt8) (sz ct:Nat): ∀ (n:Nat) (k:KnD) (p:Nat) (cs:List Int) (d:List UInt8) (m:Nat),k.Ok→bits.length≤p+n→(bits++more).length≤p+m →
  ((readN o bits sz ct n k p cs d).fin≠1→readN o (bits++more) sz ct m k p cs d=readN o bits sz ct n k p cs d) ∧
  ((readN o bits sz ct n k p cs d).fin=1→ ∃ m',(bits++more).length≤(readN o bits sz ct n k p cs d).pos+m' ∧
    readN o (bits++more) sz ct m k p cs d=readN o (bits++more) sz ct m' (readN o bits sz ct n k p cs d).k (readN o bits sz ct n k p cs d).pos (readN o bits sz ct n k p cs d).codes (readN o bits sz ct n k p cs d).data):=by
 intro n
 induction n with
 |zero =>
  intro k p cs d m hk hn hm
  exact ⟨fun h=>absurd rfl h,fun _=>⟨m,hm,rfl⟩⟩
 |succ n ih =>
  intro k p cs d m hk hn hm
  have hw:=KnD.width_bd hk
  by_cases hs:bits.length<p+k.width
  ·have e:readN o bits sz ct (n+1) k p cs d=⟨k,cs,d,1,p⟩:=readN_short hs
   rw [e]
   exact ⟨fun h=>absurd rfl h,fun _=>⟨m,hm,rfl⟩⟩
  have hlm: ¬ (bits++more).length<p+k.width:=by rw [List.length_append];omega
  obtain ⟨m,rfl⟩: ∃ q,m=q+1:=⟨m - 1,by rw [List.length_append] at hm;omega⟩
  have hx:=codeAt_more (o:=o) (bits:=bits) (more:=more) (p:=p) (wd:=k.width) (by omega)
  have hn':bits.length≤p+k.width+n:=by omega
  have hm':(bits++more).length≤p+k.width+m:=by omega
  generalize hxx:codeAt o bits p k.width=x at hx
  by_cases h1:x=(k.c:Int)+1
  ·rw [readN,readN,if_neg hs,if_neg hlm,hx,hxx,if_pos h1,if_pos h1]
   exact ⟨fun _=>rfl,fun h=>by simp at h⟩
  by_cases h2:x=(k.c:Int)
  ·rw [readN,readN,if_neg hs,if_neg hlm,hx,hxx,if_neg h1,if_neg h1,if_pos h2,if_pos h2]
   by_cases h3:3100≤ct+(cs.length+1)
   ·rw [if_pos h3,if_pos h3]
    exact ⟨fun _=>rfl,fun h=>by simp at h⟩
   ·rw [if_neg h3,if_neg h3]
    exact ih k.cleared _ _ _ m (KnD.cleared_ok hk) hn' hm'
  by_cases h4:k.follows x=false
  ·rw [readN,readN,if_neg hs,if_neg hlm,hx,hxx,if_neg h1,if_neg h1,if_neg h2,if_neg h2,if_pos h4,if_pos h4]
   exact ⟨fun _=>rfl,fun h=>by simp at h⟩
  have hf:k.follows x=true:=by simpa using h4
  by_cases h5:2000<sz+d.length+(k.any x).length
  ·rw [readN,readN,if_neg hs,if_neg hlm,hx,hxx,if_neg h1,if_neg h1,if_neg h2,if_neg h2,if_neg h4,if_neg h4,if_pos h5,if_pos h5]
   exact ⟨fun _=>rfl,fun h=>by simp at h⟩
  by_cases h6:3100≤ct+(cs.length+1)
  ·rw [readN,readN,if_neg hs,if_neg hlm,hx,hxx,if_neg h1,if_neg h1,if_neg h2,if_neg h2,if_neg h4,if_neg h4,if_neg h5,if_neg h5,if_pos h6,if_pos h6]
   exact ⟨fun _=>rfl,fun h=>by simp at h⟩
  ·rw [readN,readN,if_neg hs,if_neg hlm,hx,hxx,if_neg h1,if_neg h1,if_neg h2,if_neg h2,if_neg h4,if_neg h4,if_neg h5,if_neg h5,if_neg h6,if_neg h6]
   exact ih (k.after x) _ _ _ m (KnD.after_ok hk hf) hn' hm'
theorem readN_shift (o:Int) (bits:List UInt8) (q sz ct:Nat) (hq:q≤bits.length): ∀ (n:Nat) (k:KnD) (p:Nat) (cs:List Int) (d:List UInt8),
  readN o bits sz ct n k (q+p) cs d=⟨(readN o (bits.drop q) sz ct n k p cs d).k,(readN o (bits.drop q) sz ct n k p cs d).codes,(readN o (bits.drop q) sz ct n k p cs d).data,(readN o (bits.drop q) sz ct n k p cs d).fin,q+(readN o (bits.drop q) sz ct n k p cs d).pos⟩:=by
 intro n
 induction n with
 |zero=>intro k p cs d;rfl
 |succ n ih =>
  intro k p cs d
  have hx:codeAt o bits (q+p) k.width=codeAt o (bits.drop q) p k.width:=by unfold codeAt;rw [List.drop_drop]
  have hl:(bits.drop q).length=bits.length - q:=List.length_drop
  rw [readN,readN,hx]
  generalize codeAt o (bits.drop q) p k.width=x
  by_cases hs:(bits.drop q).length<p+k.width
  ·rw [if_pos (by omega),if_pos hs]
  rw [if_neg (by omega),if_neg hs]
  by_cases h1:x=(k.c:Int)+1
  ·rw [if_pos h1,if_pos h1]
   simp [Nat.add_assoc]
  rw [if_neg h1,if_neg h1]
  by_cases h2:x=(k.c:Int)
  ·rw [if_pos h2,if_pos h2]
   by_cases h3:3100≤ct+(cs.length+1)
   ·rw [if_pos h3,if_pos h3]
    simp [Nat.add_assoc]
   ·rw [if_neg h3,if_neg h3,Nat.add_assoc]
    exact ih _ _ _ _
  rw [if_neg h2,if_neg h2]
  by_cases h4:k.follows x=false
  ·rw [if_pos h4,if_pos h4]
   simp [Nat.add_assoc]
  rw [if_neg h4,if_neg h4]
  by_cases h5:2000<sz+d.length+(k.any x).length
  ·rw [if_pos h5,if_pos h5]
   simp [Nat.add_assoc]
  rw [if_neg h5,if_neg h5]
  by_cases h6:3100≤ct+(cs.length+1)
  ·rw [if_pos h6,if_pos h6]
   simp [Nat.add_assoc]
  ·rw [if_neg h6,if_neg h6,Nat.add_assoc]
   exact ih _ _ _ _
theorem readN_acc (o:Int) (bits:List UInt8) (sz ct:Nat) (cs0:List Int) (d0:List UInt8): ∀ (n:Nat) (k:KnD) (p:Nat) (cs:List Int) (d:List UInt8),
  readN o bits sz ct n k p (cs0++cs) (d0++d)=⟨(readN o bits (sz+d0.length) (ct+cs0.length) n k p cs d).k,cs0++(readN o bits (sz+d0.length) (ct+cs0.length) n k p cs d).codes,d0++(readN o bits (sz+d0.length) (ct+cs0.length) n k p cs d).data,(readN o bits (sz+d0.length) (ct+cs0.length) n k p cs d).fin,(readN o bits (sz+d0.length) (ct+cs0.length) n k p cs d).pos⟩:=by
 intro n
 induction n with
 |zero=>intro k p cs d;rfl
 |succ n ih =>
  intro k p cs d
  rw [readN,readN]
  generalize codeAt o bits p k.width=x
  by_cases hs:bits.length<p+k.width
  ·rw [if_pos hs,if_pos hs]
  rw [if_neg hs,if_neg hs]
  by_cases h1:x=(k.c:Int)+1
  ·rw [if_pos h1,if_pos h1]
   simp
  rw [if_neg h1,if_neg h1]
  by_cases h2:x=(k.c:Int)
  ·rw [if_pos h2,if_pos h2]
   by_cases h3:3100≤ct+((cs0++cs).length+1)
   ·rw [if_pos h3,if_pos (show 3100≤ct+cs0.length+(cs.length+1) by rw [List.length_append] at h3;omega)]
    simp
   ·rw [if_neg h3,if_neg (show ¬ 3100≤ct+cs0.length+(cs.length+1) by rw [List.length_append] at h3;omega),List.append_assoc]
    exact ih _ _ _ _
  rw [if_neg h2,if_neg h2]
  by_cases h4:k.follows x=false
  ·rw [if_pos h4,if_pos h4]
  rw [if_neg h4,if_neg h4]
  by_cases h5:2000<sz+(d0++d).length+(k.any x).length
  ·rw [if_pos h5,if_pos (show 2000<sz+d0.length+d.length+(k.any x).length by rw [List.length_append] at h5;omega)]
  rw [if_neg h5,if_neg (show ¬ 2000<sz+d0.length+d.length+(k.any x).length by rw [List.length_append] at h5;omega)]
  by_cases h6:3100≤ct+((cs0++cs).length+1)
  ·rw [if_pos h6,if_pos (show 3100≤ct+cs0.length+(cs.length+1) by rw [List.length_append] at h6;omega)]
   simp
  ·rw [if_neg h6,if_neg (show ¬ 3100≤ct+cs0.length+(cs.length+1) by rw [List.length_append] at h6;omega),List.append_assoc,List.append_assoc]
   exact ih _ _ _ _
end Go.Proofs.YtekogcjdaolcbaaGreatDoor
/- Plain: a reader that gets a stream in parts reads what it reads at once (for FnWriterKnown, FnWholeTravel, FnTravel). Conditions: what is known is valid. -/
namespace Go.Proofs.YtekogcjdaolcbaaGreatDoor
open Go Go.RowKit
theorem readN_one (o:Int) (bits:List UInt8) (sz ct:Nat): ∀ (n:Nat) (k:KnD) (p:Nat) (cs:List Int) (d:List UInt8),k.Ok→k.vl→bits.length≤p+n→p≤bits.length→ct+cs.length<3100 →
  p≤(readN o bits sz ct n k p cs d).pos∧(readN o bits sz ct n k p cs d).pos≤bits.length∧(readN o bits sz ct n k p cs d).k.Ok∧(readN o bits sz ct n k p cs d).k.vl∧(readN o bits sz ct n k p cs d).k.set=k.set ∧
  ((readN o bits sz ct n k p cs d).fin=1→bits.length<(readN o bits sz ct n k p cs d).pos+(readN o bits sz ct n k p cs d).k.width∧ct+(readN o bits sz ct n k p cs d).codes.length<3100) ∧
  ((readN o bits sz ct n k p cs d).fin≠1→p<(readN o bits sz ct n k p cs d).pos∧p+k.width≤(readN o bits sz ct n k p cs d).pos):=by
 intro n
 induction n with
 |zero =>
  intro k p cs d hk hv hn hp hc
  have hw:=KnD.width_bd hk
  exact ⟨Nat.le_refl _,hp,hk,hv,rfl,fun _=>⟨by show bits.length<p+k.width;omega,hc⟩,fun h=>absurd rfl h⟩
 |succ n ih =>
  intro k p cs d hk hv hn hp hc
  have hw:=KnD.width_bd hk
  have hcs: ∀ y:Int,(cs++ [y]).length=cs.length+1:=fun y=>by simp
  by_cases hs:bits.length<p+k.width
  ·have e:readN o bits sz ct (n+1) k p cs d=⟨k,cs,d,1,p⟩:=readN_short hs
   rw [e]
   exact ⟨Nat.le_refl _,hp,hk,hv,rfl,fun _=>⟨hs,hc⟩,fun h=>absurd rfl h⟩
  have hn':bits.length≤p+k.width+n:=by omega
  have hp':p+k.width≤bits.length:=by omega
  rw [readN,if_neg hs]
  generalize codeAt o bits p k.width=x
  by_cases h1:x=(k.c:Int)+1
  ·rw [if_pos h1]
   exact ⟨by show p≤p+k.width;omega,hp',hk,hv,rfl,fun h=>by simp at h,fun _=>⟨by show p<p+k.width;omega,Nat.le_refl _⟩⟩
  by_cases h2:x=(k.c:Int)
  ·rw [if_neg h1,if_pos h2]
   by_cases h3:3100≤ct+(cs.length+1)
   ·rw [if_pos h3]
    exact ⟨by show p≤p+k.width;omega,hp',KnD.cleared_ok hk,vl_cleared hk,rfl,fun h=>by simp at h,fun _=>⟨by show p<p+k.width;omega,Nat.le_refl _⟩⟩
   ·rw [if_neg h3]
    obtain ⟨a1,a2,a3,a4,a5,a6,a7⟩:=ih k.cleared (p+k.width) (cs++ [x]) d (KnD.cleared_ok hk) (vl_cleared hk) hn' hp' (by rw [hcs];omega)
    exact ⟨by omega,a2,a3,a4,a5,a6,fun h=>⟨by have:=(a7 h).1;omega,by omega⟩⟩
  by_cases h4:k.follows x=false
  ·rw [if_neg h1,if_neg h2,if_pos h4]
   exact ⟨by show p≤p+k.width;omega,hp',hk,hv,rfl,fun h=>by simp at h,fun _=>⟨by show p<p+k.width;omega,Nat.le_refl _⟩⟩
  have hf:k.follows x=true:=by simpa using h4
  by_cases h5:2000<sz+d.length+(k.any x).length
  ·rw [if_neg h1,if_neg h2,if_neg h4,if_pos h5]
   exact ⟨by show p≤p+k.width;omega,hp',hk,hv,rfl,fun h=>by simp at h,fun _=>⟨by show p<p+k.width;omega,Nat.le_refl _⟩⟩
  by_cases h6:3100≤ct+(cs.length+1)
  ·rw [if_neg h1,if_neg h2,if_neg h4,if_neg h5,if_pos h6]
   exact ⟨by show p≤p+k.width;omega,hp',KnD.after_ok hk hf,vl_after hk hf,rfl,fun h=>by simp at h,fun _=>⟨by show p<p+k.width;omega,Nat.le_refl _⟩⟩
  ·rw [if_neg h1,if_neg h2,if_neg h4,if_neg h5,if_neg h6]
   obtain ⟨a1,a2,a3,a4,a5,a6,a7⟩:=ih (k.after x) (p+k.width) (cs++ [x]) (d++k.any x) (KnD.after_ok hk hf) (vl_after hk hf) hn' hp' (by rw [hcs];omega)
   exact ⟨by omega,a2,a3,a4,a5,a6,fun h=>⟨by have:=(a7 h).1;omega,by omega⟩⟩
theorem readN_fuel {o:Int} {bits:List UInt8} {sz ct n m:Nat} {k:KnD} {p:Nat} {cs:List Int} {d:List UInt8} (hk:k.Ok) (hv:k.vl) (hn:bits.length≤p+n) (hm:bits.length≤p+m) (hp:p≤bits.length) (hc:ct+cs.length<3100):readN o bits sz ct m k p cs d=readN o bits sz ct n k p cs d:=by
 have h:=readN_more o bits [] sz ct n k p cs d m hk hn (by rw [List.append_nil];exact hm)
 rw [List.append_nil] at h
 by_cases h1:(readN o bits sz ct n k p cs d).fin=1
 ·obtain ⟨m',-,e⟩:=h.2 h1
  obtain ⟨-,-,-,-,-,h6,-⟩:=readN_one o bits sz ct n k p cs d hk hv hn hp hc
  rw [e,readN_short (h6 h1).1,←h1]
 ·exact h.1 h1
structure RvD where
 k:KnD
 bits:List UInt8
 size:Nat
 cnt:Nat
 fin:Int
def RvD.got (r:RvD) (s:List UInt8):RdR:=readN r.k.set.ord (r.bits++unpackL r.k.set.ord s) r.size r.cnt (r.bits++unpackL r.k.set.ord s).length r.k 0 [] []
def RvD.read (r:RvD) (s:List UInt8):RvD × List UInt8 × Nat :=
 if r.fin≠1 then (r,[],0)
 else (⟨(r.got s).k,if (r.got s).fin=1 then (r.bits++unpackL r.k.set.ord s).drop (r.got s).pos else [],r.size+(r.got s).data.length,r.cnt+(r.got s).codes.length,(r.got s).fin⟩,(r.got s).data,if (r.got s).fin=1 then s.length else ((r.got s).pos - r.bits.length+7) / 8)
def rvS (k:KnD) (s:List UInt8):RvD:=⟨(readS k s).k,if (readS k s).fin=1 then (unpackL k.set.ord s).drop (readS k s).pos else [],(readS k s).data.length,(readS k s).codes.length,(readS k s).fin⟩
structure RvOk (r:RvD):Prop where
 ok:r.k.Ok
 vl:r.k.vl
 bit:isBits r.bits
 size:r.size≤2000
 cnt:r.cnt≤3100
 kind:r.fin=0∨r.fin=1∨r.fin=2∨r.fin=3
 short:r.fin=1→r.bits.length<r.k.width∧r.cnt<3100
 done:r.fin≠1→r.bits= []
theorem rvS_ok {k:KnD} (hk:k.Ok) (hv:k.vl) (s:List UInt8):RvOk (rvS k s):=by
 have hul:=unpackL_length k.set.ord s
 have hF:=readS_fin hk s
 obtain ⟨-,h2,h3,h4,-,h6,-⟩:=readN_one k.set.ord (unpackL k.set.ord s) 0 0 (8 * s.length) k 0 [] [] hk hv (by omega) (Nat.zero_le _) (by simp)
 refine ⟨h3,h4,?_,by have:=hF.dl;show (readS k s).data.length≤2000;omega,by have:=hF.cl;show (readS k s).codes.length≤3100;omega,hF.kind,fun h1=>?_,fun h1=>?_⟩
 ·unfold rvS
  show isBits (if _ then _ else _)
  split
  ·exact (isBits_unpack _ _).drop _
  ·exact fun b hb=>absurd hb (List.not_mem_nil)
 ·have h1':(readS k s).fin=1:=h1
  have h6':(unpackL k.set.ord s).length<(readS k s).pos+(readS k s).k.width∧0+(readS k s).codes.length<3100:=h6 h1
  refine ⟨?_,by show (readS k s).codes.length<3100;omega⟩
  have hb:(rvS k s).bits=(unpackL k.set.ord s).drop (readS k s).pos:=if_pos h1'
  have e6:(unpackL k.set.ord s).length<(readS k s).pos+(readS k s).k.width:=h6'.1
  have e2:(readS k s).pos≤(unpackL k.set.ord s).length:=h2
  rw [hb,List.length_drop]
  show _<(readS k s).k.width
  omega
 ·exact if_neg h1
theorem rvS_read {k:KnD} (hk:k.Ok) (hv:k.vl) (s t:List UInt8) :
  ((rvS k s).read t).1=rvS k (s++t)∧(readS k (s++t)).data=(readS k s).data++((rvS k s).read t).2.1 ∧
  ((readS k (s++t)).fin≠1→(readS k s).fin=1→s.length+((rvS k s).read t).2.2=((readS k (s++t)).pos+7) / 8) ∧
  ((readS k (s++t)).fin=1→(readS k s).fin=1∧((rvS k s).read t).2.2=t.length):=by
 have hul:=unpackL_length k.set.ord s
 have hult:=unpackL_length k.set.ord t
 have hst:unpackL k.set.ord (s++t)=unpackL k.set.ord s++unpackL k.set.ord t:=by simp [unpackL]
 obtain ⟨-,h2,h3,h4,h5,h6,-⟩:=readN_one k.set.ord (unpackL k.set.ord s) 0 0 (8 * s.length) k 0 [] [] hk hv (by omega) (Nat.zero_le _) (by simp)
 have hM:=readN_more k.set.ord (unpackL k.set.ord s) (unpackL k.set.ord t) 0 0 (8 * s.length) k 0 [] [] (8 * (s++t).length) hk (by omega) (by rw [List.length_append,List.length_append];omega)
 have hW:readS k (s++t)=readN k.set.ord (unpackL k.set.ord s++unpackL k.set.ord t) 0 0 (8 * (s++t).length) k 0 [] []:=by unfold readS;rw [hst]
 rw [← hW] at hM
 have eS:readN k.set.ord (unpackL k.set.ord s) 0 0 (8 * s.length) k 0 [] []=readS k s:=rfl
 rw [eS] at hM h2 h3 h4 h5 h6
 by_cases h1:(readS k s).fin=1
 ·obtain ⟨m',g1,g2⟩:=hM.2 h1
  obtain ⟨f1,f2⟩:=h6 h1
  have hA:=readN_acc k.set.ord (unpackL k.set.ord s++unpackL k.set.ord t) 0 0 (readS k s).codes (readS k s).data m' (readS k s).k (readS k s).pos [] []
  rw [List.append_nil,List.append_nil] at hA
  have hS:=readN_shift k.set.ord (unpackL k.set.ord s++unpackL k.set.ord t) (readS k s).pos (0+(readS k s).data.length) (0+(readS k s).codes.length) (by rw [List.length_append];omega) m' (readS k s).k 0 [] []
  rw [Nat.add_zero] at hS
  have hD:(unpackL k.set.ord s++unpackL k.set.ord t).drop (readS k s).pos=(unpackL k.set.ord s).drop (readS k s).pos++unpackL k.set.ord t:=List.drop_append_of_le_length h2
  rw [hD] at hS
  rw [hS] at hA
  rw [Nat.zero_add,Nat.zero_add] at hA
  have hbl:(rvS k s).bits=(unpackL k.set.ord s).drop (readS k s).pos:=if_pos h1
  have hgot:(rvS k s).got t=readN k.set.ord ((unpackL k.set.ord s).drop (readS k s).pos++unpackL k.set.ord t) (readS k s).data.length (readS k s).codes.length m' (readS k s).k 0 [] []:=by
   unfold RvD.got
   rw [hbl]
   show readN (readS k s).k.set.ord (_++unpackL (readS k s).k.set.ord t) (readS k s).data.length (readS k s).codes.length (_++unpackL (readS k s).k.set.ord t).length (readS k s).k 0 [] []=_
   rw [h5]
   exact (readN_fuel h3 h4 (by omega) (by rw [List.length_append,List.length_drop];rw [List.length_append] at g1;omega) (Nat.zero_le _) (by simp;omega)).symm
  rw [← hgot] at hA
  have hG:readS k (s++t)=⟨((rvS k s).got t).k,(readS k s).codes++((rvS k s).got t).codes,(readS k s).data++((rvS k s).got t).data,((rvS k s).got t).fin,(readS k s).pos+((rvS k s).got t).pos⟩:=g2.trans hA
  have hrd:(rvS k s).read t=(⟨((rvS k s).got t).k,if ((rvS k s).got t).fin=1 then ((rvS k s).bits++unpackL (rvS k s).k.set.ord t).drop ((rvS k s).got t).pos else [],(rvS k s).size+((rvS k s).got t).data.length,(rvS k s).cnt+((rvS k s).got t).codes.length,((rvS k s).got t).fin⟩,((rvS k s).got t).data,if ((rvS k s).got t).fin=1 then t.length else (((rvS k s).got t).pos - (rvS k s).bits.length+7) / 8):=by
   unfold RvD.read
   rw [if_neg (fun h=>h h1)]
  rw [hrd]
  have hone:=readN_one k.set.ord ((unpackL k.set.ord s).drop (readS k s).pos++unpackL k.set.ord t) (readS k s).data.length (readS k s).codes.length m' (readS k s).k 0 [] [] h3 h4 (by rw [List.length_append,List.length_drop];rw [List.length_append] at g1;omega) (Nat.zero_le _) (by simp;omega)
  rw [← hgot] at hone
  obtain ⟨-,o2,-,-,-,-,o7⟩:=hone
  refine ⟨?_,?_,fun hn _=>?_,fun hn=>⟨h1,?_⟩⟩
  ·have e:rvS k (s++t)=⟨((rvS k s).got t).k,if ((rvS k s).got t).fin=1 then (unpackL k.set.ord (s++t)).drop ((readS k s).pos+((rvS k s).got t).pos) else [],((readS k s).data++((rvS k s).got t).data).length,((readS k s).codes++((rvS k s).got t).codes).length,((rvS k s).got t).fin⟩:=by
    show (⟨(readS k (s++t)).k,if (readS k (s++t)).fin=1 then (unpackL k.set.ord (s++t)).drop (readS k (s++t)).pos else [],(readS k (s++t)).data.length,(readS k (s++t)).codes.length,(readS k (s++t)).fin⟩:RvD)=_
    rw [hG]
   have hko:(rvS k s).k.set.ord=k.set.ord:=by show (readS k s).k.set.ord=_;rw [h5]
   have hz:(rvS k s).size=(readS k s).data.length:=rfl
   have hz2:(rvS k s).cnt=(readS k s).codes.length:=rfl
   rw [e,hst,List.length_append,List.length_append,hbl,hko,hz,hz2,←List.drop_drop,hD]
  ·rw [hG]
  ·rw [hG] at hn
   have hn': ¬ ((rvS k s).got t).fin=1:=hn
   have hw:=(o7 hn').2
   rw [hG]
   show s.length+(if _ then _ else _)=((readS k s).pos+((rvS k s).got t).pos+7) / 8
   rw [if_neg hn',hbl,List.length_drop]
   omega
  ·rw [hG] at hn
   exact if_pos hn
 ·have hE:=hM.1 h1
  rw [hE]
  have hrd:(rvS k s).read t=(rvS k s,[],0):=by
   unfold RvD.read
   exact if_pos h1
  rw [hrd]
  refine ⟨?_,by simp,fun _ h=>absurd h h1,fun h=>absurd h h1⟩
  unfold rvS
  rw [hE,if_neg h1,if_neg h1]
theorem RvD.read_bd {r:RvD} (h:RvOk r) {s:List UInt8} (hs:s.length≤4000):(r.read s).2.1.length≤2000∧(r.read s).2.2≤4000:=by
 have hul:=unpackL_length r.k.set.ord s
 unfold RvD.read
 by_cases h1:r.fin=1
 ·rw [if_neg (fun e=>e h1)]
  obtain ⟨s1,s2⟩:=h.short h1
  have hw:=KnD.width_bd h.ok
  have hF:=readN_fin (o:=r.k.set.ord) (ct:=r.cnt) (r.bits++unpackL r.k.set.ord s).length r.k 0 [] [] (RdInv.start (bits:=r.bits++unpackL r.k.set.ord s) h.ok h.size) (by simp;omega)
  have h2:=hF.dl
  have h3:=hF.pos
  have hbl:(r.bits++unpackL r.k.set.ord s).length=r.bits.length+8 * s.length:=by rw [List.length_append,hul]
  have e:readN r.k.set.ord (r.bits++unpackL r.k.set.ord s) r.size r.cnt (r.bits++unpackL r.k.set.ord s).length r.k 0 [] []=r.got s:=rfl
  rw [e] at h2 h3
  refine ⟨by show (r.got s).data.length≤2000;omega,?_⟩
  show (if (r.got s).fin=1 then s.length else ((r.got s).pos - r.bits.length+7) / 8)≤4000
  have h4:(r.got s).pos - r.bits.length≤32000:=by omega
  generalize (r.got s).pos - r.bits.length=q at *
  split <;> omega
 ·rw [if_pos h1]
  exact ⟨by simp,by simp⟩
end Go.Proofs.YtekogcjdaolcbaaGreatDoor
/- Walks of the program's NewReader, ReaderValid, ReadStream, at readers that are valid. Conditions: as each says. -/
namespace Go.Proofs.YtekogcjdaolcbaaGreatDoor
open Go Go.RowKit
def rvV (r:RvD) (v:Value):Value:= .agg #[.int .i64 r.k.set.ord,.int .i64 r.k.set.lit,.int .i64 r.k.set.most,v,.int .i64 r.k.base,.int .i64 r.k.last,.string (bs r.bits),.int .i64 (r.size:Nat),.int .i64 (r.cnt:Nat),.int .i64 r.fin]
def RvAt (b:Nat) (r:RvD) (v:Value) (w:World):Prop:=w.heap[b]? =some (.cells #[.int .i64 r.k.set.ord,.int .i64 r.k.set.lit,.int .i64 r.k.set.most,v,.int .i64 r.k.base,.int .i64 r.k.last,.string (bs r.bits),.int .i64 (r.size:Nat),.int .i64 (r.cnt:Nat),.int .i64 r.fin] 52)
theorem RvAt.cells {b:Nat} {r:RvD} {v:Value} {w:World} (h:RvAt b r v w):b<w.heap.size∧w.cell? ⟨b,0,none⟩=some (.int .i64 r.k.set.ord)∧w.cell? ⟨b,1,none⟩=some (.int .i64 r.k.set.lit)∧w.cell? ⟨b,2,none⟩=some (.int .i64 r.k.set.most)∧w.cell? ⟨b,3,none⟩=some v∧w.cell? ⟨b,4,none⟩=some (.int .i64 r.k.base)∧w.cell? ⟨b,5,none⟩=some (.int .i64 r.k.last)∧w.cell? ⟨b,6,none⟩=some (.string (bs r.bits))∧w.cell? ⟨b,7,none⟩=some (.int .i64 (r.size:Nat))∧w.cell? ⟨b,8,none⟩=some (.int .i64 (r.cnt:Nat))∧w.cell? ⟨b,9,none⟩=some (.int .i64 r.fin) :=
 ⟨(Array.getElem?_eq_some_iff.1 h).1,box_cell h 0,box_cell h 1,box_cell h 2,box_cell h 3,box_cell h 4,box_cell h 5,box_cell h 6,box_cell h 7,box_cell h 8,box_cell h 9⟩
theorem RvAt.up {b:Nat} {r:RvD} {v:Value} {w w':World} (h:RvAt b r v w) (hu:Up w w'):RvAt b r v w':=box_up hu h
def RvW (w:World) (b:Nat) (r:RvD) (v:Value):World:=((((KnW w b r.k v).setCell ⟨b,6,none⟩ (.string (bs r.bits))).setCell ⟨b,7,none⟩ (.int .i64 (r.size:Nat))).setCell ⟨b,8,none⟩ (.int .i64 (r.cnt:Nat))).setCell ⟨b,9,none⟩ (.int .i64 r.fin)
def rv0:RvD:=⟨⟨⟨0,0,0⟩,[],0,0⟩,[],0,0,0⟩
theorem RvAt.zero {w:World} {b:Nat} (h:w.heap[b]? =some (.cells #[.int .i64 0,.int .i64 0,.int .i64 0,.slice none 0 0,.int .i64 0,.int .i64 0,.string ⟨#[]⟩,.int .i64 0,.int .i64 0,.int .i64 0] 52)):RvAt b rv0 (.slice none 0 0) w:=h
theorem RvAt.store {b:Nat} {r0:RvD} {v0:Value} {w:World} (h:RvAt b r0 v0 w) (r:RvD) (v:Value):RvAt b r v (RvW w b r v):=by
 unfold RvAt at *
 unfold RvW KnW
 have:=box_set (box_set (box_set (box_set (box_set (box_set (box_set (box_set (box_set (box_set h 0 (.int .i64 r.k.set.ord)) 1 (.int .i64 r.k.set.lit)) 2 (.int .i64 r.k.set.most)) 3 v) 4 (.int .i64 r.k.base)) 5 (.int .i64 r.k.last)) 6 (.string (bs r.bits))) 7 (.int .i64 (r.size:Nat))) 8 (.int .i64 (r.cnt:Nat))) 9 (.int .i64 r.fin)
 simpa using this
theorem RvW.up {a w:World} (h:Up a w) {b:Nat} (hb:a.heap.size≤b) (r:RvD) (v:Value):Up a (RvW w b r v):=by
 unfold RvW KnW
 repeat (refine Up.set ?_ (by exact hb) _)
 exact h
theorem RvW.own {w:World} {base:Nat} {e:TypeId} {size n:Nat} {u:Value} {xs:List Value} (h:w.ownsRow base e size u n xs) {b:Nat} (hb:some b≠u.ownBlock) (r:RvD) (v:Value):(RvW w b r v).ownsRow base e size u n xs:=by
 unfold RvW KnW
 repeat (refine ownsRow_setb ?_ hb _ _)
 exact h
theorem RvW.other {w:World} {b b':Nat} (hb:b'≠b) (r:RvD) (v:Value):(RvW w b r v).heap[b']? =w.heap[b']? :=by
 unfold RvW KnW
 have hs: ∀ (w:World) (i:Nat) (x:Value),(w.setCell ⟨b,i,none⟩ x).heap[b']? =w.heap[b']? :=fun w i x=>Below.heap_setCell _ _ _ _ hb
 rw [hs,hs,hs,hs,hs,hs,hs,hs,hs,hs]
set_option maxRecDepth 100000 in
set_option maxHeartbeats 8000000 in
theorem nrI_any (k:KnD) (v:Value) (lo:Nat) (w:World) (hk:k.Ok) (hv:k.vl) (hr:RdP lo w v k.ps) :
  Calls Tryz.prog 23  #[kV k v] w (fun e w'=> ∃ v',e= .returned (.tuple #[rvV ⟨k,[],0,0,1⟩ v',.bool true])∧ownPr w' w.heap.size v' k.ps∧Up w w'):=by
 have cV:=fun wq hr=>kvI_any k v lo wq hk hv hr
 have cY:=fun wx hr=>copyI_any k v lo wx hr (by have:=hk.nums;omega)
 have hrt:=fun (wq:World) (hu:Up w wq)=>hr.up hu
 obtain ⟨a,cap,rfl,-,-,-,-⟩:=id hr
 clear hk hv hr
 simp only [kV] at *
 go_enter Tryz.func23,Tryz.ntmps23
 go_wp2_with (first|((go_at_call 64;(with_reducible refine (cV _ (hrt _ (by (repeat (first|with_reducible exact Up.refl _|with_reducible assumption|with_reducible refine Up.alloc ?_ _|refine Up.trans ?_ (by with_reducible assumption)))))).mono ?_);rintro e w1 ⟨rfl,U1⟩;have B1:=bcell U1;have Z1:=U1.size;(try simp at Z1);(try rw [Nat.add_one_le_iff] at Z1)))|(go_at_call 35;(with_reducible refine (cY _ (hrt _ (by (repeat (first|with_reducible exact Up.refl _|with_reducible assumption|with_reducible refine Up.alloc ?_ _|refine Up.trans ?_ (by with_reducible assumption)))))).mono ?_);rintro e w2 ⟨v2,rfl,ho2,U2⟩;obtain ⟨a2,c2,rfl⟩:=ownsRow_shape ho2;simp only [kV];have HZ:=Lib.hid (RvAt.zero (box_up (U1.trans U2) (alloc2 w _ _)));obtain ⟨hbz,q0,q1,q2,q3,q4,q5,q6,q7,q8,q9⟩:=RvAt.cells HZ.out;simp only [rv0] at q0 q1 q2 q3 q4 q5 q6 q7 q8 q9;have hfz:=box_free HZ.out;have HO:=Lib.hid ho2;have hs1:=U1.size;simp at hs1;have HU:=Lib.hid (show Up w w2 by (repeat (first|with_reducible exact Up.refl _|with_reducible assumption|with_reducible refine Up.alloc ?_ _|refine Up.trans ?_ (by with_reducible assumption))));clear ho2)|fail)
 refine bodyPost_ret (v:= .tuple #[rvV ⟨k,[],0,0,1⟩ (.slice a2 k.ps.length c2),.bool true]) (by simp [results,Tryz.results23,go_sem,q0,q1,q2,q3,q4,q5,q6,q7,q8,q9];rfl) rfl ⟨_,rfl,?_,?_⟩
 ·exact RvW.own (b:=w.heap.size+1) (r:=⟨k,[],0,0,1⟩) (ownsRow_base HO.out (by omega)) (fun e=>by have:=(HO.out.lt _ e.symm).1;omega) _
 ·exact RvW.up HU.out (Nat.le_succ _) ⟨k,[],0,0,1⟩ (.slice a2 k.ps.length c2)
set_option maxRecDepth 100000 in
set_option maxHeartbeats 8000000 in
theorem rvI_yes (r:RvD) (v:Value) (lo:Nat) (w:World) (h:RvOk r) (hr:RdP lo w v r.k.ps) :
  Calls Tryz.prog 79  #[rvV r v] w (Same (.bool true) w):=by
 have cV:=fun wq hr=>kvI_any r.k v lo wq h.ok h.vl hr
 have cW:=fun wq hr=>widthI_any r.k v lo wq h.ok hr
 have hrt:=fun (wq:World) (hu:Up w wq)=>hr.up hu
 have hwd:=KnD.width_bd h.ok
 have hbl:r.bits.length≤32000:=by
  by_cases h1:r.fin=1
  ·have:=(h.short h1).1;omega
  ·rw [h.done h1];exact Nat.zero_le _
 have cB:=fun wq=>bitsVI_any (bs r.bits) wq (by rw [bs_data];exact h.bit) (by rw [bs_size];exact hbl)
 have hsz:=h.size
 have hct:=h.cnt
 have hlb:=bs_size r.bits
 have hkd:=h.kind
 have hsh:=Lib.hid h.short
 have hdn:=Lib.hid h.done
 obtain ⟨a,cap,rfl,-,-,-,-⟩:=id hr
 obtain ⟨k,bits,size,cnt,fin⟩:=r
 dsimp only at *
 have hX:=(MapKept.heap_alloc w (.cells #[.int .i64 k.set.ord,.int .i64 k.set.lit,.int .i64 k.set.most,.slice a k.ps.length cap,.int .i64 k.base,.int .i64 k.last,.string (bs bits),.int .i64 (size:Nat),.int .i64 (cnt:Nat),.int .i64 fin] 52)).1
 have hX:RvAt w.heap.size ⟨k,bits,size,cnt,fin⟩ (.slice a k.ps.length cap) _:=hX
 have hU:=(Up.refl w).alloc (.cells #[.int .i64 k.set.ord,.int .i64 k.set.lit,.int .i64 k.set.most,.slice a k.ps.length cap,.int .i64 k.base,.int .i64 k.last,.string (bs bits),.int .i64 (size:Nat),.int .i64 (cnt:Nat),.int .i64 fin] 52)
 clear h hr
 rcases hkd with rfl|rfl|rfl|rfl
 all_goals
  simp only [kV,rvV] at *
 case inr.inl =>
  obtain ⟨hs1,hs2⟩:=hsh.out (by first|trivial|rfl)
  have hg1:decide (((bits.length:Nat):Int)<((k.width:Nat):Int))=true:=by simp;omega
  go_enter Tryz.func79,Tryz.ntmps79
  go_wp2_with (first|(go_at_call 64;(with_reducible refine (cV _ (hrt _ (by (repeat (first|with_reducible exact Up.refl _|with_reducible assumption|with_reducible refine Up.alloc ?_ _|refine Up.trans ?_ (by with_reducible assumption)))))).mono ?_);rintro e w1 ⟨rfl,U1⟩;have B1:=bcell U1;have Z1:=U1.size;(try simp at Z1);(try rw [Nat.add_one_le_iff] at Z1))|(go_at_call 65;(with_reducible refine (cB _).mono ?_);rintro e w' ⟨rfl,rfl⟩)|fail)
  have HX:=Lib.hid (And.intro (hX.up U1) (hU.trans U1))
  clear hX hU U1 B1 Z1
  refine wp_region_up 12 (by kernel_rfl) (by kernel_rfl) ?_
  simp only [List.take,List.drop]
  repeat (refine wpUp_step (fun K hK=>?_);go_simp;(try simp only [↓IntWalk.iteOmega]);first
   |(refine hK _ _ ?_;clear hK K)
   |(apply stepU_c
     ·intro wq hwq;(have hbq:=bcell hwq;(repeat (first|refine fills_no (by rfl) ?_|refine fills_yes (by rfl) (fun vq hvq=>?_)));simp only [List.filter_nil,fills];unfold upAt;(try ((obtain ⟨hbq0,r0,r1,r2,r3,r4,r5,r6,r7,r8,r9⟩:=(HX.out.1.up hwq).cells)));go_simp;(try go_bits);(try simp only [↓IntWalk.iteOmega]);first|exact upOut_value|(apply upOut_call;(go_at_call 84;exact cW _ (hrt _ (HX.out.2.trans hwq)))))
     go_simp;refine hK _ _ ?_;clear hK K))
  refine wpUp_nil (fun wq hwq=>?_)
  simp only [fills]
  have hUq:=HX.out.2.trans hwq
  clear hwq HX
  go_wp2
  go_ret
  exact ⟨ret_bool (by simp;omega),hUq⟩
 all_goals
  have hb0:=hdn.out (by decide)
  subst hb0
  have hbn:bs ([]:List UInt8)=(⟨#[]⟩:ByteArray):=rfl
  rw [hbn] at cB ⊢
  clear hbn hlb
  go_enter Tryz.func79,Tryz.ntmps79
  go_wp2_with (first|(go_at_call 64;(with_reducible refine (cV _ (hrt _ (by (repeat (first|with_reducible exact Up.refl _|with_reducible assumption|with_reducible refine Up.alloc ?_ _|refine Up.trans ?_ (by with_reducible assumption)))))).mono ?_);rintro e w1 ⟨rfl,U1⟩;have B1:=bcell U1;have Z1:=U1.size;(try simp at Z1);(try rw [Nat.add_one_le_iff] at Z1))|(go_at_call 65;(with_reducible refine (cB _).mono ?_);rintro e w' ⟨rfl,rfl⟩)|fail)
  go_ret
  refine ⟨ret_bool (by simp;try rfl),?_⟩
  (repeat (first|with_reducible exact Up.refl _|with_reducible assumption|with_reducible refine Up.alloc ?_ _|refine Up.trans ?_ (by with_reducible assumption)))
def RsPost (x:RvD × List UInt8 × Nat) (w:World) (e:Ending) (w':World):Prop:= ∃ v',e= .returned (.tuple #[rvV x.1 v',.string (bs x.2.1),.int .i64 (x.2.2:Nat),.bool true])∧ownPr w' w.heap.size v' x.1.k.ps∧Up w w'
theorem alloc2b (w:World) (A B:Obj):((w.alloc A).alloc B).heap[w.heap.size]? =some A:=box_up ((Up.refl _).alloc _) (MapKept.heap_alloc w A).1
set_option maxRecDepth 100000 in
set_option maxHeartbeats 8000000 in
theorem rsI_done (r:RvD) (v:Value) (lo:Nat) (s:ByteArray) (w:World) (h:RvOk r) (h1:r.fin≠1) (hr:RdP lo w v r.k.ps) (hs:s.size≤4000) :
  Calls Tryz.prog 26  #[rvV r v,.string s] w (RsPost (r,[],0) w):=by
 have cR:=fun wq hr=>rvI_yes r v lo wq h hr
 have cY:=fun wx hr=>copyI_any r.k v lo wx hr (by have:=h.ok.nums;omega)
 have hrt:=fun (wq:World) (hu:Up w wq)=>hr.up hu
 obtain ⟨a,cap,rfl,-,-,-,-⟩:=id hr
 have hX0: ∀ B,RvAt w.heap.size r (.slice a r.k.ps.length cap) ((w.alloc (.cells #[.int .i64 r.k.set.ord,.int .i64 r.k.set.lit,.int .i64 r.k.set.most,.slice a r.k.ps.length cap,.int .i64 r.k.base,.int .i64 r.k.last,.string (bs r.bits),.int .i64 (r.size:Nat),.int .i64 (r.cnt:Nat),.int .i64 r.fin] 52)).alloc B):=fun B=>alloc2b w _ B
 clear h hr
 unfold RsPost
 dsimp only
 simp only [kV,rvV] at *
 go_enter Tryz.func26,Tryz.ntmps26
 go_wp2_with (first|((go_at_call 79;(with_reducible refine (cR _ (hrt _ (by (repeat (first|with_reducible exact Up.refl _|with_reducible assumption|with_reducible refine Up.alloc ?_ _|refine Up.trans ?_ (by with_reducible assumption)))))).mono ?_);rintro e w1 ⟨rfl,U1⟩;have B1:=bcell U1;have Z1:=U1.size;(try simp at Z1);(try rw [Nat.add_one_le_iff] at Z1));obtain ⟨hbx,r0,r1,r2,r3,r4,r5,r6,r7,r8,r9⟩:=((hX0 _).up U1).cells)|(go_at_call 35;(with_reducible refine (cY _ (hrt _ (by (repeat (first|with_reducible exact Up.refl _|with_reducible assumption|with_reducible refine Up.alloc ?_ _|refine Up.trans ?_ (by with_reducible assumption)))))).mono ?_);rintro e w3 ⟨v3,rfl,ho3,U3⟩;obtain ⟨a3,c3,rfl⟩:=ownsRow_shape ho3;simp only [kV];have HZ:=Lib.hid (RvAt.zero (box_up (U1.trans U3) (alloc2 w _ _)));have HX:=Lib.hid (((hX0 _).up U1).up U3);obtain ⟨hbz,q0,q1,q2,q3,q4,q5,q6,q7,q8,q9⟩:=RvAt.cells HZ.out;simp only [rv0] at q0 q1 q2 q3 q4 q5 q6 q7 q8 q9;obtain ⟨hbx,r0,r1,r2,r3,r4,r5,r6,r7,r8,r9⟩:=RvAt.cells HX.out;have hfx:=box_free HX.out;have hfz:=box_free HZ.out;have HO:=Lib.hid ho3;have hs1:=U1.size;simp at hs1;have HU:=Lib.hid (show Up w w3 by (repeat (first|with_reducible exact Up.refl _|with_reducible assumption|with_reducible refine Up.alloc ?_ _|refine Up.trans ?_ (by with_reducible assumption))));clear ho3)|fail)
 refine bodyPost_ret (v:= .tuple #[.agg #[.int .i64 r.k.set.ord,.int .i64 r.k.set.lit,.int .i64 r.k.set.most,.slice a3 r.k.ps.length c3,.int .i64 r.k.base,.int .i64 r.k.last,.string (bs r.bits),.int .i64 (r.size:Nat),.int .i64 (r.cnt:Nat),.int .i64 r.fin],.string (bs []),.int .i64 0,.bool true]) (by simp [results,Tryz.results26,go_sem,q0,q1,q2,q3,q4,q5,q6,q7,q8,q9,r0,r1,r2,r3,r4,r5,r6,r7,r8,r9];rfl) rfl ⟨.slice a3 r.k.ps.length c3,rfl,?_,?_⟩
 ·have ho:=ownsRow_base HO.out (show w.heap.size≤w1.heap.size by omega)
  have hlo:=fun b e=>(HO.out.lt b e).1
  exact RvW.own (b:=w.heap.size+1) (KnW.own ho (b:=w.heap.size) (fun e=>by have:=hlo _ e.symm;omega) r.k _) (fun e=>by have:=hlo _ e.symm;omega) r _
 ·exact RvW.up (KnW.up HU.out (Nat.le_refl _) r.k _) (Nat.le_succ _) r _
def RvN (base:Nat) (u:Value) (w:World):Prop:= ∃ b,u= .pointer (some ⟨b,0,none⟩)∧base≤b∧RvAt b rv0 (.slice none 0 0) w
theorem rvN_closed (base:Nat): ∀ u,UpClosed (RvN base u):=fun u w w' ⟨b,h1,h2,h3⟩ hu=>⟨b,h1,h2,h3.up hu⟩
def RvI (base:Nat) (k:KnD) (A B F:Int) (u:Value) (w:World):Prop:= ∃ v,u= .agg #[.int .i64 k.set.ord,.int .i64 k.set.lit,.int .i64 k.set.most,v,.int .i64 k.base,.int .i64 k.last,.string ⟨#[]⟩,.int .i64 A,.int .i64 B,.int .i64 F]∧ownPr w base v k.ps
theorem rvI_closed (base:Nat) (k:KnD) (A B F:Int): ∀ u,UpClosed (RvI base k A B F u):=fun u w w' ⟨v,h1,h2⟩ hu=>⟨v,h1,ownsRow_up h2 hu⟩
set_option maxRecDepth 100000 in
set_option maxHeartbeats 16000000 in
theorem rsI_go (r:RvD) (v:Value) (lo:Nat) (s:ByteArray) (w:World) (h:RvOk r) (h1:r.fin=1) (hr:RdP lo w v r.k.ps) (hs:s.size≤4000) :
  Calls Tryz.prog 26  #[rvV r v,.string s] w (RsPost (r.read s.data.toList) w):=by
 have cR:=fun wq hr=>rvI_yes r v lo wq h hr
 have hrt:=fun (wq:World) (hu:Up w wq)=>hr.up hu
 obtain ⟨hs1,hs2⟩:=h.short h1
 have hwd:=KnD.width_bd h.ok
 have hul:=unpackL_length r.k.set.ord s.data.toList
 have hsl:s.data.toList.length=s.size:=rfl
 have ho:=(setOk_bd h.ok.set).1
 have cU:=fun wx=>unpackBI_any r.k.set.ord s wx ho hs
 have hcat:bs r.bits++bs (unpackL r.k.set.ord s.data.toList)=bs (r.bits++unpackL r.k.set.ord s.data.toList):=bs_app _ _
 have hbl:(r.bits++unpackL r.k.set.ord s.data.toList).length≤32010:=by rw [List.length_append];omega
 have hb1:=bs_size r.bits
 have hb2:=bs_size (unpackL r.k.set.ord s.data.toList)
 have cG: ∀ wx v,RdP 0 wx v r.k.ps→Calls Tryz.prog 83  #[kV r.k v,.string (bs (r.bits++unpackL r.k.set.ord s.data.toList)),.int .i64 (r.size:Nat),.int .i64 (r.cnt:Nat)] wx (RcPost (r.got s.data.toList) wx):=fun wx v hr=>readI_any r.k v 0 (r.bits++unpackL r.k.set.ord s.data.toList) r.size r.cnt wx h.ok hr (h.bit.app (isBits_unpack _ _)) (by omega) h.size hs2
 have hF:=readN_fin (o:=r.k.set.ord) (ct:=r.cnt) (r.bits++unpackL r.k.set.ord s.data.toList).length r.k 0 [] [] (RdInv.start (bits:=r.bits++unpackL r.k.set.ord s.data.toList) h.ok h.size) (by simp;omega)
 have e:readN r.k.set.ord (r.bits++unpackL r.k.set.ord s.data.toList) r.size r.cnt (r.bits++unpackL r.k.set.ord s.data.toList).length r.k 0 [] []=r.got s.data.toList:=rfl
 rw [e] at hF
 have hdl:=hF.dl
 have hcl:=hF.cl
 have hpl:=hF.pos
 have hkd:=hF.kind
 have hkn:=hF.ok.nums.2.2.2.1
 have hE:r.read s.data.toList=(⟨(r.got s.data.toList).k,if (r.got s.data.toList).fin=1 then (r.bits++unpackL r.k.set.ord s.data.toList).drop (r.got s.data.toList).pos else [],r.size+(r.got s.data.toList).data.length,r.cnt+(r.got s.data.toList).codes.length,(r.got s.data.toList).fin⟩,(r.got s.data.toList).data,if (r.got s.data.toList).fin=1 then s.data.toList.length else ((r.got s.data.toList).pos - r.bits.length+7) / 8):=by
  unfold RvD.read
  rw [if_neg (fun e=>e h1)]
 rw [hE]
 have hsz:=h.size
 have hct:=h.cnt
 clear hF e hE
 generalize r.got s.data.toList=R at *
 obtain ⟨kR,codes,dat,fin,pos⟩:=R
 generalize unpackL r.k.set.ord s.data.toList=ub at *
 dsimp only at *
 obtain ⟨a,cap,rfl,-,-,-,-⟩:=id hr
 obtain ⟨k,bits,size,cnt,fi⟩:=r
 dsimp only at *
 subst h1
 have hX0: ∀ B,RvAt w.heap.size ⟨k,bits,size,cnt,1⟩ (.slice a k.ps.length cap) ((w.alloc (.cells #[.int .i64 k.set.ord,.int .i64 k.set.lit,.int .i64 k.set.most,.slice a k.ps.length cap,.int .i64 k.base,.int .i64 k.last,.string (bs bits),.int .i64 (size:Nat),.int .i64 (cnt:Nat),.int .i64 1] 52)).alloc B):=fun B=>alloc2b w _ B
 generalize hN1:size+dat.length=N1 at *
 generalize hN2:cnt+codes.length=N2 at *
 have HN1:=Lib.hid hN1
 have HN2:=Lib.hid hN2
 have hdl2:dat.length≤2000:=by omega
 have hcl2:codes.length≤3100:=by omega
 clear h hr ho hN1 hN2
 unfold RsPost
 dsimp only
 simp only [kV,rvV] at *
 go_enter Tryz.func26,Tryz.ntmps26
 go_wp2_with (first|((go_at_call 79;(with_reducible refine (cR _ (hrt _ (by (repeat (first|with_reducible exact Up.refl _|with_reducible assumption|with_reducible refine Up.set ?_ (by first|exact Nat.le_refl _|(simp only [];omega)|(simp;omega)) _|with_reducible refine Up.alloc ?_ _|refine Up.trans ?_ (by with_reducible assumption)))))).mono ?_);rintro e w1 ⟨rfl,U1⟩;have B1:=bcell U1;have Z1:=U1.size;(try simp at Z1);(try rw [Nat.add_one_le_iff] at Z1));obtain ⟨hbx,r0,r1,r2,r3,r4,r5,r6,r7,r8,r9⟩:=((hX0 _).up U1).cells)|fail)
 have HX:=Lib.hid (show RvAt w.heap.size ⟨k,bits,size,cnt,1⟩ (.slice a k.ps.length cap) w1 from (hX0 _).up U1)
 have HZ:=Lib.hid (show RvAt (w.heap.size+1) rv0 (.slice none 0 0) w1 from RvAt.zero (box_up U1 (alloc2 w _ _)))
 have HU:=Lib.hid (show Up w w1 by (repeat (first|with_reducible exact Up.refl _|with_reducible assumption|with_reducible refine Up.set ?_ (by first|exact Nat.le_refl _|(simp only [];omega)|(simp;omega)) _|with_reducible refine Up.alloc ?_ _|refine Up.trans ?_ (by with_reducible assumption))))
 have hz1:=U1.size
 simp at hz1
 clear r0 r1 r2 r3 r4 r5 r6 r7 r8 r9 U1 B1 Z1 hX0 cR hbx
 refine wp_region_up 9 (by kernel_rfl) (by kernel_rfl) ?_
 simp only [List.take,List.drop]
 repeat (refine wpUp_step (fun K hK=>?_);go_simp;(try simp only [↓IntWalk.iteOmega]);first
  |(refine hK _ _ ?_;clear hK K)
  |(apply stepU_c
    ·intro wq hwq;(have hbq:=bcell hwq;(repeat (first|refine fills_no (by rfl) ?_|refine fills_yes (by rfl) (fun vq hvq=>?_)));simp only [List.filter_nil,fills];unfold upAt;(try ((obtain ⟨hbq0,r0,r1,r2,r3,r4,r5,r6,r7,r8,r9⟩:=(HX.out.up hwq).cells)));go_simp;(try go_bits);(try simp only [↓IntWalk.iteOmega]);first|exact upOut_value|(apply upOut_call;(go_at_call 82;exact cU _)))
    go_simp;refine hK _ _ ?_;clear hK K))
 refine wpUp_nil (fun wq hwq=>?_)
 simp only [fills]
 have HX2:=Lib.hid (HX.out.up hwq)
 have HZ2:=Lib.hid (HZ.out.up hwq)
 have HU2:=Lib.hid (HU.out.trans hwq)
 have hz2:=hwq.size
 obtain ⟨hbq0,r0,r1,r2,r3,r4,r5,r6,r7,r8,r9⟩:=HX2.out.cells
 clear hwq HX HZ HU
 go_wp2_with fail
 (with_reducible refine (cG _ _ ((hrt _ HU2.out).low (Nat.zero_le _))).mono ?_)
 rintro e w3 ⟨v3,vc,vd,rfl,hp3,hc3,hd3,U3⟩
 obtain ⟨a3,c3,rfl⟩:=ownsRow_shape hp3
 obtain ⟨ac,cc,rfl⟩:=ownsRow_shape hc3
 obtain ⟨ad,cd,rfl⟩:=ownsRow_shape hd3
 have hz3:=U3.size
 have hX3:=HX2.out.up U3
 have hZ3:=HZ2.out.up U3
 have hU3:=HU2.out.trans U3
 clear r0 r1 r2 r3 r4 r5 r6 r7 r8 r9 hbq0 HX2 HZ2 HU2 U3 cG cU hcat
 go_wp2_with fail
 have hUa:=(Up.refl w3).alloc (.cells #[.int .i64 kR.set.ord,.int .i64 kR.set.lit,.int .i64 kR.set.most,.slice a3 kR.ps.length c3,.int .i64 kR.base,.int .i64 kR.last,.slice ac codes.length cc,.slice ad dat.length cd,.int .i64 fin,.int .i64 pos] 114)
 have hG:RgAt w3.heap.size kR (.slice a3 kR.ps.length c3) (.slice ac codes.length cc) (.slice ad dat.length cd) fin pos (w3.alloc (.cells #[.int .i64 kR.set.ord,.int .i64 kR.set.lit,.int .i64 kR.set.most,.slice a3 kR.ps.length c3,.int .i64 kR.base,.int .i64 kR.last,.slice ac codes.length cc,.slice ad dat.length cd,.int .i64 fin,.int .i64 pos] 114)):=(MapKept.heap_alloc w3 _).1
 have hz4:=Lib.hid <| show w3.heap.size<(w3.alloc (.cells #[.int .i64 kR.set.ord,.int .i64 kR.set.lit,.int .i64 kR.set.most,.slice a3 kR.ps.length c3,.int .i64 kR.base,.int .i64 kR.last,.slice ac codes.length cc,.slice ad dat.length cd,.int .i64 fin,.int .i64 pos] 114)).heap.size from (Array.getElem?_eq_some_iff.1 hG).1
 have hp3:=ownsRow_up hp3 hUa
 have hd3:=ownsRow_up hd3 hUa
 have HX4:=Lib.hid (hX3.up hUa)
 have HZ4:=Lib.hid (hZ3.up hUa)
 have HU4:=Lib.hid (hU3.trans hUa)
 have HG4:=Lib.hid hG
 have cY:=fun wx hr=>copyI_any kR (.slice a3 kR.ps.length c3) 0 wx hr (by omega)
 have hr3:RdP 0 (w3.alloc (.cells #[.int .i64 kR.set.ord,.int .i64 kR.set.lit,.int .i64 kR.set.most,.slice a3 kR.ps.length c3,.int .i64 kR.base,.int .i64 kR.last,.slice ac codes.length cc,.slice ad dat.length cd,.int .i64 fin,.int .i64 pos] 114)) (.slice a3 kR.ps.length c3) kR.ps:=(RdP.of_own hp3).low (Nat.zero_le _)
 clear hUa hX3 hZ3 hU3 hc3 hG
 generalize w3.alloc (.cells #[.int .i64 kR.set.ord,.int .i64 kR.set.lit,.int .i64 kR.set.most,.slice a3 kR.ps.length c3,.int .i64 kR.base,.int .i64 kR.last,.slice ac codes.length cc,.slice ad dat.length cd,.int .i64 fin,.int .i64 pos] 114)=W4 at *
 simp only [kV] at cY
 refine wp_region_up 19 (by kernel_rfl) (by kernel_rfl) ?_
 simp only [List.take,List.drop]
 repeat (refine wpUp_step (fun K hK=>?_);go_simp;(try simp only [↓IntWalk.iteOmega]);first
  |(refine hK _ _ ?_;clear hK K)
  |(apply stepU_c
    ·intro wq hwq;(have hbq:=bcell hwq;(repeat (first|refine fills_no (by rfl) ?_|refine fills_yes (by rfl) (fun vq hvq=>?_)));simp only [List.filter_nil,fills];unfold upAt;(try (((try (obtain ⟨v',rfl,hv'⟩:=hvq;simp only [kV]));obtain ⟨hbq0,r0,r1,r2,r3,r4,r5,r6,r7,r8,r9⟩:=(HX4.out.up hwq).cells;obtain ⟨hbq1,g0,g1,g2,g3,g4,g5,g6,g7,g8,g9⟩:=RgAt.cells (box_up hwq HG4.out))));go_simp;(try go_bits);(try simp only [↓IntWalk.iteOmega]);first|exact upOut_value)
    go_simp;refine hK _ _ ?_;clear hK K)
  |(refine stepU_m (by kernel_rfl) (KnO W4.heap.size kR) (knO_closed _ _) (fun wq hwq=>?_) ?_
    ·(have hbq:=bcell hwq;(repeat (first|refine fills_no (by rfl) ?_|refine fills_yes (by rfl) (fun vq hvq=>?_)));simp only [List.filter_nil,fills];unfold upAt;(try (((try (obtain ⟨v',rfl,hv'⟩:=hvq;simp only [kV]));obtain ⟨hbq0,r0,r1,r2,r3,r4,r5,r6,r7,r8,r9⟩:=(HX4.out.up hwq).cells;obtain ⟨hbq1,g0,g1,g2,g3,g4,g5,g6,g7,g8,g9⟩:=RgAt.cells (box_up hwq HG4.out))));go_simp;(try go_bits);(try simp only [↓IntWalk.iteOmega]);((with_reducible refine upOut_known ?_ hwq.size);go_at_call 35;exact cY _ (hr3.up hwq)))
    refine hK _ _ ?_;clear hK K)
  |(refine stepU_m (by kernel_rfl) (RvI W4.heap.size kR (N1:Int) (N2:Int) fin) (rvI_closed _ _ _ _ _) (fun wq hwq=>?_) ?_
    ·(have hbq:=bcell hwq;(repeat (first|refine fills_no (by rfl) ?_|refine fills_yes (by rfl) (fun vq hvq=>?_)));simp only [List.filter_nil,fills];unfold upAt;(try (((try (obtain ⟨v',rfl,hv'⟩:=hvq;simp only [kV]));obtain ⟨hbq0,r0,r1,r2,r3,r4,r5,r6,r7,r8,r9⟩:=(HX4.out.up hwq).cells;obtain ⟨hbq1,g0,g1,g2,g3,g4,g5,g6,g7,g8,g9⟩:=RgAt.cells (box_up hwq HG4.out))));go_simp;(try go_bits);(try simp only [↓IntWalk.iteOmega]);(exact ⟨Up.refl _,v',(by rw [← HN1.out,←HN2.out,Int.natCast_add,Int.natCast_add]),hv'⟩))
    refine hK _ _ ?_;clear hK K)
  |(refine stepU_m (by kernel_rfl) (RvN W4.heap.size) (rvN_closed _) (fun wq hwq=>?_) ?_
    ·(have hbq:=bcell hwq;(repeat (first|refine fills_no (by rfl) ?_|refine fills_yes (by rfl) (fun vq hvq=>?_)));simp only [List.filter_nil,fills];unfold upAt;(try (((try (obtain ⟨v',rfl,hv'⟩:=hvq;simp only [kV]));obtain ⟨hbq0,r0,r1,r2,r3,r4,r5,r6,r7,r8,r9⟩:=(HX4.out.up hwq).cells;obtain ⟨hbq1,g0,g1,g2,g3,g4,g5,g6,g7,g8,g9⟩:=RgAt.cells (box_up hwq HG4.out))));go_simp;(try go_bits);(try simp only [↓IntWalk.iteOmega]);(exact ⟨(Up.refl _).alloc _,_,rfl,hwq.size,RvAt.zero (MapKept.heap_alloc _ _).1⟩))
    refine hK _ _ ?_;clear hK K))
 refine wpUp_nil (fun wq hwq=>?_)
 simp only [fills]
 rintro u1 ⟨b,rfl,hbb,hbx⟩ u2 ⟨v9,rfl,hv9⟩ u3 ⟨v8,rfl,-⟩
 obtain ⟨a9,c9,rfl⟩:=ownsRow_shape hv9
 have hz4':=hz4.out
 have hbX:w.heap.size≠b:=by omega
 have hbZ:w.heap.size+1≠b:=by omega
 have hbG:w3.heap.size≠b:=by omega
 have hdlo:=hd3.lt
 have hdq:=ownsRow_up hd3 hwq
 have hvn:some b≠(Value.slice a9 kR.ps.length c9).ownBlock:=box_ne hbx hv9 (by decide)
 have HH:=Lib.hid (And.intro (RvAt.store hbx ⟨kR,[],N1,N2,fin⟩ (.slice a9 kR.ps.length c9)) (And.intro ((RvW.other hbX ⟨kR,[],N1,N2,fin⟩ (.slice a9 kR.ps.length c9)).trans (HX4.out.up hwq)) (And.intro ((RvW.other hbZ ⟨kR,[],N1,N2,fin⟩ (.slice a9 kR.ps.length c9)).trans (HZ4.out.up hwq)) (And.intro ((RvW.other hbG ⟨kR,[],N1,N2,fin⟩ (.slice a9 kR.ps.length c9)).trans (box_up hwq HG4.out)) (And.intro (RvW.own hv9 hvn ⟨kR,[],N1,N2,fin⟩ (.slice a9 kR.ps.length c9)) (And.intro (RvW.own (b:=b) hdq (fun e=>by have:=(hdlo _ e.symm).2;omega) ⟨kR,[],N1,N2,fin⟩ (.slice a9 kR.ps.length c9)) (RvW.up (b:=b) (HU4.out.trans hwq) (by omega) ⟨kR,[],N1,N2,fin⟩ (.slice a9 kR.ps.length c9))))))))
 obtain ⟨hbq,q0,q1,q2,q3,q4,q5,q6,q7,q8,q9⟩:=hbx.cells
 simp only [rv0] at q0 q1 q2 q3 q4 q5 q6 q7 q8 q9
 have hfr:=box_free hbx
 clear hbx hv9 hd3 hdq hwq HX4 HZ4 HG4 HU4
 go_simp
 iterate 4 go_step
 rw [show ((((((((((wq.setCell ⟨b,0,none⟩ (.int .i64 kR.set.ord)).setCell ⟨b,1,none⟩ (.int .i64 kR.set.lit)).setCell ⟨b,2,none⟩ (.int .i64 kR.set.most)).setCell ⟨b,3,none⟩ (.slice a9 kR.ps.length c9)).setCell ⟨b,4,none⟩ (.int .i64 kR.base)).setCell ⟨b,5,none⟩ (.int .i64 kR.last)).setCell ⟨b,6,none⟩ (.string ⟨#[]⟩)).setCell ⟨b,7,none⟩ (.int .i64 (N1:Nat))).setCell ⟨b,8,none⟩ (.int .i64 (N2:Nat))).setCell ⟨b,9,none⟩ (.int .i64 fin))=RvW wq b ⟨kR,[],N1,N2,fin⟩ (.slice a9 kR.ps.length c9) from rfl]
 generalize RvW wq b ⟨kR,[],N1,N2,fin⟩ (.slice a9 kR.ps.length c9)=W5 at *
 clear q0 q1 q2 q3 q4 q5 q6 q7 q8 q9 hfr hbq
 obtain ⟨hb5,q0,q1,q2,q3,q4,q5,q6,q7,q8,q9⟩:=RvAt.cells HH.out.1
 have hx5:RvAt w.heap.size ⟨k,bits,size,cnt,1⟩ (.slice a k.ps.length cap) W5:=HH.out.2.1
 have hg5:RgAt w3.heap.size kR (.slice a3 kR.ps.length c3) (.slice ac codes.length cc) (.slice ad dat.length cd) fin pos W5:=HH.out.2.2.2.1
 obtain ⟨hbx5,r0,r1,r2,r3,r4,r5,r6,r7,r8,r9⟩:=RvAt.cells hx5
 obtain ⟨hbg5,g0,g1,g2,g3,g4,g5,g6,g7,g8,g9⟩:=RgAt.cells hg5
 have hfb:=box_free HH.out.1
 have hb3:=bs_size (bits++ub)
 clear hx5 hg5
 by_cases hf:fin=1
 ·subst hf
  have hps:pos≤(bs (bits++ub)).size:=by omega
  go_wp2_with fail
  rw [bs_drop' (bits++ub) pos (bits.length+8 * s.size) (by rw [List.length_append];omega)]
  have hB6:RvAt b ⟨kR,((bits++ub).drop pos),N1,N2,1⟩ (.slice a9 kR.ps.length c9) (W5.setCell ⟨b,6,none⟩ (.string (bs ((bits++ub).drop pos)))):=by
   have h:=box_set HH.out.1 6 (.string (bs ((bits++ub).drop pos)))
   simpa [RvAt] using h
  have hZ6:RvAt (w.heap.size+1) rv0 (.slice none 0 0) (W5.setCell ⟨b,6,none⟩ (.string (bs ((bits++ub).drop pos)))):=(Below.heap_setCell _ _ _ _ hbZ).trans HH.out.2.2.1
  have hG6:RgAt w3.heap.size kR (.slice a3 kR.ps.length c3) (.slice ac codes.length cc) (.slice ad dat.length cd) 1 pos (W5.setCell ⟨b,6,none⟩ (.string (bs ((bits++ub).drop pos)))):=(Below.heap_setCell _ _ _ _ hbG).trans HH.out.2.2.2.1
  have hv6:=ownsRow_setb HH.out.2.2.2.2.1 hvn 6 (.string (bs ((bits++ub).drop pos)))
  have hd6:=ownsRow_setb HH.out.2.2.2.2.2.1 (fun e=>by have:=(hdlo _ e.symm).2;omega:some b≠(Value.slice ad dat.length cd).ownBlock) 6 (.string (bs ((bits++ub).drop pos)))
  have hU6:Up w (W5.setCell ⟨b,6,none⟩ (.string (bs ((bits++ub).drop pos)))):=Up.set HH.out.2.2.2.2.2.2 (by show w.heap.size≤b;omega) _
  generalize W5.setCell ⟨b,6,none⟩ (.string (bs ((bits++ub).drop pos)))=W6 at *
  have HJ:=Lib.hid (And.intro hB6 (And.intro hZ6 (And.intro hG6 (And.intro hv6 (And.intro hd6 hU6)))))
  clear hB6 hZ6 hG6 hv6 hd6 hU6 HH q0 q1 q2 q3 q4 q5 q6 q7 q8 q9 r0 r1 r2 r3 r4 r5 r6 r7 r8 r9 g0 g1 g2 g3 g4 g5 g6 g7 g8 g9 hfb hb5 hbx5 hbg5
  have hbZ2:some b≠some (w.heap.size+1):=fun e=>by have:=Option.some.inj e;omega
  have hbG2:some w3.heap.size≠some (w.heap.size+1):=fun e=>by have:=Option.some.inj e;omega
  have hnd:(Value.slice ad dat.length cd).ownBlock=none∨(Value.slice ad dat.length cd).ownBlock≠some (w.heap.size+1):=low_ne' (w:=w) HJ.out.2.2.2.2.1 (by omega)
  have hnv:(Value.slice a9 kR.ps.length c9).ownBlock=none∨(Value.slice a9 kR.ps.length c9).ownBlock≠some (w.heap.size+1):=low_ne' (w:=w) HJ.out.2.2.2.1 (by omega)
  refine wp_region_own 7 5 (some (w.heap.size+1)) (by kernel_rfl) (by kernel_rfl) ?_
  simp only [List.take,List.drop]
  repeat (refine wpG_step (fun K hK=>?_);go_simp;(try simp only [↓IntWalk.iteOmega]);first
   |(refine hK _ _ ?_;clear hK K)
   |(refine stepG_own (by rfl) (by kernel_rfl) ((fun u w'=>RvAt (w.heap.size+1) ⟨kR,((bits++ub).drop pos),N1,N2,1⟩ (.slice a9 kR.ps.length c9) w')) ((fun v w w' h hu=>box_up hu h)) (fun wq hwq=>?_) ?_
     ·((repeat (first|refine fills_no (by rfl) ?_|refine fills_yes (by rfl) (fun vq hvq=>?_)));simp only [List.filter_nil,fills];(obtain ⟨hbr,s0,s1,s2,s3,s4,s5,s6,s7,s8,s9⟩:=RvAt.cells (box_up hwq HJ.out.2.1);simp only [rv0] at s0 s1 s2 s3 s4 s5 s6 s7 s8 s9;have hfq:=box_free (box_up hwq HJ.out.2.1);unfold gAt;go_simp;exact ⟨(grownBy_set (grownBy_set (grownBy_set (grownBy_set (grownBy_set (grownBy_set (grownBy_set (grownBy_set (grownBy_set (grownBy_set (grownBy_refl _ _) _ _) _ _) _ _) _ _) _ _) _ _) _ _) _ _) _ _) _ _),RvAt.store (show RvAt (w.heap.size+1) rv0 (.slice none 0 0) wq from box_up hwq HJ.out.2.1) ⟨kR,((bits++ub).drop pos),N1,N2,1⟩ (.slice a9 kR.ps.length c9)⟩))
     refine hK _ _ ?_;clear hK K)
   |(refine stepG_c (by rfl) ?_ ?_ ?_
     rotate_left
     ·intro wq hwq;(have hbq:=gcell hwq;(repeat (first|refine fills_no (by rfl) ?_|refine fills_yes (by rfl) (fun vq hvq=>?_)));simp only [List.filter_nil,fills];unfold upAt;(try ((obtain ⟨hbr,q0,q1,q2,q3,q4,q5,q6,q7,q8,q9⟩:=RvAt.cells (gbox hwq HJ.out.1 hbZ2);obtain ⟨hbr2,g0,g1,g2,g3,g4,g5,g6,g7,g8,g9⟩:=RgAt.cells (gbox hwq HJ.out.2.2.1 hbG2);have hconv:=conv_any (HJ.out.2.2.2.2.1.kept hwq hnd) rfl)));go_simp;(try go_bits);(try simp only [↓IntWalk.iteOmega]);first|exact upOut_value)
     go_simp;refine hK _ _ ?_;clear hK K))
  refine wpG_nil (by rfl) (fun wq hwq=>?_)
  simp only [fills]
  rintro u9 hkr
  have HV:=Lib.hid (ownsRow_base (HJ.out.2.2.2.1.kept hwq hnv) (show w.heap.size≤W4.heap.size by omega))
  have HUT:=Lib.hid (up_grown' HJ.out.2.2.2.2.2 hwq (show w.heap.size≤w.heap.size+1 by omega))
  obtain ⟨hbq,s0,s1,s2,s3,s4,s5,s6,s7,s8,s9⟩:=RvAt.cells hkr
  clear hwq hkr HJ
  go_wp2
  refine bodyPost_ret (v:= .tuple #[.agg #[.int .i64 kR.set.ord,.int .i64 kR.set.lit,.int .i64 kR.set.most,.slice a9 kR.ps.length c9,.int .i64 kR.base,.int .i64 kR.last,.string (bs ((bits++ub).drop pos)),.int .i64 (N1:Nat),.int .i64 (N2:Nat),.int .i64 1],.string (bs dat),.int .i64 (s.size:Nat),.bool true]) (by simp [results,Tryz.results26,go_sem,s0,s1,s2,s3,s4,s5,s6,s7,s8,s9];try rfl) rfl ⟨.slice a9 kR.ps.length c9,?_,HV.out,HUT.out⟩
  first|rfl|(simp only [if_true];done)|(simp only [if_true];rfl)
 ·have hf1:(fin == 1)=false:=by simpa using hf
  go_wp2_with fail
  have hB6:=HH.out.1
  have hZ6:RvAt (w.heap.size+1) rv0 (.slice none 0 0) W5:=HH.out.2.2.1
  have hG6:RgAt w3.heap.size kR (.slice a3 kR.ps.length c3) (.slice ac codes.length cc) (.slice ad dat.length cd) fin pos W5:=HH.out.2.2.2.1
  have hv6:=HH.out.2.2.2.2.1
  have hd6:=HH.out.2.2.2.2.2.1
  have hU6:=HH.out.2.2.2.2.2.2
  have HJ:=Lib.hid (And.intro hB6 (And.intro hZ6 (And.intro hG6 (And.intro hv6 (And.intro hd6 hU6)))))
  clear hB6 hZ6 hG6 hv6 hd6 hU6 HH q0 q1 q2 q3 q4 q5 q6 q7 q8 q9 r0 r1 r2 r3 r4 r5 r6 r7 r8 r9 g0 g1 g2 g3 g4 g5 g6 g7 g8 g9 hfb hb5 hbx5 hbg5
  have hbZ2:some b≠some (w.heap.size+1):=fun e=>by have:=Option.some.inj e;omega
  have hbG2:some w3.heap.size≠some (w.heap.size+1):=fun e=>by have:=Option.some.inj e;omega
  have hnd:(Value.slice ad dat.length cd).ownBlock=none∨(Value.slice ad dat.length cd).ownBlock≠some (w.heap.size+1):=low_ne' (w:=w) HJ.out.2.2.2.2.1 (by omega)
  have hnv:(Value.slice a9 kR.ps.length c9).ownBlock=none∨(Value.slice a9 kR.ps.length c9).ownBlock≠some (w.heap.size+1):=low_ne' (w:=w) HJ.out.2.2.2.1 (by omega)
  refine wp_region_own 7 5 (some (w.heap.size+1)) (by kernel_rfl) (by kernel_rfl) ?_
  simp only [List.take,List.drop]
  repeat (refine wpG_step (fun K hK=>?_);go_simp;(try simp only [↓IntWalk.iteOmega]);first
   |(refine hK _ _ ?_;clear hK K)
   |(refine stepG_own (by rfl) (by kernel_rfl) ((fun u w'=>RvAt (w.heap.size+1) ⟨kR,[],N1,N2,fin⟩ (.slice a9 kR.ps.length c9) w')) ((fun v w w' h hu=>box_up hu h)) (fun wq hwq=>?_) ?_
     ·((repeat (first|refine fills_no (by rfl) ?_|refine fills_yes (by rfl) (fun vq hvq=>?_)));simp only [List.filter_nil,fills];(obtain ⟨hbr,s0,s1,s2,s3,s4,s5,s6,s7,s8,s9⟩:=RvAt.cells (box_up hwq HJ.out.2.1);simp only [rv0] at s0 s1 s2 s3 s4 s5 s6 s7 s8 s9;have hfq:=box_free (box_up hwq HJ.out.2.1);unfold gAt;go_simp;exact ⟨(grownBy_set (grownBy_set (grownBy_set (grownBy_set (grownBy_set (grownBy_set (grownBy_set (grownBy_set (grownBy_set (grownBy_set (grownBy_refl _ _) _ _) _ _) _ _) _ _) _ _) _ _) _ _) _ _) _ _) _ _),RvAt.store (show RvAt (w.heap.size+1) rv0 (.slice none 0 0) wq from box_up hwq HJ.out.2.1) ⟨kR,[],N1,N2,fin⟩ (.slice a9 kR.ps.length c9)⟩))
     refine hK _ _ ?_;clear hK K)
   |(refine stepG_c (by rfl) ?_ ?_ ?_
     rotate_left
     ·intro wq hwq;(have hbq:=gcell hwq;(repeat (first|refine fills_no (by rfl) ?_|refine fills_yes (by rfl) (fun vq hvq=>?_)));simp only [List.filter_nil,fills];unfold upAt;(try ((obtain ⟨hbr,q0,q1,q2,q3,q4,q5,q6,q7,q8,q9⟩:=RvAt.cells (gbox hwq HJ.out.1 hbZ2);obtain ⟨hbr2,g0,g1,g2,g3,g4,g5,g6,g7,g8,g9⟩:=RgAt.cells (gbox hwq HJ.out.2.2.1 hbG2);have hconv:=conv_any (HJ.out.2.2.2.2.1.kept hwq hnd) rfl)));go_simp;(try go_bits);(try simp only [↓IntWalk.iteOmega]);first|exact upOut_value)
     go_simp;refine hK _ _ ?_;clear hK K))
  refine wpG_nil (by rfl) (fun wq hwq=>?_)
  simp only [fills]
  rintro u9 hkr
  have HV:=Lib.hid (ownsRow_base (HJ.out.2.2.2.1.kept hwq hnv) (show w.heap.size≤W4.heap.size by omega))
  have HUT:=Lib.hid (up_grown' HJ.out.2.2.2.2.2 hwq (show w.heap.size≤w.heap.size+1 by omega))
  obtain ⟨hbq,s0,s1,s2,s3,s4,s5,s6,s7,s8,s9⟩:=RvAt.cells hkr
  clear hwq hkr HJ
  go_wp2
  rw [show (max 0 ((pos:Int) - (bits.length:Int))+7) / 8=(((pos - bits.length+7) / 8:Nat):Int) from by omega]
  refine bodyPost_ret (v:= .tuple #[.agg #[.int .i64 kR.set.ord,.int .i64 kR.set.lit,.int .i64 kR.set.most,.slice a9 kR.ps.length c9,.int .i64 kR.base,.int .i64 kR.last,.string (bs []),.int .i64 (N1:Nat),.int .i64 (N2:Nat),.int .i64 fin],.string (bs dat),.int .i64 (((pos - bits.length+7) / 8:Nat):Int),.bool true]) (by simp [results,Tryz.results26,go_sem,s0,s1,s2,s3,s4,s5,s6,s7,s8,s9];try rfl) rfl ⟨.slice a9 kR.ps.length c9,?_,HV.out,HUT.out⟩
  first|rfl|(simp only [if_neg hf];rfl)|(congr 1;simp;omega)
theorem rsI_any (r:RvD) (v:Value) (lo:Nat) (s:ByteArray) (w:World) (h:RvOk r) (hr:RdP lo w v r.k.ps) (hs:s.size≤4000) :
  Calls Tryz.prog 26  #[rvV r v,.string s] w (RsPost (r.read s.data.toList) w):=by
 by_cases h1:r.fin=1
 ·exact rsI_go r v lo s w h h1 hr hs
 ·have e:r.read s.data.toList=(r,[],0):=by unfold RvD.read;exact if_pos h1
  rw [e]
  exact rsI_done r v lo s w h h1 hr hs
end Go.Proofs.YtekogcjdaolcbaaGreatDoor

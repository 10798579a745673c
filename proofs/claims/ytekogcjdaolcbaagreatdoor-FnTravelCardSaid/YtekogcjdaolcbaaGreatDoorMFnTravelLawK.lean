/- Texts joined into one: the walks and laws that the last text leans on. Conditions: as each says. -/
import Derived.Test.YtekogcjdaolcbaaGreatDoorMFnTravelLawH
import Derived.Test.YtekogcjdaolcbaaGreatDoorMFnTravelLawJ
import Derived.Lib.OwnBridge
import Derived.Test.YtekogcjdaolcbaaGreatDoorMFnTravelLawF
import Derived.Test.YtekogcjdaolcbaaGreatDoorMFnTravelLawB
import Derived.Test.YtekogcjdaolcbaaGreatDoorMFnTravelLawE

set_option linter.unusedVariables false
set_option linter.unusedSimpArgs false
/- Walks of the program's wordText and advance. Conditions: what is known is valid and can be read; the code can follow. -/
namespace Go.Proofs.YtekogcjdaolcbaaGreatDoor
open Go Go.RowKit
theorem revI_any (a0:World) (v:Value) (l:List UInt8) (w:World) (hu:Up a0 w) (h:ownU w a0.heap.size v l) (hl:l.length≤1048576) :
  Calls Tryz.prog 164 #[v] w (fun e w'=>e= .returned (.tuple #[])∧ownU w' a0.heap.size v l.reverse∧Up a0 w'):=by
 by_cases hn:v= .slice none 0 0
 ·subst hn
  have hl0:l= []:=by
   rcases h.2 with ⟨_,e⟩|⟨g,cap,cur,e,_⟩
   ·exact List.length_eq_zero_iff.1 e
   ·cases e
  subst hl0
  have hc:=AnyE.slices_Reverse_empty Tryz.lRev none 0 w
  change Calls Tryz.prog 164 _ _ _ at hc
  exact hc.mono fun e w' ⟨he,hw⟩=>by subst hw;exact ⟨he,h,hu⟩
 ·obtain ⟨g,cap,rfl,hb,hlt,hnc,hcm,hzl,hH⟩:=Go.Lib.holds_of_ownsRow (enc:=fun b:UInt8=>Value.int .u8 (b.toNat:Int)) h hn
  have hc:=AnyE.slices_Reverse Tryz.lRev (fun b:UInt8=>Value.int .u8 (b.toNat:Int)) (fun _=>rfl) g 0 cap l w hH (by omega)
  change Calls Tryz.prog 164 _ _ _ at hc
  refine hc.mono fun e w' ⟨he,q,hw⟩=>⟨he,?_,?_⟩
  ·subst hw
   have h2:=Go.Lib.ownsRow_putRow (q:=q) (ys:=l.reverse) (k:=l.length) h (by simp) (Nat.le_refl _)
   rw [List.take_of_length_le (by simp)] at h2
   have e:l.reverse.length=l.length:=by simp
   unfold ownU
   rw [e]
   exact h2
  ·subst hw
   exact Go.Lib.below_putRow hu hb
def RelW3 (k:KnD) (x0:Int) (a0:World) (x out:Value) (wr:World):Prop:= ∃ (y:Int) (rev:List UInt8),x= .int .i64 y∧codeOk k.c k.ps.length y=true∧k.word x0=k.word y++rev.reverse∧rev.length+y≤x0 ∧
 ownU wr a0.heap.size out rev∧Up a0 wr
set_option maxRecDepth 100000 in
set_option maxHeartbeats 4000000 in
theorem wordI_any (k:KnD) (v:Value) (lo:Nat) (x0:Int) (w:World) (h:k.Ok) (hr:RdP lo w v k.ps) (hx:codeOk k.c k.ps.length x0=true) :
  Calls Tryz.prog 138  #[kV k v,.int .i64 x0] w (Same (.string (bs (k.word x0))) w):=by
 obtain ⟨i0,hi,hz0,hz1,hz2⟩:=info_parts infoByte
 obtain ⟨hb1,hb2,hb3,hb4,hb5⟩:=h.nums
 have cE:=fun w=>endI_any k.set w h.set
 have ec:k.c=clr k.set:=rfl
 have hx1:=codeOk_iff.1 hx
 have hx0:x0≤1023:=by omega
 have hrt:=fun (wq:World) (hu:Up w wq)=>hr.up hu
 obtain ⟨a,cap,rfl,hc1,hc2,hc3,hsome⟩:=hr
 have cN:=fun w=>nextI_any k.set k.base k.last a k.ps.length cap w h.set (by omega)
 have hne:(x0 == (clr k.set:Int)+2+k.ps.length)=false:=by simp;omega
 simp only [kV,knV] at *
 have HK:=Lib.hid h
 have HX:=Lib.hid hx
 clear h hx
 go_enter Tryz.func138,Tryz.ntmps138
 go_wp2_with (first|(go_at_call 94;(with_reducible refine (cN _).mono ?_);rintro e w1 ⟨rfl,U1⟩;have B1:=bcell U1;have Z1:=U1.size;(try simp at Z1);(try rw [Nat.add_one_le_iff] at Z1))|(go_at_call 58;(with_reducible refine (cE _).mono ?_);rintro e w2 ⟨rfl,U2⟩;have B2:=bcell U2;have Z2:=U2.size;(try simp at Z2);(try rw [Nat.add_one_le_iff] at Z2)))
 have hK2:KnAt w.heap.size k (.slice a k.ps.length cap) w2:=box_up U2 (box_up U1 (MapKept.heap_alloc w _).1)
 have hU2:Up w w2:=by (repeat (first|with_reducible exact Up.refl _|with_reducible assumption|with_reducible refine Up.alloc ?_ _|refine Up.trans ?_ (by with_reducible assumption)))
 have hw2:w.heap.size<w2.heap.size:=(Array.getElem?_eq_some_iff.1 hK2).1
 have HK2:=Lib.hid hK2
 clear U1 U2 B1 B2 Z1 Z2 hK2 hrt hx1 hne
 go_loopw [1,7] (fun x out wr=>RelW3 k x0 w2 x out wr) (fun x _ _=>(intOf x).toNat)
 case atStart=>exact ⟨x0,[],rfl,HX.out,by simp,by simp,World.ownsRow_nil _ _ _ _,Up.refl _⟩
 case round =>
  obtain ⟨y,rev,rfl,hy,hw,hlen,hown,hup⟩:=hrel
  obtain ⟨b0,r0,r1,r2,r3,r4,r5⟩:=(HK2.out.up hup).cells
  have HW:=Lib.hid hw
  have hsz:=hup.size
  clear hw
  obtain ⟨a4,c4,rfl⟩:=ownU_shape hown
  have HOW:=Lib.hid hown
  have HUP:=Lib.hid hup
  by_cases hyc:y<clr k.set
  ·have hy0:0≤y:=by rw [codeOk_iff] at hy;omega
   have HWL:Hid (k.word y= [ub y]):=wordP_lit hyc
   have hub:=Lib.hid (ub_nat hy0 (by omega:y<256))
   have HR:Hid (k.word x0=(rev++ [ub y]).reverse):=by unfold Hid;rw [HW.out,HWL.out];simp
   have hlL:(rev++ [ub y]).length=rev.length+1:=by simp
   have HLL:=Lib.hid hlL
   clear hy hown hup hlL
   go_wp2_with (first|(at_builtin;refine wpList_append_own _ rfl _ _ 22 rfl w2.heap.size 5 i0 (.int .u8 0) 1 1 Tryz.underlying22 hi hz0 hz1 hz2 rfl (by decide) _ _ _ rfl (ownsRow_up HOW.out (Up.alloc (Up.refl _) _)) ⟨wr.heap.size,0,none⟩ 1 1 [.int .u8 y] rfl rfl (new_cells [.int .u8 y] _ rfl) (by intro u hu;simp at hu;subst hu;rfl) (by unfold maxLen;omega) (by omega) (by simp;omega) ?_;rintro v5 w5 hown5 hgr5 -;have hU5:Up w2 w5:=(HUP.out.alloc _).grown hgr5 (fun b hb=>(HOW.out.lt b hb).1);obtain ⟨a5,c5,rfl⟩:=ownsRow_shape hown5;have hO5:ownU w5 w2.heap.size _ (rev++ [ub y]):=ownU_snoc hub.out.symm rfl hown5;have HU5:=Lib.hid hU5;have HO5:=Lib.hid hO5;clear hU5 hO5 hown5 hgr5)|(go_at_call 164;(with_reducible refine (revI_any w2 _ _ _ HU5.out HO5.out (by rw [HLL.out];omega)).mono ?_);rintro e w6 ⟨rfl,hO6,hU6⟩;have hconv:=conv_any (ownsRow_n2 hO6 (show (rev++ [ub y]).reverse.length=rev.length+1 by simp)) (by simp);have HU6:=Lib.hid hU6;clear hO6 hU6))
   go_ret
   exact ⟨ret_str (by simp [HR.out]),hU2.trans HU6.out⟩
  ·obtain ⟨i,rfl⟩: ∃ i:Nat,y=(clr k.set:Int)+2+i:=⟨(y - clr k.set - 2).toNat,by rw [codeOk_iff] at hy;omega⟩
   have hil:i<k.ps.length:=by rw [codeOk_iff] at hy;omega
   clear hy
   obtain ⟨p1,p2,p3⟩:=pre_lt HK.out.ps hil
   obtain ⟨-,by1,by2⟩:=HK.out.ps.get hil
   have HWP:=Lib.hid (wordP_pair HK.out.ps hil)
   obtain ⟨b,off,rfl,hlo,hbl,hcells⟩:=hsome (by omega)
   obtain ⟨q0,q1⟩:=pair_at hcells hil
   clear hcells hsome hc3
   have e0:=((hU2.trans hup).cell (p:=⟨b,off+i * 2,none⟩) hbl).trans q0
   have e1:=((hU2.trans hup).cell (p:=⟨b,off+i * 2+1,none⟩) hbl).trans q1
   have hbl2:=Nat.lt_of_lt_of_le hbl (hU2.trans hup).size
   have ei:(clr k.set:Int)+2+i - (clr k.set+1) - 1=i:=by omega
   rw [ec] at by2 p2
   generalize k.ps[i].byt=yb at *
   generalize k.ps[i].pre=yp at *
   have hub:=Lib.hid (ub_nat by1 (by omega:yb<256))
   have HNX:Hid (k.word x0=k.word yp++(rev++ [ub yb]).reverse):=by
    unfold Hid
    rw [HW.out]
    have:=HWP.out
    rw [ec] at this
    unfold KnD.word
    rw [ec,this];simp
   clear hown hup q0 q1
   go_wp2_with (first|(at_builtin;refine wpList_append_own _ rfl _ _ 22 rfl w2.heap.size 5 i0 (.int .u8 0) 1 1 Tryz.underlying22 hi hz0 hz1 hz2 rfl (by decide) _ _ _ rfl (ownsRow_up HOW.out (Up.alloc (Up.alloc (Up.refl _) _) _)) ⟨wr.heap.size+1,0,none⟩ 1 1 [.int .u8 yb] rfl rfl (new_cells [.int .u8 yb] _ (by simp)) (by intro u hu;simp at hu;subst hu;rfl) (by unfold maxLen;omega) (by omega) (by simp;omega) ?_;rintro v5 w5 hown5 hgr5 -;have hU5:Up w2 w5:=((HUP.out.alloc _).alloc _).grown hgr5 (fun b hb=>(HOW.out.lt b hb).1);have hO5:ownU w5 w2.heap.size v5 (rev++ [ub yb]):=ownU_snoc hub.out.symm rfl hown5;have d0:=hgr5.cell (a:=⟨wr.heap.size,0,none⟩) (v:= .int .i64 yp) (((Up.alloc (Up.refl (wr.alloc _)) _).cell (p:=⟨wr.heap.size,0,none⟩) (by simp)).trans (box_cell (MapKept.heap_alloc wr (.cells #[.int .i64 yp,.int .i64 yb] 133)).1 0)) (own_ne HOW.out (Nat.le_refl _));have HU5:=Lib.hid hU5;have HO5:=Lib.hid hO5;clear hU5 hO5 hown5 hgr5))
   go_roundw
   case rel=>exact ⟨yp,rev++ [ub yb],rfl,p3,HNX.out,by simp;omega,HO5.out,HU5.out⟩
   case measure=>simp [intOf];omega
set_option maxRecDepth 100000 in
set_option maxHeartbeats 1000000 in
theorem wordJ_any (k:KnD) (v:Value) (lo:Nat) (x:Int) (w:World) (h:k.Ok) (hr:RdP lo w v k.ps) (hf:k.follows x=true) :
  Calls Tryz.prog 138  #[kV k v,.int .i64 x] w (Same (.string (bs (k.any x))) w):=by
 rcases KnD.follows_cases h hf with hc|⟨hg,rfl,hl⟩
 ·rw [KnD.any_word hc]
  exact wordI_any k v lo x w h hr hc
 ·have hpl:=h.nums.2.2.2.1
  have hrt:=fun (wq:World) (hu:Up w wq)=>hr.up hu
  have cW:=fun wx hr=>wordI_any k v lo k.last wx h hr hl
  have hE:Hid (bs (k.any k.next)=bs (k.word k.last)++(bs (k.word k.last)).extract 0 1):=by
   unfold Hid KnD.any
   rw [if_pos rfl,bs_ext,bs_app]
   simp
  have hp:1≤(k.word k.last).length:=wordP_pos h.ps hl
  have hln:(k.word k.last).length≤k.ps.length+1:=wordP_len h.ps hl
  rw [hE.out]
  have hsz:=bs_size (k.word k.last)
  generalize k.word k.last=wl at *
  obtain ⟨a,cap,rfl,-,-,-,-⟩:=hr
  have cN:=fun w=>nextI_any k.set k.base k.last a k.ps.length cap w h.set (by omega)
  have en:((k.next:Nat):Int)=(clr k.set:Int)+2+k.ps.length:=by unfold KnD.next KnD.c;omega
  rw [en]
  clear en hE
  simp only [kV,knV] at *
  clear h hf
  go_enter Tryz.func138,Tryz.ntmps138
  go_wp2_with (first|(go_at_call 94;(with_reducible refine (cN _).mono ?_);rintro e w1 ⟨rfl,U1⟩;have B1:=bcell U1;have Z1:=U1.size;(try simp at Z1);(try rw [Nat.add_one_le_iff] at Z1))|((go_at_call 138;(with_reducible refine (cW _ (hrt _ (by (repeat (first|with_reducible exact Up.refl _|with_reducible assumption|with_reducible refine Up.alloc ?_ _|refine Up.trans ?_ (by with_reducible assumption)))))).mono ?_);rintro e w2 ⟨rfl,U2⟩;have B2:=bcell U2;have Z2:=U2.size;(try simp at Z2);(try rw [Nat.add_one_le_iff] at Z2))))
  go_ret
  refine ⟨rfl,?_⟩
  (repeat (first|with_reducible exact Up.refl _|with_reducible assumption|with_reducible refine Up.alloc ?_ _|refine Up.trans ?_ (by with_reducible assumption)))
end Go.Proofs.YtekogcjdaolcbaaGreatDoor
/- Walk of the program's learn, which adds a pair to the tree of words. Conditions: the tree lies in memory, the pair may stand behind its pairs. -/
namespace Go.Proofs.YtekogcjdaolcbaaGreatDoor
open Go Go.RowKit
theorem infoNode:(Tryz.prog.info? 125).map (fun i=>(i.zero,i.size,i.bytes))=some (some (.agg #[.int .i64 0,.int .i64 0,.int .i64 0,.int .u8 0,.int .u8 0,.int .i64 0]),6,40):=by kernel_rfl
theorem box_oth {w:World} {b:Nat} {o:Obj} (h:w.heap[b]? =some o) {p:Addr} (hp:b≠p.block) (u:Value):(w.setCell p u).heap[b]? =some o:=by
 rw [Below.heap_setCell _ _ _ _ hp];exact h
theorem ownsRow_n {w:World} {base:Nat} {e:TypeId} {size n n':Nat} {v:Value} {xs:List Value} (h:w.ownsRow base e size v n xs) (hn:n=n'):w.ownsRow base e size v n' xs:=hn▸h
def NewL (row:Option Nat) (T:TypeId) (cs:List Value) (v:Value) (w:World):Prop:= ∃ b,v= .slice (some ⟨b,0,none⟩) 1 1∧some b≠row∧w.heap[b]? =some (.cells cs.toArray T)
theorem newL_closed {row:Option Nat} {T:TypeId} {cs:List Value} : ∀ (v:Value) (w w':World),NewL row T cs v w→w.grownBy w' row→NewL row T cs v w':=fun v w w' ⟨b,h1,h2,h3⟩ hg=>⟨b,h1,h2,gbox hg h3 h2⟩
theorem newL_cells {w:World} {b:Nat} {T:TypeId} {cs:List Value} (h:w.heap[b]? =some (.cells cs.toArray T)): ∀ j u,cs[j]? =some u→w.cell? ((⟨b,0,none⟩:Addr).add j)=some u:=by
 intro j u hu
 have hadd:(⟨b,0,none⟩:Addr).add j=⟨b,j,none⟩:=by unfold Addr.add;split <;> simp_all
 rw [hadd,box_cell h]
 simpa using hu
def KnD.add (k:KnD) (p:PairD):KnD:=⟨k.set,k.ps++ [p],k.base,k.last⟩
set_option maxRecDepth 100000 in
set_option maxHeartbeats 8000000 in
theorem learnT_any (lo tb:Nat) (k:KnD) (vp vn vi:Value) (p:PairD) (w:World) (h:TreeAt lo tb k vp vn vi w) (hk:k.Tr) (hp:codeOk k.c k.ps.length p.pre=true) (hb0:0≤p.byt) (hb1:p.byt<k.c) (hn:k.next≤lastC k.set) :
  Calls Tryz.prog 143  #[.pointer (some ⟨tb,0,none⟩),.agg #[.int .i64 p.pre,.int .i64 p.byt]] w (fun e w'=>(∃ v,e= .returned v)∧TrPost lo tb (k.add p) vp vn vi w w'):=by
 obtain ⟨iN,hiN,hzN0,hzN1,hzN2⟩:=info_parts infoNode
 obtain ⟨iP,hiP,hzP0,hzP1,hzP2⟩:=info_parts infoPair
 obtain ⟨iI,hiI,hzI0,hzI1,hzI2⟩:=info_parts infoIntG
 have cN:=fun wx hT=>nodeOf_any lo tb k vp vn vi p.pre wx hT hk hp
 have cC:=fun wx hT P hP=>child_any lo tb k vp vn vi P p.byt wx hT hk hP
 obtain ⟨hP1,-,-⟩:=hk.tree.node p.pre hp
 have hcb:=hk.c_bd
 have hpw:p.byt % 256=p.byt:=by omega
 have hhi:=hk.tree.hi
 have hlen:=hk.len
 have htb:=h.lt
 generalize hP:nodeOf k.c k.tree p.pre=P at *
 have cCP:=fun wx hT=>cC wx hT P hP1
 have hlo:=h.low
 have HLT:Hid (∀ b,vp.ownBlock=some b→b<w.heap.size):=fun b hb=>(h.prs.lt b hb).2
 clear cC
 obtain ⟨hb2,hb3,hb4⟩:=clr_le hk.set
 have hns2:k.tree.ns.length≤2000:=by unfold KnD.c at *;omega
 by_cases hf:findCh k.tree.ns P p.byt k.tree.ns.length<0
 ·go_enter Tryz.func143,Tryz.ntmps143
  go_wp2_with (first|((go_at_call 93;(with_reducible refine (cN _ (h.up (by (repeat (first|with_reducible exact Up.refl _|with_reducible assumption|with_reducible refine Up.alloc ?_ _|refine Up.trans ?_ (by with_reducible assumption)))))).mono ?_);rintro e w1 ⟨rfl,U1⟩;have B1:=bcell U1;have Z1:=U1.size;(try simp at Z1);(try rw [Nat.add_one_le_iff] at Z1));clear B1;have hT1:=(h.up (Up.alloc (Up.refl w) (.cells #[.int .i64 p.pre,.int .i64 p.byt] 133))).up U1;have hpb:w1.heap[w.heap.size]? =some (.cells #[.int .i64 p.pre,.int .i64 p.byt] 133):=box_up U1 (MapKept.heap_alloc w _).1;obtain ⟨c0,c1,c2,c3,c4,c5,c6,c7⟩:=hT1.cells;obtain ⟨g,cap,nx,rfl,hg1,hg2,hg3,hg4,hg5,d0,d1,d2,d3,d4,d5⟩:=hT1.node1 hk hP1;obtain ⟨ap,cp,rfl⟩:=hT1.shape;have htb1:=hT1.lt;have hpl:=(Array.getElem?_eq_some_iff.1 hpb).1;have hpb0:=box_cell hpb 0;have hpb1:=box_cell hpb 1;have hfp:=box_free hpb;have hft:=box_free hT1.box;(simp at hpb0 hpb1))|(go_at_call 91;(with_reducible refine (cCP _ hT1).mono ?_);rintro e w' ⟨rfl,rfl⟩))
  obtain ⟨X,hX⟩: ∃ X:NodD,X=⟨(P:Int),p.byt,(nodAt k.tree.ns P).fir,(k.c:Int)+2+k.ps.length⟩:=⟨_,rfl⟩
  have hX2:Hid (newC k.tree.ns X P= [.int .i64 (P:Int),.int .i64 (-1),.int .i64 (lastCh k.tree.ns P k.tree.ns.length),.int .u8 p.byt,.int .u8 (nodAt k.tree.ns P).fir,.int .i64 ((clr k.set:Int)+2+k.ps.length)]):=by unfold Hid;rw [hX];rfl
  have HX:=Lib.hid hX
  clear hX
  obtain ⟨W6,hW6⟩: ∃ W,W=w1.alloc (.cells #[.int .i64 (nodAt k.tree.ns P).par,.int .i64 (lastCh k.tree.ns P k.tree.ns.length),.int .i64 nx,.int .u8 (nodAt k.tree.ns P).las,.int .u8 (nodAt k.tree.ns P).fir,.int .i64 (nodAt k.tree.ns P).cod] 125):=⟨_,rfl⟩
  rw [← hW6]
  have hT6:=hT1.up (Up.alloc (Up.refl w1) (.cells #[.int .i64 (nodAt k.tree.ns P).par,.int .i64 (lastCh k.tree.ns P k.tree.ns.length),.int .i64 nx,.int .u8 (nodAt k.tree.ns P).las,.int .u8 (nodAt k.tree.ns P).fir,.int .i64 (nodAt k.tree.ns P).cod] 125))
  rw [← hW6] at hT6
  have hub6:W6.heap[w1.heap.size]? =some (.cells #[.int .i64 (nodAt k.tree.ns P).par,.int .i64 (lastCh k.tree.ns P k.tree.ns.length),.int .i64 nx,.int .u8 (nodAt k.tree.ns P).las,.int .u8 (nodAt k.tree.ns P).fir,.int .i64 (nodAt k.tree.ns P).cod] 125):=by rw [hW6];exact (MapKept.heap_alloc w1 _).1
  have hU16:Up w1 W6:=by rw [hW6];exact Up.alloc (Up.refl w1) _
  have hpb6:=box_up hU16 hpb
  have hU6:Up w W6:=((Up.alloc (Up.refl w) _).trans U1).trans hU16
  have hne1:some tb≠some g:=box_ne hT6.box hT6.nod (by decide)
  have hne2:some w.heap.size≠some g:=box_ne hpb6 hT6.nod (by decide)
  have hne3:some w1.heap.size≠some g:=fun e=>by have:=Option.some.inj e;omega
  have hz6:=hU6.size
  have hz16:=hU16.size
  have cX:=fun wx=>nextI_any k.set k.base k.last ap k.ps.length cp wx hk.set (by omega)
  have HT:=Lib.hid (And.intro hT6 (And.intro hub6 hpb6))
  have HW:=Lib.hid hW6
  have HU6:=Lib.hid hU6
  simp only [knV] at cX
  clear hT1 hpb c0 c1 c2 c3 c4 c5 c6 c7 d0 d1 d2 d3 d4 d5 hpb0 hpb1 hfp hft hT6 hub6 hpb6 U1 hW6 hU16 hU6
  refine wp_region_ownf 23 20 (some g) (by kernel_rfl) (by kernel_rfl) ?_
  simp only [List.take,List.drop]
  repeat (refine wpG_step (fun K hK=>?_);go_simp;(try simp only [↓IntWalk.iteOmega]);first
   |(refine hK _ _ ?_;clear hK K)
   |(refine stepG_own (by rfl) (by kernel_rfl) ((fun v w'=>w'.ownsRow lo 125 6 v (k.tree.ns.length+1) (cellsN k.tree.ns++newC k.tree.ns X P)∧NewOr w.heap.size (.slice (some ⟨g,0,none⟩) k.tree.ns.length cap) v)) ((fun v w w' h hu=>⟨ownsRow_up h.1 hu,h.2⟩)) (fun wq hwq=>?_) ?_
     ·((repeat (first|refine fills_no (by rfl) ?_|refine fills_yes (by rfl) (fun vq hvq=>?_)));simp only [List.filter_nil,fills];(obtain ⟨bq,eqb,nb,hcb⟩:=hvq;exact gAt_append2 (.tmp 35) (.tmp 50) 78 (by rfl) lo 125 iN (.agg #[.int .i64 0,.int .i64 0,.int .i64 0,.int .u8 0,.int .u8 0,.int .i64 0]) 6 40 Tryz.underlying78 hiN hzN0 hzN1 hzN2 rfl (by decide) (.slice (some ⟨g,0,none⟩) k.tree.ns.length cap) k.tree.ns.length (cellsN k.tree.ns) (by rfl) (ownsRow_up HT.out.1.nod hwq) ⟨bq,0,none⟩ 1 1 (newC k.tree.ns X P) (by exact eqb) rfl (newL_cells hcb) (newC_one _ _ _) (by unfold maxLen;omega) (by omega) (by have:=hwq.size;omega) w.heap.size (by have:=hwq.size;omega) _ rfl))
     refine hK _ _ ?_;clear hK K)
   |(refine stepG_c (by rfl) ?_ ?_ ?_
     rotate_left
     ·intro wq hwq;(have hbq:=gcell hwq;(repeat (first|refine fills_no (by rfl) ?_|refine fills_yes (by rfl) (fun vq hvq=>?_)));simp only [List.filter_nil,fills];unfold upAt;(try ((obtain ⟨c0,c1,c2,c3,c4,c5,c6,c7⟩:=TrBox.cells (gbox hwq HT.out.1.box hne1);have e1:=box_cell (gbox hwq HT.out.2.1 hne3) 1;have e4:=box_cell (gbox hwq HT.out.2.1 hne3) 4;have p1:=box_cell (gbox hwq HT.out.2.2 hne2) 1;simp at e1 e4 p1)));go_simp;(try go_bits);(try simp only [↓IntWalk.iteOmega]);first|exact upOut_value|(apply upOut_call;(go_at_call 94;exact cX _)))
     go_simp;refine hK _ _ ?_;clear hK K)
   |(refine stepG_m (by rfl) (by kernel_rfl) (NewL (some g) 125 (newC k.tree.ns X P)) (newL_closed) (fun wq hwq=>?_) ?_
     ·(have hbq:=gcell hwq;(repeat (first|refine fills_no (by rfl) ?_|refine fills_yes (by rfl) (fun vq hvq=>?_)));simp only [List.filter_nil,fills];unfold upAt;(try ((obtain ⟨c0,c1,c2,c3,c4,c5,c6,c7⟩:=TrBox.cells (gbox hwq HT.out.1.box hne1);have e1:=box_cell (gbox hwq HT.out.2.1 hne3) 1;have e4:=box_cell (gbox hwq HT.out.2.1 hne3) 4;have p1:=box_cell (gbox hwq HT.out.2.2 hne2) 1;simp at e1 e4 p1)));go_simp;(try go_bits);(try simp only [↓IntWalk.iteOmega]);(rw [hX2.out];exact upOut_make ((Up.refl _).alloc _) ⟨_,rfl,own_ne HT.out.1.nod hwq.size,(MapKept.heap_alloc _ _).1⟩))
     refine hK _ _ ?_;clear hK K))
  refine wpG_nil (by rfl) (fun wq hwq=>?_)
  simp only [fills]
  rintro v20 ⟨hv20,hnew⟩ v19 -
  rcases ownsRow_read hv20 with ⟨_,e20⟩|⟨g2,cap2,rfl,h21,h22,h23,h24,-⟩
  ·omega
  have hbox:TrBox tb k (.slice ap k.ps.length cp) (.slice (some ⟨g,0,none⟩) k.tree.ns.length cap) vi wq:=gbox hwq HT.out.1.box hne1
  have hprs:=HT.out.1.prs.kept hwq (ownsRow_ne HT.out.1.prs HT.out.1.nod (by decide))
  have hidx:=HT.out.1.idx.kept hwq (ownsRow_ne HT.out.1.idx HT.out.1.nod (by decide))
  have hpb:=gbox hwq HT.out.2.2 hne2
  have hFr:Fr (Own tb (.slice ap k.ps.length cp) (.slice (some ⟨g,0,none⟩) k.tree.ns.length cap) vi) w wq:=(Fr.of _ HU6.out).gr hwq (fun b hb=> .inl (.inr (.inr (.inl hb))))
  have hne20: ¬ g2=tb:=fun e=>box_ne hbox hv20 (by decide) (by rw [e];rfl)
  have hne21: ¬ tb=g2:=fun e=>hne20 e.symm
  have hne22: ¬ w.heap.size=g2:=fun e=>box_ne hpb hv20 (by decide) (by rw [e];rfl)
  obtain ⟨c0,c1,c2,c3,c4,c5,c6,c7⟩:=hbox.cells
  have hfb:=box_free hbox
  have f2:=ownsRow_free hv20 (P * 6+1)
  have f3:wq.cell? ⟨g2,P * 6+1,none⟩=some (.int .i64 (lastCh k.tree.ns P k.tree.ns.length)):=ownsRow_cell hv20 (by rw [List.getElem?_append_left (by rw [cellsN_length];omega)];exact cellsN_get _ hP1 (j:=1) (by omega))
  have htb2:=(Array.getElem?_eq_some_iff.1 hbox).1
  have hpl2:=(Array.getElem?_eq_some_iff.1 hpb).1
  have hwz:=hwq.size
  have hpar: ∀ i,i<k.tree.ns.length→(nodAt k.tree.ns i).par<(k.tree.ns.length:Int):=fun i hi=>by
   rcases Nat.lt_or_ge i k.c with h1|h1
   ·rw [hk.tree.lit i h1];simp only [];omega
   ·obtain ⟨q,e1,e2⟩:=hk.tree.par i h1 hi
    omega
  obtain ⟨W7,hW7⟩: ∃ W,W=(wq.setCell ⟨tb,6,none⟩ (.slice (some ⟨g2,0,none⟩) (k.tree.ns.length+1) cap2)).setCell ⟨g2,P * 6+1,none⟩ (.int .i64 k.tree.ns.length):=⟨_,rfl⟩
  have hbox7:TrBox tb k (.slice ap k.ps.length cp) (.slice (some ⟨g2,0,none⟩) (k.tree.ns.length+1) cap2) vi W7:=by rw [hW7];exact box_oth (box_set hbox 6 (.slice (some ⟨g2,0,none⟩) (k.tree.ns.length+1) cap2)) (p:=⟨g2,P * 6+1,none⟩) hne21 _
  have hprs7:=ownsRow_setb (ownsRow_setb hprs (box_ne hbox hprs (by decide)) 6 (.slice (some ⟨g2,0,none⟩) (k.tree.ns.length+1) cap2)) (b:=g2) (row_ne hprs hv20 (by decide)) (P * 6+1) (.int .i64 k.tree.ns.length)
  have hidx7:=ownsRow_setb (ownsRow_setb hidx (box_ne hbox hidx (by decide)) 6 (.slice (some ⟨g2,0,none⟩) (k.tree.ns.length+1) cap2)) (b:=g2) (row_ne hidx hv20 (by decide)) (P * 6+1) (.int .i64 k.tree.ns.length)
  have hnod7:=ownsRow_set (ownsRow_setb hv20 (box_ne hbox hv20 (by decide)) 6 (.slice (some ⟨g2,0,none⟩) (k.tree.ns.length+1) cap2)) (P * 6+1) (.int .i64 k.tree.ns.length)
  rw [cellsN_snoc (by rw [HX.out]) hP1 hpar] at hnod7
  have hnod7:=ownsRow_n hnod7 (show k.tree.ns.length+1=(k.tree.ns++ [X]).length from by rw [List.length_append];rfl)
  have hpb7:=box_oth (box_oth hpb (p:=⟨tb,6,none⟩) (Nat.ne_of_gt htb) (.slice (some ⟨g2,0,none⟩) (k.tree.ns.length+1) cap2)) (p:=⟨g2,P * 6+1,none⟩) hne22 (.int .i64 k.tree.ns.length)
  have hfr7:=(hFr.set (p:=⟨tb,6,none⟩) (.inl (.inl rfl)) (.slice (some ⟨g2,0,none⟩) (k.tree.ns.length+1) cap2)).set (p:=⟨g2,P * 6+1,none⟩) ((hnew g2 rfl).imp (fun h=> .inr (.inr (.inl h))) id) (.int .i64 k.tree.ns.length)
  rw [← hW7] at hprs7 hidx7 hnod7 hpb7 hfr7
  have HNE:Hid (¬ some w.heap.size=Value.ownBlock (.slice ap k.ps.length cp)):=fun e=>by have:=HLT.out _ e.symm;omega
  have HS7:=Lib.hid (And.intro hbox7 (And.intro hprs7 (And.intro hidx7 (And.intro hnod7 (And.intro hpb7 (And.intro hfr7 hnew))))))
  have HW7:=Lib.hid hW7
  have hz76:wq.heap.size=W7.heap.size:=by rw [hW7];simp [World.setCell]
  have HTR:Hid ((k.add p).tree=⟨k.tree.ns++ [X],k.tree.ix++ [k.tree.ns.length]⟩):=by
   unfold Hid
   show treeF k.c (k.ps++ [p])=_
   rw [treeF_snoc]
   have h1:=learnT_new (c:=k.c) (t:=k.tree) (p:=p) (by rw [hP];exact hf)
   have h2:k.tree.ix.length=k.ps.length:=treeF_ixl _ _
   rw [hP,h2,←HX.out] at h1
   exact h1
  clear hbox hprs hidx hpb hFr hv20 hwq HT HU6 HW hW7 hbox7 hprs7 hidx7 hnod7 hpb7 hfr7
  unfold maxLen at h22
  go_wp2
  rw [onlyN_normal]
  obtain ⟨ai,ci,rfl⟩:=ownsRow_shape HS7.out.2.2.1
  obtain ⟨c0,c1,c2,c3,c4,c5,c6,c7⟩:=HS7.out.1.cells
  have hfb:=box_free HS7.out.1
  have htb7:=(Array.getElem?_eq_some_iff.1 HS7.out.1).1
  have hz7:=HS7.out.2.2.2.2.2.1.size
  have hne71:Hid (some tb≠Value.ownBlock (.slice ai k.tree.ix.length ci)):=box_ne HS7.out.1 HS7.out.2.2.1 (by decide)
  have hne72:Hid (some w.heap.size≠Value.ownBlock (.slice ai k.tree.ix.length ci)):=box_ne HS7.out.2.2.2.2.1 HS7.out.2.2.1 (by decide)
  have hixl:Hid (k.tree.ix.length=k.ps.length):=treeF_ixl _ _
  have hixl2:k.tree.ix.length≤2000:=by rw [hixl.out];omega
  go_wp2_with (at_builtin;rw [← HW7.out];refine wpList_append2 rfl _ _ 79 rfl lo 3 iI (.int .i64 0) 1 8 Tryz.underlying79 hiI hzI0 hzI1 hzI2 rfl (by decide) _ _ _ rfl (HS7.out.2.2.1.alloc _) ⟨W7.heap.size,0,none⟩ 1 1 [.int .i64 ((k.tree.ns.length:Int))] rfl rfl (new_cells [.int .i64 ((k.tree.ns.length:Int))] _ rfl) (by intro u hu;simp at hu;subst hu;rfl) (by unfold maxLen;omega) (by omega) (by simp;omega) ?_;rintro v8 W8 hv8 hg8 hn8;obtain ⟨a8,c8,rfl⟩:=ownsRow_shape hv8;obtain ⟨c0,c1,c2,c3,c4,c5,c6,c7⟩:=TrBox.cells (gbox hg8 (box_up ((Up.refl _).alloc _) HS7.out.1) hne71.out);have hfb:=box_free (gbox hg8 (box_up ((Up.refl _).alloc _) HS7.out.1) hne71.out);have HV8:=Lib.hid (And.intro hv8 (And.intro hg8 hn8));clear hv8 hg8 hn8)
  have hU78:=Up.alloc (Up.refl W7) (.cells #[.int .i64 ((k.tree.ns.length:Int))] 3)
  have hbox8:TrBox tb k (.slice ap k.ps.length cp) (.slice (some ⟨g2,0,none⟩) (k.tree.ns.length+1) cap2) (.slice ai k.tree.ix.length ci) W8:=gbox HV8.out.2.1 (box_up hU78 HS7.out.1) hne71.out
  have hprs8:=(ownsRow_up HS7.out.2.1 hU78).kept HV8.out.2.1 (ownsRow_ne HS7.out.2.1 HS7.out.2.2.1 (by decide))
  have hnod8:=(ownsRow_up HS7.out.2.2.2.1 hU78).kept HV8.out.2.1 (ownsRow_ne HS7.out.2.2.2.1 HS7.out.2.2.1 (by decide))
  have hpb8:=gbox HV8.out.2.1 (box_up hU78 HS7.out.2.2.2.2.1) hne72.out
  have hfr8:=(HS7.out.2.2.2.2.2.1.up hU78).gr HV8.out.2.1 (fun b hb=> .inl (.inr (.inr (.inr hb))))
  obtain ⟨W9,hW9⟩: ∃ W,W=W8.setCell ⟨tb,7,none⟩ (.slice a8 (k.tree.ix.length+1) c8):=⟨_,rfl⟩
  rw [← hW9]
  have hbox9:TrBox tb k (.slice ap k.ps.length cp) (.slice (some ⟨g2,0,none⟩) (k.tree.ns.length+1) cap2) (.slice a8 (k.tree.ix.length+1) c8) W9:=by rw [hW9];exact box_set hbox8 7 (.slice a8 (k.tree.ix.length+1) c8)
  have hprs9:=ownsRow_setb hprs8 (box_ne hbox8 hprs8 (by decide)) 7 (.slice a8 (k.tree.ix.length+1) c8)
  have hnod9:=ownsRow_setb hnod8 (box_ne hbox8 hnod8 (by decide)) 7 (.slice a8 (k.tree.ix.length+1) c8)
  have hidx9:=ownsRow_setb HV8.out.1 (box_ne hbox8 HV8.out.1 (by decide)) 7 (.slice a8 (k.tree.ix.length+1) c8)
  have hpb9:=box_oth hpb8 (p:=⟨tb,7,none⟩) (Nat.ne_of_gt htb) (.slice a8 (k.tree.ix.length+1) c8)
  have hfr9:=hfr8.set (p:=⟨tb,7,none⟩) (.inl (.inl rfl)) (.slice a8 (k.tree.ix.length+1) c8)
  rw [← hW9] at hprs9 hnod9 hidx9 hpb9 hfr9
  have hnw9:NewOr w.heap.size (.slice ai k.tree.ix.length ci) (.slice a8 (k.tree.ix.length+1) c8):=fun b hb=>(HV8.out.2.2 b hb).imp id (fun h=>by have:=hU78.size;omega)
  have HS9:=Lib.hid (And.intro hbox9 (And.intro hprs9 (And.intro hidx9 (And.intro hnod9 (And.intro hpb9 (And.intro hfr9 hnw9))))))
  have hne91:Hid (some tb≠Value.ownBlock (.slice ap k.ps.length cp)):=box_ne hbox9 hprs9 (by decide)
  have hne92:Hid (some w.heap.size≠Value.ownBlock (.slice ap k.ps.length cp)):=fun e=>HNE.out e
  have hz9:=hfr9.size
  clear hbox8 hprs8 hnod8 hpb8 hfr8 hbox9 hprs9 hnod9 hidx9 hpb9 hfr9 hnw9 hW9 c0 c1 c2 c3 c4 c5 c6 c7 hfb hU78 HV8
  refine wp_region_ownf 12 8 (Value.ownBlock (.slice ap k.ps.length cp)) (by kernel_rfl) (by kernel_rfl) ?_
  simp only [List.take,List.drop]
  repeat (refine wpG_step (fun K hK=>?_);go_simp;(try simp only [↓IntWalk.iteOmega]);first
   |(refine hK _ _ ?_;clear hK K)
   |(refine stepG_own (by rfl) (by kernel_rfl) ((fun v w'=>w'.ownsRow lo 133 2 v (k.ps.length+1) (cellsPr k.ps++prC p)∧NewOr w.heap.size (.slice ap k.ps.length cp) v)) ((fun v w w' h hu=>⟨ownsRow_up h.1 hu,h.2⟩)) (fun wq hwq=>?_) ?_
     ·((repeat (first|refine fills_no (by rfl) ?_|refine fills_yes (by rfl) (fun vq hvq=>?_)));simp only [List.filter_nil,fills];(obtain ⟨bq,eqb,nb,hcb⟩:=hvq;exact gAt_append2 (.tmp 77) (.tmp 79) 25 (by rfl) lo 133 iP (.agg #[.int .i64 0,.int .i64 0]) 2 16 Tryz.underlying25 hiP hzP0 hzP1 hzP2 rfl (by decide) (.slice ap k.ps.length cp) k.ps.length (cellsPr k.ps) (by rfl) (ownsRow_up HS9.out.2.1 hwq) ⟨bq,0,none⟩ 1 1 (prC p) (by exact eqb) rfl (newL_cells hcb) (prC_one _) (by unfold maxLen;omega) (by omega) (by have:=hwq.size;omega) w.heap.size (by have:=hwq.size;omega) _ rfl))
     refine hK _ _ ?_;clear hK K)
   |(refine stepG_c (by rfl) ?_ ?_ ?_
     rotate_left
     ·intro wq hwq;(have hbq:=gcell hwq;(repeat (first|refine fills_no (by rfl) ?_|refine fills_yes (by rfl) (fun vq hvq=>?_)));simp only [List.filter_nil,fills];unfold upAt;(try ((obtain ⟨c0,c1,c2,c3,c4,c5,c6,c7⟩:=TrBox.cells (gbox hwq HS9.out.1 hne91.out);have p0:=box_cell (gbox hwq HS9.out.2.2.2.2.1 hne92.out) 0;have p1:=box_cell (gbox hwq HS9.out.2.2.2.2.1 hne92.out) 1;simp at p0 p1)));go_simp;(try go_bits);(try simp only [↓IntWalk.iteOmega]);first|exact upOut_value)
     go_simp;refine hK _ _ ?_;clear hK K)
   |(refine stepG_m (by rfl) (by kernel_rfl) (NewL (Value.ownBlock (.slice ap k.ps.length cp)) 133 (prC p)) (newL_closed) (fun wq hwq=>?_) ?_
     ·(have hbq:=gcell hwq;(repeat (first|refine fills_no (by rfl) ?_|refine fills_yes (by rfl) (fun vq hvq=>?_)));simp only [List.filter_nil,fills];unfold upAt;(try ((obtain ⟨c0,c1,c2,c3,c4,c5,c6,c7⟩:=TrBox.cells (gbox hwq HS9.out.1 hne91.out);have p0:=box_cell (gbox hwq HS9.out.2.2.2.2.1 hne92.out) 0;have p1:=box_cell (gbox hwq HS9.out.2.2.2.2.1 hne92.out) 1;simp at p0 p1)));go_simp;(try go_bits);(try simp only [↓IntWalk.iteOmega]);(exact upOut_make ((Up.refl _).alloc _) ⟨_,rfl,own_ne HS9.out.2.1 hwq.size,(MapKept.heap_alloc _ _).1⟩))
     refine hK _ _ ?_;clear hK K))
  refine wpG_nil (by rfl) (fun wq hwq=>?_)
  simp only [fills]
  rintro v80 ⟨hv80,hn80⟩ v79 -
  obtain ⟨a80,c80,rfl⟩:=ownsRow_shape hv80
  have hbox10:TrBox tb k (.slice ap k.ps.length cp) (.slice (some ⟨g2,0,none⟩) (k.tree.ns.length+1) cap2) (.slice a8 (k.tree.ix.length+1) c8) wq:=gbox hwq HS9.out.1 hne91.out
  have hnod10:=HS9.out.2.2.2.1.kept hwq (ownsRow_ne HS9.out.2.2.2.1 HS9.out.2.1 (by decide))
  have hidx10:=HS9.out.2.2.1.kept hwq (ownsRow_ne HS9.out.2.2.1 HS9.out.2.1 (by decide))
  have hfr10:=HS9.out.2.2.2.2.2.1.gr hwq (fun b hb=> .inl (.inr (.inl hb)))
  obtain ⟨c0,c1,c2,c3,c4,c5,c6,c7⟩:=hbox10.cells
  have hfb:=box_free hbox10
  have HF:=Lib.hid (And.intro hbox10 (And.intro hnod10 (And.intro hidx10 (And.intro hfr10 (And.intro hv80 hn80)))))
  clear hbox10 hnod10 hidx10 hfr10 hv80 hn80 hwq
  go_wp2
  rw [onlyN_normal]
  go_wp2
  go_end0
  refine ⟨⟨_,rfl⟩,(.slice a80 (k.ps.length+1) c80),.slice (some ⟨g2,0,none⟩) (k.tree.ns.length+1) cap2,(.slice a8 (k.tree.ix.length+1) c8),⟨?_,hlo,?_,?_,?_⟩,?_,?_⟩
  ·exact box_set HF.out.1 3 (.slice a80 (k.ps.length+1) c80)
  ·have:=ownsRow_setb HF.out.2.2.2.2.1 (box_ne HF.out.1 HF.out.2.2.2.2.1 (by decide)) 3 (.slice a80 (k.ps.length+1) c80)
   rw [← cellsPr_snoc] at this
   exact ownsRow_n this (by show k.ps.length+1=(k.ps++ [p]).length;simp)
  ·have:=ownsRow_setb HF.out.2.1 (box_ne HF.out.1 HF.out.2.1 (by decide)) 3 (.slice a80 (k.ps.length+1) c80)
   rw [HTR.out]
   exact this
  ·have:=ownsRow_setb HF.out.2.2.1 (box_ne HF.out.1 HF.out.2.2.1 (by decide)) 3 (.slice a80 (k.ps.length+1) c80)
   rw [HTR.out]
   simpa [cellsI] using this
  ·exact HF.out.2.2.2.1.set (p:=⟨tb,3,none⟩) (.inl (.inl rfl)) (.slice a80 (k.ps.length+1) c80)
  ·rintro b (rfl|hb|hb|hb)
   ·exact .inl (.inl rfl)
   ·rcases HF.out.2.2.2.2.2 b hb with h|h
    ·exact .inl (.inr (.inl h))
    ·exact .inr h
   ·rcases HS7.out.2.2.2.2.2.2 b hb with h|h
    ·exact .inl (.inr (.inr (.inl h)))
    ·exact .inr h
   ·rcases HS9.out.2.2.2.2.2.2 b hb with h|h
    ·exact .inl (.inr (.inr (.inr h)))
    ·exact .inr h
 ·obtain ⟨j,hj,hje⟩: ∃ j:Nat,j<k.tree.ns.length∧findCh k.tree.ns P p.byt k.tree.ns.length=j:=by
   rcases findCh_cases k.tree.ns P p.byt k.tree.ns.length with ⟨h1,_⟩|⟨j,h1,h2,_⟩
   ·omega
   ·exact ⟨j,h1,h2⟩
  have HTR:Hid ((k.add p).tree=⟨k.tree.ns,k.tree.ix++ [j]⟩):=by
   unfold Hid
   show treeF k.c (k.ps++ [p])=_
   rw [treeF_snoc]
   have h1:=learnT_old (c:=k.c) (t:=k.tree) (p:=p) (by rw [hP];exact hf)
   rw [hP,hje] at h1
   exact h1
  simp only [hje] at cCP
  clear hf hje
  go_enter Tryz.func143,Tryz.ntmps143
  go_wp2_with (first|((go_at_call 93;(with_reducible refine (cN _ (h.up (by (repeat (first|with_reducible exact Up.refl _|with_reducible assumption|with_reducible refine Up.alloc ?_ _|refine Up.trans ?_ (by with_reducible assumption)))))).mono ?_);rintro e w1 ⟨rfl,U1⟩;have B1:=bcell U1;have Z1:=U1.size;(try simp at Z1);(try rw [Nat.add_one_le_iff] at Z1));clear B1;have hT1:=(h.up (Up.alloc (Up.refl w) (.cells #[.int .i64 p.pre,.int .i64 p.byt] 133))).up U1;have hpb:w1.heap[w.heap.size]? =some (.cells #[.int .i64 p.pre,.int .i64 p.byt] 133):=box_up U1 (MapKept.heap_alloc w _).1;obtain ⟨ap,cp,rfl⟩:=hT1.shape;have hpb0:=box_cell hpb 0;have hpb1:=box_cell hpb 1;have hfp:=box_free hpb;have hpl:=(Array.getElem?_eq_some_iff.1 hpb).1;(simp at hpb0 hpb1))|fail)
  (with_reducible refine (cCP _ hT1).mono ?_);rintro e w' ⟨rfl,rfl⟩
  have hfr7:Fr (Own tb (.slice ap k.ps.length cp) vn vi) w w1:=(Fr.of _ ((Up.alloc (Up.refl w) _).trans U1))
  have hnew:NewOr w.heap.size vn vn:=fun b hb=> .inl hb
  have HNE:Hid (¬ some w.heap.size=Value.ownBlock (.slice ap k.ps.length cp)):=fun e=>by have:=HLT.out _ e.symm;omega
  have HS7:=Lib.hid (And.intro hT1.box (And.intro hT1.prs (And.intro hT1.idx (And.intro hT1.nod (And.intro hpb (And.intro hfr7 hnew))))))
  clear hT1 hpb U1 hpb0 hpb1 hfp hfr7 hnew
  obtain ⟨ai,ci,rfl⟩:=ownsRow_shape HS7.out.2.2.1
  obtain ⟨c0,c1,c2,c3,c4,c5,c6,c7⟩:=HS7.out.1.cells
  have hfb:=box_free HS7.out.1
  have htb7:=(Array.getElem?_eq_some_iff.1 HS7.out.1).1
  have hz7:=HS7.out.2.2.2.2.2.1.size
  have hne71:Hid (some tb≠Value.ownBlock (.slice ai k.tree.ix.length ci)):=box_ne HS7.out.1 HS7.out.2.2.1 (by decide)
  have hne72:Hid (some w.heap.size≠Value.ownBlock (.slice ai k.tree.ix.length ci)):=box_ne HS7.out.2.2.2.2.1 HS7.out.2.2.1 (by decide)
  have hixl:Hid (k.tree.ix.length=k.ps.length):=treeF_ixl _ _
  have hixl2:k.tree.ix.length≤2000:=by rw [hixl.out];omega
  go_wp2_with (at_builtin;skip;refine wpList_append2 rfl _ _ 79 rfl lo 3 iI (.int .i64 0) 1 8 Tryz.underlying79 hiI hzI0 hzI1 hzI2 rfl (by decide) _ _ _ rfl (HS7.out.2.2.1.alloc _) ⟨w1.heap.size,0,none⟩ 1 1 [.int .i64 ((j:Int))] rfl rfl (new_cells [.int .i64 ((j:Int))] _ rfl) (by intro u hu;simp at hu;subst hu;rfl) (by unfold maxLen;omega) (by omega) (by simp;omega) ?_;rintro v8 W8 hv8 hg8 hn8;obtain ⟨a8,c8,rfl⟩:=ownsRow_shape hv8;obtain ⟨c0,c1,c2,c3,c4,c5,c6,c7⟩:=TrBox.cells (gbox hg8 (box_up ((Up.refl _).alloc _) HS7.out.1) hne71.out);have hfb:=box_free (gbox hg8 (box_up ((Up.refl _).alloc _) HS7.out.1) hne71.out);have HV8:=Lib.hid (And.intro hv8 (And.intro hg8 hn8));clear hv8 hg8 hn8)
  have hU78:=Up.alloc (Up.refl w1) (.cells #[.int .i64 ((j:Int))] 3)
  have hbox8:TrBox tb k (.slice ap k.ps.length cp) (vn) (.slice ai k.tree.ix.length ci) W8:=gbox HV8.out.2.1 (box_up hU78 HS7.out.1) hne71.out
  have hprs8:=(ownsRow_up HS7.out.2.1 hU78).kept HV8.out.2.1 (ownsRow_ne HS7.out.2.1 HS7.out.2.2.1 (by decide))
  have hnod8:=(ownsRow_up HS7.out.2.2.2.1 hU78).kept HV8.out.2.1 (ownsRow_ne HS7.out.2.2.2.1 HS7.out.2.2.1 (by decide))
  have hpb8:=gbox HV8.out.2.1 (box_up hU78 HS7.out.2.2.2.2.1) hne72.out
  have hfr8:=(HS7.out.2.2.2.2.2.1.up hU78).gr HV8.out.2.1 (fun b hb=> .inl (.inr (.inr (.inr hb))))
  obtain ⟨W9,hW9⟩: ∃ W,W=W8.setCell ⟨tb,7,none⟩ (.slice a8 (k.tree.ix.length+1) c8):=⟨_,rfl⟩
  rw [← hW9]
  have hbox9:TrBox tb k (.slice ap k.ps.length cp) (vn) (.slice a8 (k.tree.ix.length+1) c8) W9:=by rw [hW9];exact box_set hbox8 7 (.slice a8 (k.tree.ix.length+1) c8)
  have hprs9:=ownsRow_setb hprs8 (box_ne hbox8 hprs8 (by decide)) 7 (.slice a8 (k.tree.ix.length+1) c8)
  have hnod9:=ownsRow_setb hnod8 (box_ne hbox8 hnod8 (by decide)) 7 (.slice a8 (k.tree.ix.length+1) c8)
  have hidx9:=ownsRow_setb HV8.out.1 (box_ne hbox8 HV8.out.1 (by decide)) 7 (.slice a8 (k.tree.ix.length+1) c8)
  have hpb9:=box_oth hpb8 (p:=⟨tb,7,none⟩) (Nat.ne_of_gt htb) (.slice a8 (k.tree.ix.length+1) c8)
  have hfr9:=hfr8.set (p:=⟨tb,7,none⟩) (.inl (.inl rfl)) (.slice a8 (k.tree.ix.length+1) c8)
  rw [← hW9] at hprs9 hnod9 hidx9 hpb9 hfr9
  have hnw9:NewOr w.heap.size (.slice ai k.tree.ix.length ci) (.slice a8 (k.tree.ix.length+1) c8):=fun b hb=>(HV8.out.2.2 b hb).imp id (fun h=>by have:=hU78.size;omega)
  have HS9:=Lib.hid (And.intro hbox9 (And.intro hprs9 (And.intro hidx9 (And.intro hnod9 (And.intro hpb9 (And.intro hfr9 hnw9))))))
  have hne91:Hid (some tb≠Value.ownBlock (.slice ap k.ps.length cp)):=box_ne hbox9 hprs9 (by decide)
  have hne92:Hid (some w.heap.size≠Value.ownBlock (.slice ap k.ps.length cp)):=fun e=>HNE.out e
  have hz9:=hfr9.size
  clear hbox8 hprs8 hnod8 hpb8 hfr8 hbox9 hprs9 hnod9 hidx9 hpb9 hfr9 hnw9 hW9 c0 c1 c2 c3 c4 c5 c6 c7 hfb hU78 HV8
  refine wp_region_ownf 12 8 (Value.ownBlock (.slice ap k.ps.length cp)) (by kernel_rfl) (by kernel_rfl) ?_
  simp only [List.take,List.drop]
  repeat (refine wpG_step (fun K hK=>?_);go_simp;(try simp only [↓IntWalk.iteOmega]);first
   |(refine hK _ _ ?_;clear hK K)
   |(refine stepG_own (by rfl) (by kernel_rfl) ((fun v w'=>w'.ownsRow lo 133 2 v (k.ps.length+1) (cellsPr k.ps++prC p)∧NewOr w.heap.size (.slice ap k.ps.length cp) v)) ((fun v w w' h hu=>⟨ownsRow_up h.1 hu,h.2⟩)) (fun wq hwq=>?_) ?_
     ·((repeat (first|refine fills_no (by rfl) ?_|refine fills_yes (by rfl) (fun vq hvq=>?_)));simp only [List.filter_nil,fills];(obtain ⟨bq,eqb,nb,hcb⟩:=hvq;exact gAt_append2 (.tmp 77) (.tmp 79) 25 (by rfl) lo 133 iP (.agg #[.int .i64 0,.int .i64 0]) 2 16 Tryz.underlying25 hiP hzP0 hzP1 hzP2 rfl (by decide) (.slice ap k.ps.length cp) k.ps.length (cellsPr k.ps) (by rfl) (ownsRow_up HS9.out.2.1 hwq) ⟨bq,0,none⟩ 1 1 (prC p) (by exact eqb) rfl (newL_cells hcb) (prC_one _) (by unfold maxLen;omega) (by omega) (by have:=hwq.size;omega) w.heap.size (by have:=hwq.size;omega) _ rfl))
     refine hK _ _ ?_;clear hK K)
   |(refine stepG_c (by rfl) ?_ ?_ ?_
     rotate_left
     ·intro wq hwq;(have hbq:=gcell hwq;(repeat (first|refine fills_no (by rfl) ?_|refine fills_yes (by rfl) (fun vq hvq=>?_)));simp only [List.filter_nil,fills];unfold upAt;(try ((obtain ⟨c0,c1,c2,c3,c4,c5,c6,c7⟩:=TrBox.cells (gbox hwq HS9.out.1 hne91.out);have p0:=box_cell (gbox hwq HS9.out.2.2.2.2.1 hne92.out) 0;have p1:=box_cell (gbox hwq HS9.out.2.2.2.2.1 hne92.out) 1;simp at p0 p1)));go_simp;(try go_bits);(try simp only [↓IntWalk.iteOmega]);first|exact upOut_value)
     go_simp;refine hK _ _ ?_;clear hK K)
   |(refine stepG_m (by rfl) (by kernel_rfl) (NewL (Value.ownBlock (.slice ap k.ps.length cp)) 133 (prC p)) (newL_closed) (fun wq hwq=>?_) ?_
     ·(have hbq:=gcell hwq;(repeat (first|refine fills_no (by rfl) ?_|refine fills_yes (by rfl) (fun vq hvq=>?_)));simp only [List.filter_nil,fills];unfold upAt;(try ((obtain ⟨c0,c1,c2,c3,c4,c5,c6,c7⟩:=TrBox.cells (gbox hwq HS9.out.1 hne91.out);have p0:=box_cell (gbox hwq HS9.out.2.2.2.2.1 hne92.out) 0;have p1:=box_cell (gbox hwq HS9.out.2.2.2.2.1 hne92.out) 1;simp at p0 p1)));go_simp;(try go_bits);(try simp only [↓IntWalk.iteOmega]);(exact upOut_make ((Up.refl _).alloc _) ⟨_,rfl,own_ne HS9.out.2.1 hwq.size,(MapKept.heap_alloc _ _).1⟩))
     refine hK _ _ ?_;clear hK K))
  refine wpG_nil (by rfl) (fun wq hwq=>?_)
  simp only [fills]
  rintro v80 ⟨hv80,hn80⟩ v79 -
  obtain ⟨a80,c80,rfl⟩:=ownsRow_shape hv80
  have hbox10:TrBox tb k (.slice ap k.ps.length cp) (vn) (.slice a8 (k.tree.ix.length+1) c8) wq:=gbox hwq HS9.out.1 hne91.out
  have hnod10:=HS9.out.2.2.2.1.kept hwq (ownsRow_ne HS9.out.2.2.2.1 HS9.out.2.1 (by decide))
  have hidx10:=HS9.out.2.2.1.kept hwq (ownsRow_ne HS9.out.2.2.1 HS9.out.2.1 (by decide))
  have hfr10:=HS9.out.2.2.2.2.2.1.gr hwq (fun b hb=> .inl (.inr (.inl hb)))
  obtain ⟨c0,c1,c2,c3,c4,c5,c6,c7⟩:=hbox10.cells
  have hfb:=box_free hbox10
  have HF:=Lib.hid (And.intro hbox10 (And.intro hnod10 (And.intro hidx10 (And.intro hfr10 (And.intro hv80 hn80)))))
  clear hbox10 hnod10 hidx10 hfr10 hv80 hn80 hwq
  go_wp2
  rw [onlyN_normal]
  go_wp2
  go_end0
  refine ⟨⟨_,rfl⟩,(.slice a80 (k.ps.length+1) c80),vn,(.slice a8 (k.tree.ix.length+1) c8),⟨?_,hlo,?_,?_,?_⟩,?_,?_⟩
  ·exact box_set HF.out.1 3 (.slice a80 (k.ps.length+1) c80)
  ·have:=ownsRow_setb HF.out.2.2.2.2.1 (box_ne HF.out.1 HF.out.2.2.2.2.1 (by decide)) 3 (.slice a80 (k.ps.length+1) c80)
   rw [← cellsPr_snoc] at this
   exact ownsRow_n this (by show k.ps.length+1=(k.ps++ [p]).length;simp)
  ·have:=ownsRow_setb HF.out.2.1 (box_ne HF.out.1 HF.out.2.1 (by decide)) 3 (.slice a80 (k.ps.length+1) c80)
   rw [HTR.out]
   exact this
  ·have:=ownsRow_setb HF.out.2.2.1 (box_ne HF.out.1 HF.out.2.2.1 (by decide)) 3 (.slice a80 (k.ps.length+1) c80)
   rw [HTR.out]
   simpa [cellsI] using this
  ·exact HF.out.2.2.2.1.set (p:=⟨tb,3,none⟩) (.inl (.inl rfl)) (.slice a80 (k.ps.length+1) c80)
  ·rintro b (rfl|hb|hb|hb)
   ·exact .inl (.inl rfl)
   ·rcases HF.out.2.2.2.2.2 b hb with h|h
    ·exact .inl (.inr (.inl h))
    ·exact .inr h
   ·rcases HS7.out.2.2.2.2.2.2 b hb with h|h
    ·exact .inl (.inr (.inr (.inl h)))
    ·exact .inr h
   ·rcases HS9.out.2.2.2.2.2.2 b hb with h|h
    ·exact .inl (.inr (.inr (.inr h)))
    ·exact .inr h
end Go.Proofs.YtekogcjdaolcbaaGreatDoor
/- As wp_region_up, but the tail's operations may wait for those before them by way of others. Conditions: those of the theorem wp_region_upR. -/
namespace Go.Proofs.YtekogcjdaolcbaaGreatDoor
open Go Go.RowKit
section
variable {P:Program} {ops:Array Oper}
def upBR (ops:Array Oper) (n0:Nat):Bool :=
 Region.noSelect ops && decide (n0≤ops.size) &&
 ((List.range ops.size).all fun j=>match ops[j]? with
   |none=>true
   |some o=>(o.after.all fun e=> !Region.binds .any e || decide (e.on<j)) &&
    ((List.range j).all fun i=>match ops[i]? with
      |none=>true
      |some x=>if j<n0 then (waitsB o i || x.apart ops o) && (match x.dst with|some d=>o.dst != some d|none=>true) else reachB ops 12 j i))
theorem upB_textR {n0:Nat} (h:upBR ops n0=true):UpText ops n0:=by
 unfold upBR at h
 simp only [Bool.and_eq_true,decide_eq_true_eq] at h
 obtain ⟨⟨h1,h2⟩,h3⟩:=h
 have h3:=List.all_eq_true.1 h3
 have hj: ∀ (j:Nat) (o:Oper),ops[j]? =some o→(∀ e∈o.after,Region.binds .any e=true→e.on<j)∧ ∀ (i:Nat) (x:Oper),i<j→ops[i]? =some x→(if j<n0 then (waitsB o i || x.apart ops o) && (match x.dst with|some d=>o.dst != some d|none=>true) else reachB ops 12 j i)=true:=by
  intro j o ho
  have hlt:j<ops.size:=(Array.getElem?_eq_some_iff.1 ho).1
  have:=h3 j (List.mem_range.2 hlt)
  simp only [ho,Bool.and_eq_true] at this
  obtain ⟨ha,hb⟩:=this
  refine ⟨fun e he hb=>?_,fun i x hi hx=>?_⟩
  ·have:=Array.all_eq_true_iff_forall_mem.1 ha e he
   simpa [hb] using this
  ·have:=List.all_eq_true.1 hb i (List.mem_range.2 hi)
   simpa only [hx] using this
 refine ⟨fun j o cs b ho=>Region.noSelect_spec h1 j o cs b ho,h2,fun j o ho=>(hj j o ho).1,fun i j x o hi hn hx ho=>?_,fun i j x o d hi hn hx ho hd=>?_,fun i j o hi hn ho=>?_⟩
 ·have:=(hj j o ho).2 i x hi hx
  simp only [hn,if_true,Bool.and_eq_true,Bool.or_eq_true] at this
  exact this.1
 ·have:=(hj j o ho).2 i x hi hx
  simp only [hn,if_true,Bool.and_eq_true,hd] at this
  simpa using this.2
 ·have hlt:j<ops.size:=(Array.getElem?_eq_some_iff.1 ho).1
  have hx:ops[i]? =some ops[i]:=by simp [show i<ops.size by omega]
  have:=(hj j o ho).2 i _ hi hx
  simpa only [show ¬ j<n0 by omega,if_false] using this
theorem wp_region_upR (n0:Nat) {id:Nat} {Q:Exit→Act→World→Prop} {a:Act} {w:World} {l:List Oper} (hm:P.follows .mixedOrders=true) (hB:upBR l.toArray n0=true)
  (h:WUp P l.toArray (fun w'=>Up w w') (fun a' w'=>wpList P l.toArray Q (l.drop n0) a' w') (l.take n0) 0 [] a):(Code.region id l.toArray true).wp P Q a w:=by
 have T:=upB_textR hB
 have hle:n0≤l.length:=by simpa using T.le
 obtain ⟨D,hU,hT,hZ⟩:=wpG_text (R:=fun _=>Up) (Kc:=fun _=>Up) (C:=fun _ w'=>Up w w') (Z:=fun a' w'=>wpList P l.toArray Q (l.drop n0) a' w') (a0:=a) (n0:=n0) T.c (l.take n0) 0 [] a (fun _=>False) (fun _=>undef) (fun _ _ _=>False) (by simp [hle]) (fun j hj=>by
  simp only [List.length_take] at hj
  simp [show j<n0 by omega]) ⟨(Desc.refl a (fun _=>undef)).congr (fun i=>by simp) (fun _ h=>h.elim),fun i hi=>absurd hi (Nat.not_lt_zero _),fun m hm=>(by cases hm),fun i hi=>absurd hi (Nat.not_lt_zero _)⟩
  (fun i hi=>absurd hi (Nat.not_lt_zero _)) (fun j o hj=>absurd hj (Nat.not_lt_zero _)) (wpUp_wpG _ _ _ _ h.out)
 refine wp_region_any hm (wpAny_g (R:=fun _=>Up) (Kc:=fun _=>Up) (C:=fun _ w'=>Up w w') (I:=fun _ w'=>Up w w') (fun S w' j hI hS=>hI) (fun S w1 w2 j hI hS hR=>hI.trans hR) (fun j w'=>Up.refl _) (fun k j w1 w2 hne hR=>hR) (a0:=a) T hU hT (by simpa using hZ) _ (List.range n0) _ a _ (fun _=>undef) (by simp;omega) (fun i hi _=>List.mem_range.2 hi) (by simp) (fun i hi his=>by
  have:i<l.length:=by simpa using his
  simp [this]) (fun j o ho hj=>?_) ?_ ?_ ?_)
 ·rw [getD_replicate_false] at hj;cases hj
 ·exact ⟨rfl,rfl,rfl,Nat.le_refl _,fun _ _=>rfl⟩
 ·exact (Desc.refl a (fun _=>undef)).congr (fun i=>by rw [getD_replicate_false];simp) (fun _ h=>h.elim)
 ·intro i hi;rw [getD_replicate_false] at hi;cases hi
end
end Go.Proofs.YtekogcjdaolcbaaGreatDoor
/- Walk of the program's follow, which goes on behind a code. Conditions: the tree lies in memory, what is known is valid, the code can follow or is the clear code. -/
namespace Go.Proofs.YtekogcjdaolcbaaGreatDoor
open Go Go.RowKit
theorem TreeAt.last {lo tb:Nat} {k k':KnD} {vp vn vi:Value} {w:World} (h:TreeAt lo tb k vp vn vi w) (x:Int) (hs:k'.set=k.set) (hp:k'.ps=k.ps) (hb:k'.base=k.base) (hl:k'.last=x):TreeAt lo tb k' vp vn vi (w.setCell ⟨tb,5,none⟩ (.int .i64 x)):=by
 have ht:k'.tree=k.tree:=by unfold KnD.tree KnD.c;rw [hs,hp]
 refine ⟨?_,h.low,?_,?_,?_⟩
 ·unfold TrBox
  rw [hs,hb,hl]
  exact box_set h.box 5 (.int .i64 x)
 ·rw [hp];exact ownsRow_setb h.prs (box_ne h.box h.prs (by decide)) 5 _
 ·rw [ht];exact ownsRow_setb h.nod (box_ne h.box h.nod (by decide)) 5 _
 ·rw [ht];exact ownsRow_setb h.idx (box_ne h.box h.idx (by decide)) 5 _
theorem TrPost.last {lo tb:Nat} {k k':KnD} {vp vn vi:Value} {w w':World} (h:TrPost lo tb k vp vn vi w w') (x:Int) (hs:k'.set=k.set) (hp:k'.ps=k.ps) (hb:k'.base=k.base) (hl:k'.last=x):TrPost lo tb k' vp vn vi w (w'.setCell ⟨tb,5,none⟩ (.int .i64 x)):=by
 obtain ⟨vp',vn',vi',h1,h2,h3⟩:=h
 exact ⟨vp',vn',vi',h1.last x hs hp hb hl,h2.set (p:=⟨tb,5,none⟩) (.inl (.inl rfl)) _,h3⟩
theorem TrPost.pre {lo tb:Nat} {k:KnD} {vp vn vi:Value} {w w1 w':World} (hu:Up w w1) (h:TrPost lo tb k vp vn vi w1 w'):TrPost lo tb k vp vn vi w w':=by
 obtain ⟨vp',vn',vi',h1,h2,h3⟩:=h
 exact ⟨vp',vn',vi',h1,(Fr.of _ hu).trans h2 (fun _ h=> .inl h),fun b hb=>(h3 b hb).imp id (fun h=>Nat.le_trans hu.size h)⟩
theorem TrPost.refl {lo tb:Nat} {k:KnD} {vp vn vi:Value} {w:World} (h:TreeAt lo tb k vp vn vi w):TrPost lo tb k vp vn vi w w:=⟨vp,vn,vi,h,Fr.refl _ _,fun _ h=> .inl h⟩
set_option maxRecDepth 100000 in
set_option maxHeartbeats 4000000 in
theorem followC_any (lo tb:Nat) (k:KnD) (vp vn vi:Value) (w:World) (h:TreeAt lo tb k vp vn vi w) (hk:k.Tr) (hb0:0≤k.base) (hb1:k.base≤k.ps.length) :
  Calls Tryz.prog 96  #[.pointer (some ⟨tb,0,none⟩),.int .i64 (k.c:Nat)] w (fun e w'=>(∃ v,e= .returned v)∧TrPost lo tb k.cleared vp vn vi w w'):=by
 have cK:=fun w=>clearI_any k.set w hk.set
 have cF:=fun w hT=>forget_any lo tb k vp vn vi w hT hk hb0 hb1
 obtain ⟨c0,c1,c2,c3,c4,c5,c6,c7⟩:=h.cells
 have htb:=h.lt
 have ec:k.c=clr k.set:=rfl
 have H:=Lib.hid h
 rw [ec]
 clear h
 go_enter Tryz.func96,Tryz.ntmps96
 go_wp2_with (first|(go_at_call 40;(with_reducible refine (cK _).mono ?_);rintro e w1 ⟨rfl,U1⟩;have B1:=bcell U1;have Z1:=U1.size;(try simp at Z1);(try rw [Nat.add_one_le_iff] at Z1))|fail)
 refine (cF _ (H.out.up U1)).mono ?_
 rintro e w2 ⟨⟨v,rfl⟩,hP⟩
 have hP2:=hP.last (k':=k.cleared) (-1) rfl rfl rfl rfl
 obtain ⟨vp',vn',vi',hT2,-,-⟩:=hP
 have htb2:=hT2.lt
 obtain ⟨d0,d1,d2,d3,d4,d5,d6,d7⟩:=hT2.cells
 have hfr2:=box_free hT2.box
 have HP:=Lib.hid hP2
 clear hT2 hP2 B1
 go_wp2
 (try simp only [Exit.inBlock,Exit.then]);refine bodyPost_ret (results_none rfl _ _ _) rfl ?_
 exact ⟨⟨_,rfl⟩,HP.out.pre U1⟩
def KnD.from (k:KnD) (x:Int):Int:=if x=k.next then k.last else x
theorem KnD.from_ok {k:KnD} (hk:k.Ok) {x:Int} (hf:k.follows x=true):codeOk k.c k.ps.length (k.from x)=true:=by
 unfold KnD.from
 rcases KnD.follows_cases hk hf with hc|⟨_,hx,hl⟩
 ·rw [if_neg (by rw [codeOk_iff] at hc;unfold KnD.next;omega)];exact hc
 ·rw [if_pos hx];exact hl
theorem KnD.from_first {k:KnD} (hk:k.Ok) {x:Int} (hf:k.follows x=true):(nodAt k.tree.ns (nodeOf k.c k.tree (k.from x))).fir=k.first x:=by
 have hT:=hk.tree
 have hfr:=KnD.from_ok hk hf
 obtain ⟨a1,a2,a3⟩:=hT.node _ hfr
 have h1:=hT.first _ a1
 obtain ⟨-,-,f1,f2⟩:=hT.bytes _ a1
 have hcb:=hk.c_bd
 rw [a3] at h1
 have h2:(k.any x).getD 0 0=(wordP k.c k.ps (k.from x)).getD 0 0:=by
  unfold KnD.any KnD.from
  split
  ·have hl:codeOk k.c k.ps.length k.last=true:=by
    have:=hfr
    unfold KnD.from at this
    rwa [if_pos (by assumption)] at this
   have hp:1≤(k.word k.last).length:=wordP_pos hk.ps hl
   show (k.word k.last++(k.word k.last).take 1).getD 0 0=(k.word k.last).getD 0 0
   rw [List.getD_eq_getElem?_getD,List.getD_eq_getElem?_getD,List.getElem?_append_left (by omega)]
  ·rfl
 unfold KnD.first
 rw [h2,h1,ub_nat f1 (by omega)]
set_option maxRecDepth 100000 in
set_option maxHeartbeats 4000000 in
theorem followW_any (lo tb:Nat) (k:KnD) (vp vn vi:Value) (x:Int) (w:World) (h:TreeAt lo tb k vp vn vi w) (hk:k.Ok) (hx: ¬ x=(k.c:Int)) (hf:k.follows x=true) :
  Calls Tryz.prog 96  #[.pointer (some ⟨tb,0,none⟩),.int .i64 x] w (fun e w'=>(∃ v,e= .returned v)∧TrPost lo tb (k.after x) vp vn vi w w'):=by
 have hkt:=hk.tr
 have cK:=fun w=>clearI_any k.set w hk.set
 obtain ⟨c0,c1,c2,c3,c4,c5,c6,c7⟩:=h.cells
 have hfr:=box_free h.box
 have htb:=h.lt
 have ec:k.c=clr k.set:=rfl
 have hps:k.ps.length≤100000:=by have:=hkt.len;have:=hkt.c_bd;omega
 obtain ⟨ap,cp,rfl⟩:=h.shape
 have cG:=fun w=>growI_any k.set k.base k.last ap k.ps.length cp w hk.set hps
 have cX:=fun w=>nextI_any k.set k.base k.last ap k.ps.length cp w hk.set hps
 rw [growN_eq] at cG
 simp only [knV] at cG cX
 have H:=Lib.hid h
 have hxb:(x == ((clr k.set:Nat):Int))=false:=by rw [← ec];simpa using hx
 have en:((clr k.set:Int)+2+k.ps.length)=(k.next:Nat):=by unfold KnD.next KnD.c;omega
 have hgw:=htb
 cases hg:k.grow
 ·have hA:k.after x=⟨k.set,k.ps,k.base,x⟩:=by unfold KnD.after;rw [hg];simp
  rw [hA]
  rw [hg] at cG
  clear h hx hg hA cX en
  go_enter Tryz.func96,Tryz.ntmps96
  go_wp2_with (first|((go_at_call 40;(with_reducible refine (cK _).mono ?_);rintro e w1 ⟨rfl,U1⟩;have B1:=bcell U1;have Z1:=U1.size;(try simp at Z1);(try rw [Nat.add_one_le_iff] at Z1));have htb1:=Nat.lt_of_lt_of_le htb U1.size;have hgl1:=Nat.lt_of_lt_of_le hgw U1.size)|((go_at_call 92;(with_reducible refine (cG _).mono ?_);rintro e w2 ⟨rfl,U2⟩;have B2:=bcell U2;have Z2:=U2.size;(try simp at Z2);(try rw [Nat.add_one_le_iff] at Z2));have htb2:=Nat.lt_of_lt_of_le htb1 U2.size;have hgl2:=Nat.lt_of_lt_of_le hgl1 U2.size))
  go_end0
  have hT:=(H.out.up U1).up U2
  exact ⟨⟨_,rfl⟩,(((TrPost.refl hT).last (k':=⟨k.set,k.ps,k.base,x⟩) x rfl rfl rfl rfl).pre U2).pre U1⟩
 ·have hA:k.after x=⟨k.set,k.ps++ [⟨k.last,k.first x⟩],k.base,x⟩:=by unfold KnD.after;rw [hg];rfl
  have hlast:=hk.lastOk hg
  have hnx:k.next≤lastC k.set:=by
   unfold KnD.grow at hg
   simp only [Bool.and_eq_true,decide_eq_true_eq] at hg
   exact hg.2
  obtain ⟨hf1,hf2⟩:=KnD.first_bd hk hf
  have hf3:k.first x≤255:=by have:=hk.c_bd;omega
  have cL:=fun wq hT=>learnT_any lo tb k (.slice ap k.ps.length cp) vn vi ⟨k.last,k.first x⟩ wq hT hkt hlast hf1 hf2 hnx
  have cN:=fun wq hT=>nodeOf_any lo tb k (.slice ap k.ps.length cp) vn vi (k.from x) wq hT hkt (KnD.from_ok hk hf)
  have hfi:=KnD.from_first hk hf
  obtain ⟨hn1,-,-⟩:=hk.tree.node _ (KnD.from_ok hk hf)
  generalize nodeOf k.c k.tree (k.from x)=nd at *
  obtain ⟨g,cap,nxx,rfl,hg1,hg2,hg3,hg4,hg5,d0,d1,d2,d3,d4,d5⟩:=h.node1 hkt hn1
  rw [hfi] at d4
  unfold maxLen at hg2
  clear hgw
  have hgw:=hg4
  rw [hA]
  rw [hg] at cG
  generalize k.first x=fx at *
  dsimp only at cL
  clear h hx hg hA hf hfi hnx d0 d1 d2 d3 d5 hlast
  by_cases hxn:x=k.next
  ·have hfrom:k.from x=k.last:=by unfold KnD.from;rw [if_pos hxn]
   rw [hfrom] at cN
   clear hfrom
   rw [en] at cX
   rw [← hxn] at cX
   clear en hxn
   go_enter Tryz.func96,Tryz.ntmps96
   go_wp2_with (first|((go_at_call 40;(with_reducible refine (cK _).mono ?_);rintro e w1 ⟨rfl,U1⟩;have B1:=bcell U1;have Z1:=U1.size;(try simp at Z1);(try rw [Nat.add_one_le_iff] at Z1));have htb1:=Nat.lt_of_lt_of_le htb U1.size;have hgl1:=Nat.lt_of_lt_of_le hgw U1.size)|((go_at_call 92;(with_reducible refine (cG _).mono ?_);rintro e w2 ⟨rfl,U2⟩;have B2:=bcell U2;have Z2:=U2.size;(try simp at Z2);(try rw [Nat.add_one_le_iff] at Z2));have htb2:=Nat.lt_of_lt_of_le htb1 U2.size;have hgl2:=Nat.lt_of_lt_of_le hgl1 U2.size)|((go_at_call 94;(with_reducible refine (cX _).mono ?_);rintro e w3 ⟨rfl,U3⟩;have B3:=bcell U3;have Z3:=U3.size;(try simp at Z3);(try rw [Nat.add_one_le_iff] at Z3));have htb3:=Nat.lt_of_lt_of_le htb2 U3.size;have hgl3:=Nat.lt_of_lt_of_le hgl2 U3.size))
   refine wp_region_upR 18 (by kernel_rfl) (by kernel_rfl) ?_
   simp only [List.take,List.drop]
   repeat (refine wpUp_step (fun K hK=>?_);go_simp;(try simp only [↓IntWalk.iteOmega]);first
    |(refine hK _ _ ?_;clear hK K)
    |(apply stepU_c
      ·intro wq hwq;(have hbq:=bcell hwq;(repeat (first|refine fills_no (by rfl) ?_|refine fills_yes (by rfl) (fun vq hvq=>?_)));simp only [List.filter_nil,fills];unfold upAt;go_simp;(try go_bits);(try simp only [↓IntWalk.iteOmega]);first|exact upOut_value|(apply upOut_call;(go_at_call 93;exact cN _ ((((H.out.up U1).up U2).up U3).up hwq))))
      go_simp;refine hK _ _ ?_;clear hK K))
   refine wpUp_nil (fun wq hwq=>?_)
   simp only [fills]
   have hT:=(((H.out.up U1).up U2).up U3).up hwq
   have hUq:Up w wq:=((U1.trans U2).trans U3).trans hwq
   go_wp2_with fail
   with_reducible refine (cL _ hT).mono ?_
   rintro e w5 ⟨⟨v,rfl⟩,hP⟩
   have hP2:=hP.last (k':=⟨k.set,k.ps++ [⟨k.last,fx⟩],k.base,x⟩) x rfl rfl rfl rfl
   obtain ⟨vp',vn',vi',hT2,-,-⟩:=hP
   have htb5:=hT2.lt
   obtain ⟨e0,e1,e2,e3,e4,e5,e6,e7⟩:=hT2.cells
   have hfr5:=box_free hT2.box
   have HP:=Lib.hid (hP2.pre hUq)
   clear hT2 hP2 B1 B2 B3 hT hUq hwq
   go_wp2
   go_end0
   exact ⟨⟨_,rfl⟩,HP.out⟩
  ·have hfrom:k.from x=x:=by unfold KnD.from;rw [if_neg hxn]
   rw [hfrom] at cN
   clear hfrom
   have hxn2:(x == (clr k.set:Int)+2+k.ps.length)=false:=by rw [en];simpa using hxn
   clear en hxn
   go_enter Tryz.func96,Tryz.ntmps96
   go_wp2_with (first|((go_at_call 40;(with_reducible refine (cK _).mono ?_);rintro e w1 ⟨rfl,U1⟩;have B1:=bcell U1;have Z1:=U1.size;(try simp at Z1);(try rw [Nat.add_one_le_iff] at Z1));have htb1:=Nat.lt_of_lt_of_le htb U1.size;have hgl1:=Nat.lt_of_lt_of_le hgw U1.size)|((go_at_call 92;(with_reducible refine (cG _).mono ?_);rintro e w2 ⟨rfl,U2⟩;have B2:=bcell U2;have Z2:=U2.size;(try simp at Z2);(try rw [Nat.add_one_le_iff] at Z2));have htb2:=Nat.lt_of_lt_of_le htb1 U2.size;have hgl2:=Nat.lt_of_lt_of_le hgl1 U2.size)|((go_at_call 94;(with_reducible refine (cX _).mono ?_);rintro e w3 ⟨rfl,U3⟩;have B3:=bcell U3;have Z3:=U3.size;(try simp at Z3);(try rw [Nat.add_one_le_iff] at Z3));have htb3:=Nat.lt_of_lt_of_le htb2 U3.size;have hgl3:=Nat.lt_of_lt_of_le hgl2 U3.size))
   refine wp_region_upR 18 (by kernel_rfl) (by kernel_rfl) ?_
   simp only [List.take,List.drop]
   repeat (refine wpUp_step (fun K hK=>?_);go_simp;(try simp only [↓IntWalk.iteOmega]);first
    |(refine hK _ _ ?_;clear hK K)
    |(apply stepU_c
      ·intro wq hwq;(have hbq:=bcell hwq;(repeat (first|refine fills_no (by rfl) ?_|refine fills_yes (by rfl) (fun vq hvq=>?_)));simp only [List.filter_nil,fills];unfold upAt;go_simp;(try go_bits);(try simp only [↓IntWalk.iteOmega]);first|exact upOut_value|(apply upOut_call;(go_at_call 93;exact cN _ ((((H.out.up U1).up U2).up U3).up hwq))))
      go_simp;refine hK _ _ ?_;clear hK K))
   refine wpUp_nil (fun wq hwq=>?_)
   simp only [fills]
   have hT:=(((H.out.up U1).up U2).up U3).up hwq
   have hUq:Up w wq:=((U1.trans U2).trans U3).trans hwq
   go_wp2_with fail
   with_reducible refine (cL _ hT).mono ?_
   rintro e w5 ⟨⟨v,rfl⟩,hP⟩
   have hP2:=hP.last (k':=⟨k.set,k.ps++ [⟨k.last,fx⟩],k.base,x⟩) x rfl rfl rfl rfl
   obtain ⟨vp',vn',vi',hT2,-,-⟩:=hP
   have htb5:=hT2.lt
   obtain ⟨e0,e1,e2,e3,e4,e5,e6,e7⟩:=hT2.cells
   have hfr5:=box_free hT2.box
   have HP:=Lib.hid (hP2.pre hUq)
   clear hT2 hP2 B1 B2 B3 hT hUq hwq
   go_wp2
   go_end0
   exact ⟨⟨_,rfl⟩,HP.out⟩
end Go.Proofs.YtekogcjdaolcbaaGreatDoor
/- Walk of the program's newTree. Conditions: what is known is valid and can be read. -/
namespace Go.Proofs.YtekogcjdaolcbaaGreatDoor
open Go Go.RowKit
def litC1 (i:Nat):List Value:= [.int .i64 (-1),.int .i64 (-1),.int .i64 (-1),.int .u8 i,.int .u8 i,.int .i64 i]
def litC (b:Nat):List Value:=(List.range b).flatMap litC1
theorem litC_succ (b:Nat):litC (b+1)=litC b++litC1 b:=by simp [litC,List.range_succ]
theorem litC_one (b:Nat): ∀ u∈litC1 b,u.oneCell'=true:=by
 intro u hu
 simp only [litC1,List.mem_cons,List.not_mem_nil,or_false] at hu
 rcases hu with rfl|rfl|rfl|rfl|rfl|rfl <;> rfl
theorem litC_all (c:Nat):litC c=cellsN (litsN c):=by
 unfold litC cellsN
 rw [litsN_length]
 rw [List.flatMap_def,List.flatMap_def]
 congr 1
 apply List.map_congr_left
 intro i hi
 have hi:=List.mem_range.1 hi
 have h1:lastCh (litsN c) i c= -1:=by
  rcases lastCh_cases (litsN c) i c with ⟨h,_⟩|⟨j,hj,_,h3,_⟩
  ·exact h
  ·rw [litsN_at hj] at h3;simp only [] at h3;omega
 unfold nodC
 rw [litsN_at hi,h1]
 rfl
theorem TreeAt.not_own {lo tb:Nat} {k:KnD} {vp vn vi:Value} {w:World} (h:TreeAt lo tb k vp vn vi w) {b:Nat} {cs:Array Value} {T:TypeId} (hb:w.heap[b]? =some (.cells cs T)) (h1:T≠81) (h2:T≠133) (h3:T≠125) (h4:T≠3): ¬ Own tb vp vn vi b:=by
 rintro (rfl|e|e|e)
 ·have:=h.box
  unfold TrBox at this
  rw [hb] at this
  cases this
  exact h1 rfl
 ·exact box_ne hb h.prs h2 e.symm
 ·exact box_ne hb h.nod h3 e.symm
 ·exact box_ne hb h.idx h4 e.symm
def KnD.upto (k:KnD) (j:Nat):KnD:=⟨k.set,k.ps.take j,k.base,k.last⟩
theorem KnD.upto_tr {k:KnD} (h:k.Tr) (j:Nat):(k.upto j).Tr:=by
 refine ⟨h.set,h.ps.take _,?_⟩
 have:=h.len
 show (k.ps.take j).length+k.c+1≤lastC k.set
 rw [List.length_take];omega
theorem KnD.upto_add {k:KnD} {j:Nat} (h:j<k.ps.length):(k.upto j).add k.ps[j]=k.upto (j+1):=by
 unfold KnD.upto KnD.add
 rw [List.take_succ_eq_append_getElem h]
theorem KnD.upto_all (k:KnD):k.upto k.ps.length=k:=by unfold KnD.upto;rw [List.take_length]
structure Nt1 (k:KnD) (v:Value) (w:World) (b:Nat) (vn:Value) (wr:World):Prop where
 le:b≤clr k.set
 kn:KnAt w.heap.size k v wr
 box:TrBox (w.heap.size+1) k (.slice none 0 0) vn (.slice none 0 0) wr
 row:wr.ownsRow w.heap.size 125 6 vn b (litC b)
 up:Up w wr
def RelNt1 (k:KnD) (v:Value) (w:World) (i:Value) (wr:World):Prop:= ∃ (b:Nat) (vn:Value),i= .int .i64 b∧Nt1 k v w b vn wr
structure Nt2 (k:KnD) (v:Value) (w:World) (j:Nat) (vp vn vi:Value) (wr:World):Prop where
 le:j≤k.ps.length
 kn:KnAt w.heap.size k v wr
 tree:TreeAt w.heap.size (w.heap.size+1) (k.upto j) vp vn vi wr
 up:Up w wr
def RelNt2 (k:KnD) (v:Value) (w:World) (i:Value) (wr:World):Prop:= ∃ (j:Nat) (vp vn vi:Value),i= .int .i64 j∧Nt2 k v w j vp vn vi wr
def NewTree (k:KnD) (w:World) (e:Ending) (w':World):Prop:= ∃ tb vp vn vi,e= .returned (.pointer (some ⟨tb,0,none⟩))∧TreeAt w.heap.size tb k vp vn vi w'∧Up w w'
set_option maxRecDepth 100000 in
set_option maxHeartbeats 8000000 in
theorem newTree_any (k:KnD) (v:Value) (lo:Nat) (w:World) (hk:k.Ok) (hr:RdP lo w v k.ps) :
  Calls Tryz.prog 90  #[kV k v] w (NewTree k w):=by
 obtain ⟨iN,hiN,hzN0,hzN1,hzN2⟩:=info_parts infoNode
 have hkt:=hk.tr
 have cK:=fun w=>clearI_any k.set w hk.set
 obtain ⟨hb2,hb3,hb4⟩:=clr_le hk.set
 have ec:k.c=clr k.set:=rfl
 have hpl:=hk.len
 have hrt:=fun (wq:World) (hu:Up w wq)=>hr.up hu
 obtain ⟨a,cap,rfl,hc1,hc2,hc3,hsome⟩:=hr
 unfold maxLen at hc2
 simp only [kV]
 go_enter Tryz.func90,Tryz.ntmps90
 go_wp2_with (first|(go_at_call 40;(with_reducible refine (cK _).mono ?_);rintro e w1 ⟨rfl,U1⟩;have B1:=bcell U1;have Z1:=U1.size;(try simp at Z1);(try rw [Nat.add_one_le_iff] at Z1))|fail)
 have hkn:KnAt w.heap.size k (.slice a k.ps.length cap) w1:=box_up U1 (box_up ((Up.refl _).alloc _) (MapKept.heap_alloc w _).1)
 have hbx:TrBox (w.heap.size+1) k (.slice none 0 0) (.slice none 0 0) (.slice none 0 0) w1:=box_up U1 (alloc2 w _ _)
 have hU1:Up w w1:=by (repeat (first|with_reducible exact Up.refl _|with_reducible assumption|with_reducible refine Up.set ?_ (by first|exact Nat.le_refl _|(simp only [];omega)|(simp;omega)) _|with_reducible refine Up.alloc ?_ _|refine Up.trans ?_ (by with_reducible assumption)))
 clear U1 B1
 go_loopw [17] (fun i wr=>RelNt1 k (.slice a k.ps.length cap) w i wr) (fun i _=>clr k.set - (intOf i).toNat)
 case atStart=>exact ⟨0,.slice none 0 0,rfl,Nat.zero_le _,hkn,hbx,World.ownsRow_nil _ _ _ _,hU1⟩
 case round =>
  clear hkn hbx hU1
  obtain ⟨b,vn,rfl,hN⟩:=hrel
  obtain ⟨hble,hkn,hbx,hrow,hup⟩:=hN
  obtain ⟨an,cn,rfl⟩:=ownsRow_shape hrow
  have hfr:=box_free hbx
  have hfk:=box_free hkn
  have htb:=(Array.getElem?_eq_some_iff.1 hbx).1
  obtain ⟨k0,q0,q1,q2,q3,q4,q5⟩:=hkn.cells
  have hne1: ¬ w.heap.size=w.heap.size+1:=by omega
  have hsz:=hup.size
  by_cases hlt:b<clr k.set
  ·have hbm:(b:Int) % 256=b:=by omega
   have hb255:(b:Int)≤255:=by omega
   obtain ⟨c0,c1,c2,c3,c4,c5,c6,c7⟩:=TrBox.cells hbx
   have hneB:some (w.heap.size+1)≠Value.ownBlock (.slice an b cn):=box_ne hbx hrow (by decide)
   have hneK:some w.heap.size≠Value.ownBlock (.slice an b cn):=box_ne hkn hrow (by decide)
   have HN:=Lib.hid (And.intro hbx (And.intro hkn (And.intro hrow (And.intro hneB hneK))))
   clear hbx hkn hneB hneK
   go_wp2_with (at_builtin;refine wpList_append_own _ rfl _ _ 78 rfl w.heap.size 125 iN (.agg #[.int .i64 0,.int .i64 0,.int .i64 0,.int .u8 0,.int .u8 0,.int .i64 0]) 6 40 Tryz.underlying78 hiN hzN0 hzN1 hzN2 rfl (by decide) _ _ _ rfl (hrow.alloc _) ⟨wr.heap.size,0,none⟩ 1 1 (litC1 b) rfl rfl (new_cells (litC1 b) _ rfl) (litC_one b) (by unfold maxLen;omega) (by omega) (by simp;omega) ?_;rintro v2 w2 hown2 hgr2 -;obtain ⟨a2,cc2,rfl⟩:=ownsRow_shape hown2;obtain ⟨c0,c1,c2,c3,c4,c5,c6,c7⟩:=TrBox.cells (gbox hgr2 (box_up ((Up.refl _).alloc _) HN.out.1) HN.out.2.2.2.1);have hfr:=box_free (gbox hgr2 (box_up ((Up.refl _).alloc _) HN.out.1) HN.out.2.2.2.1);have HO:=Lib.hid (And.intro hown2 hgr2);clear hown2 hgr2)
   go_roundw
   case rel =>
    obtain ⟨hown2,hgr2⟩:=HO.out
    have hb2':TrBox (w.heap.size+1) k (.slice none 0 0) (.slice an b cn) (.slice none 0 0) w2:=gbox hgr2 (box_up ((Up.refl _).alloc _) HN.out.1) HN.out.2.2.2.1
    refine ⟨b+1,.slice a2 (b+1) cc2,by go_num,by omega,?_,box_set hb2' 6 _,?_,?_⟩
    ·exact box_oth (gbox hgr2 (box_up ((Up.refl _).alloc _) HN.out.2.1) HN.out.2.2.2.2) (p:=⟨w.heap.size+1,6,none⟩) hne1 _
    ·rw [litC_succ];exact ownsRow_setb hown2 (box_ne hb2' hown2 (by decide)) 6 _
    ·exact ((hup.alloc _).grown hgr2 (fun x hx=>(HN.out.2.2.1.lt x hx).1)).set (p:=⟨w.heap.size+1,6,none⟩) (Nat.le_succ _) _
   case measure=>simp [intOf];omega
  ·have e:b=clr k.set:=by omega
   have hrow':wr.ownsRow w.heap.size 125 6 (.slice an b cn) (k.upto 0).tree.ns.length (cellsN (k.upto 0).tree.ns):=by
    have e2:(k.upto 0).tree=⟨litsN (clr k.set),[]⟩:=rfl
    rw [e2]
    show wr.ownsRow _ _ _ _ (litsN (clr k.set)).length _
    rw [litsN_length,←litC_all,←e]
    exact hrow
   have hT0:TreeAt w.heap.size (w.heap.size+1) (k.upto 0) (.slice none 0 0) (.slice an b cn) (.slice none 0 0) wr:=⟨hbx,Nat.le_succ _,World.ownsRow_nil _ _ _ _,hrow',World.ownsRow_nil _ _ _ _⟩
   have HK:=Lib.hid (And.intro hkn (And.intro hT0 hup))
   clear e hrow hrow' hbx hT0 hkn
   go_wp2
   go_loopw [39] (fun i wr=>RelNt2 k (.slice a k.ps.length cap) w i wr) (fun i _=>k.ps.length - (intOf i).toNat)
   case atStart=>exact ⟨0,_,_,_,rfl,Nat.zero_le _,HK.out.1,HK.out.2.1,HK.out.2.2⟩
   case round =>
    clear HK hup hfr hfk htb k0 q0 q1 q2 q3 q4 q5 hne1 hsz
    obtain ⟨j,vp,vn,vi,rfl,hN⟩:=hrel
    obtain ⟨hjl,hkn,hT,hup⟩:=hN
    by_cases hlt:j<k.ps.length
    ·obtain ⟨hpo,hpb0,hpb1⟩:=hk.ps.get hlt
     obtain ⟨bb,off,rfl,hlo,hbl,hcells⟩:=hsome (by omega)
     obtain ⟨q0,q1⟩:=hcells j k.ps[j] (List.getElem?_eq_getElem hlt)
     have r0:=(hup.cell (p:=⟨bb,off+j * 2,none⟩) hbl).trans q0
     have r1:=(hup.cell (p:=⟨bb,off+j * 2+1,none⟩) hbl).trans q1
     have hut:(k.upto j).ps.length=j:=by unfold KnD.upto;simp only [List.length_take];omega
     have cL:=fun wq hT=>learnT_any w.heap.size (w.heap.size+1) (k.upto j) vp vn vi k.ps[j] wq hT (KnD.upto_tr hkt j) (by rw [hut];exact hpo) hpb0 hpb1 (by unfold KnD.next;rw [hut];show k.c+2+j≤lastC k.set;omega)
     have hadd:=KnD.upto_add hlt
     have HT:=Lib.hid (And.intro hkn (And.intro hT hup))
     have HADD:=Lib.hid hadd
     clear hcells q0 q1 hkn hT hut hadd
     have hbl2:=Nat.lt_of_lt_of_le hbl hup.size
     go_wp2_with fail
     with_reducible refine (cL _ (HT.out.2.1.up (Up.alloc (Up.refl _) _))).mono ?_
     rintro e w2 ⟨⟨vv,rfl⟩,hP⟩
     go_wp2
     go_roundw
     case rel =>
      obtain ⟨hkn,hT,hup⟩:=HT.out
      obtain ⟨vp',vn',vi',hT',hfr',hO'⟩:=hP
      rw [HADD.out] at hT'
      have hTa:=hT.up (Up.alloc (Up.refl wr) (.cells #[.int .i64 k.ps[j].pre,.int .i64 k.ps[j].byt] 133))
      have hkna:=box_up (Up.alloc (Up.refl wr) (.cells #[.int .i64 k.ps[j].pre,.int .i64 k.ps[j].byt] 133)) hkn
      exact ⟨j+1,vp',vn',vi',by go_num,by omega,hfr'.box hkna (hTa.not_own hkna (by decide) (by decide) (by decide) (by decide)),hT',Fr.upto (hup.alloc _) hfr' (fun b hb=>(hTa.own_lo b hb).1)⟩
     case measure=>simp [intOf];omega
    ·have e:j=k.ps.length:=by omega
     rw [e,KnD.upto_all] at hT
     have HT:=Lib.hid (And.intro hT hup)
     clear hkn hT
     go_wp2
     go_ret
     exact ⟨_,vp,vn,vi,rfl,HT.out.1,HT.out.2⟩
end Go.Proofs.YtekogcjdaolcbaaGreatDoor
/- Walk of the program's longest, which finds the longest word with which data begins. Conditions: the tree lies in memory, what is known is valid, the data are literals. -/
namespace Go.Proofs.YtekogcjdaolcbaaGreatDoor
open Go Go.RowKit
structure LgAt (k:KnD) (d:List UInt8) (n size:Nat):Prop where
 lt:n<k.tree.ns.length
 pos:1≤size
 le:size≤d.length
 word:k.word (nodAt k.tree.ns n).cod=d.take size
def RelLg (k:KnD) (d:List UInt8) (w:World) (x s c:Value) (wr:World):Prop:= ∃ n size:Nat,x= .int .i64 n∧s= .int .i64 size∧LgAt k d n size∧w=wr
theorem LgAt.start {k:KnD} (hk:k.Ok) {d:List UInt8} (hd:d≠ []) (hl: ∀ b∈d,b.toNat<k.c):LgAt k d (d.getD 0 0).toNat 1:=by
 cases d with
 |nil=>exact absurd rfl hd
 |cons b l =>
  have hb:=hl b (List.mem_cons_self ..)
  have hT:=hk.tree
  have hlo:=hT.lo
  simp only [List.getD_cons_zero]
  refine ⟨by omega,Nat.le_refl _,by simp,?_⟩
  rw [hT.lit _ hb]
  show wordP k.c k.ps (b.toNat:Int)=_
  rw [wordP_lit (by omega),ub_self]
  simp
theorem LgAt.step {k:KnD} (hk:k.Ok) {d:List UInt8} {n size j:Nat} (h:LgAt k d n size) (hs:size<d.length) (hj:findCh k.tree.ns n ((d[size]'hs).toNat:Int) k.tree.ns.length=j):LgAt k d j (size+1):=by
 have hT:=hk.tree
 rcases findCh_cases k.tree.ns n ((d[size]'hs).toNat:Int) k.tree.ns.length with ⟨h1,_⟩|⟨i,h1,h2,h3,h4⟩
 ·omega
 ·have e:i=j:=by omega
  subst e
  have hc:k.c≤i:=by
   rcases Nat.lt_or_ge i k.c with hl|hl
   ·rw [hT.lit i hl] at h3;simp only [] at h3;omega
   ·exact hl
  have hw:=hT.word i hc h1
  rw [h3,Int.toNat_natCast,h4,ub_self] at hw
  refine ⟨h1,by omega,hs,?_⟩
  show wordP k.c k.ps (nodAt k.tree.ns i).cod=_
  rw [hw,List.take_succ_eq_append_getElem hs]
  have:=h.word
  unfold KnD.word at this
  rw [this]
set_option maxRecDepth 100000 in
set_option maxHeartbeats 8000000 in
theorem longest_any (lo tb:Nat) (k:KnD) (vp vn vi:Value) (s:ByteArray) (w:World) (h:TreeAt lo tb k vp vn vi w) (hk:k.Ok) (hs:0<s.size) (hs2:s.size≤1073741824) (hl: ∀ b∈s.data.toList,b.toNat<k.c) :
  Calls Tryz.prog 37  #[.pointer (some ⟨tb,0,none⟩),.string s] w (Same (.tuple #[.int .i64 (k.find (k.longest s.data.toList)),.int .i64 (k.longest s.data.toList).length]) w):=by
 have hkt:=hk.tr
 have cC:=fun n b hn=>child_any lo tb k vp vn vi n b w h hkt hn
 have hsl:=ba_len s
 have hd:s.data.toList≠ []:=fun e=>by rw [e] at hsl;simp at hsl;omega
 have hst:=LgAt.start hk hd hl
 have hu0:=u8_bd s[0]
 have e0:s.data.toList.getD 0 0=s[0]:=by
  rw [List.getD_eq_getElem?_getD,List.getElem?_eq_getElem (by omega)];rfl
 rw [e0] at hst
 have HL:=Lib.hid hl
 have hns:k.tree.ns.length≤2000:=by have:=hkt.tree.hi;have:=hkt.len;have:=hkt.c_bd;omega
 obtain ⟨X,hX⟩: ∃ X,X=k.find (k.longest s.data.toList):=⟨_,rfl⟩
 obtain ⟨Y,hY⟩: ∃ Y:Int,Y=(k.longest s.data.toList).length:=⟨_,rfl⟩
 rw [← hX,←hY]
 have HX:=Lib.hid hX
 have HY:=Lib.hid hY
 have hps:k.ps.length≤100000:=by have:=hkt.len;have:=hkt.c_bd;omega
 clear e0 hd hl hX hY
 go_enter Tryz.func37,Tryz.ntmps37
 go_wp2
 go_loopw [6,7,8] (fun x z c wr=>RelLg k s.data.toList w x z c wr) (fun _ z _ _=>s.size - (intOf z).toNat)
 case atStart=>exact ⟨s[0].toNat,1,rfl,rfl,hst,rfl⟩
 case round =>
  obtain ⟨n,size,rfl,rfl,hA,rfl⟩:=hrel
  have HA:=Lib.hid hA
  obtain ⟨h1,h2,h3,-⟩:=hA
  rw [hsl] at h3
  clear hst
  by_cases hlt:size<s.size
  ·have hb:=u8_bd s[size]
   have eb:s[size]=s.data.toList[size]'(by rw [hsl];exact hlt):=rfl
   have cCb:=cC n (s[size].toNat:Int) h1
   by_cases hf:findCh k.tree.ns n (s[size].toNat:Int) k.tree.ns.length<0
   ·skip
    obtain ⟨c0,c1,c2,c3,c4,c5,c6,c7⟩:=h.cells
    have hfr:=box_free h.box
    have htb:=h.lt
    obtain ⟨g,cap,nx,rfl,hg1,hg2,hg3,hg4,hg5,d0,d1,d2,d3,d4,d5⟩:=h.node1 hkt h1
    obtain ⟨ap,cp,rfl⟩:=h.shape
    unfold maxLen at hg2
    have cG:=fun w=>growI_any k.set k.base k.last ap k.ps.length cp w hk.set (by omega)
    have cX:=fun w=>nextI_any k.set k.base k.last ap k.ps.length cp w hk.set (by omega)
    rw [growN_eq] at cG
    have cN:=fun w hT hl=>nodeOf_any lo tb k (.slice ap k.ps.length cp) (.slice (some ⟨g,0,none⟩) k.tree.ns.length cap) vi k.last w hT hkt hl
    have H:=Lib.hid h
    have en:Hid (((clr k.set:Int)+2+k.ps.length)=(k.next:Nat)):=by unfold Hid KnD.next KnD.c;omega
    simp only [knV] at cG cX
    clear h
    have hm1:findCh k.tree.ns n (s[size].toNat:Int) k.tree.ns.length= -1:=by have:=findCh_bd k.tree.ns n (s[size].toNat:Int) k.tree.ns.length;omega
    have hgs:s.data.toList[size]? =some s[size]:=by rw [List.getElem?_eq_getElem (by rw [hsl];exact hlt)];rfl
    have hres:=KnD.deep_longest hk HL.out h1 h2 (by rw [hsl];omega) HA.out.word (.inr ⟨s[size],hgs,hm1⟩)
    rw [hm1] at cCb
    clear hf hm1 eb cC
    have hcf:=(hkt.tree.bytes n h1).2.2
    by_cases hg:k.grow=true
    ·rw [hg] at cG
     by_cases hno:n=nodeOf k.c k.tree k.last
     ·by_cases hfi:(s[size].toNat:Int)=(nodAt k.tree.ns n).fir
      ·rw [if_pos ⟨_,hgs,hg,hno,hfi⟩] at hres
       have hx:=HX.out.trans hres.1
       have hy:=HY.out.trans (congrArg Int.ofNat hres.2)
       rw [← hno] at cN
       rw [← hfi] at d4
       clear hres hgs hfi hno HX HY
       go_wp2_with (first|(go_at_call 91;(with_reducible refine cCb.mono ?_);rintro e w' ⟨rfl,rfl⟩)|fail)
       refine wp_region_up 36 (by kernel_rfl) (by kernel_rfl) ?_
       simp only [List.take,List.drop]
       repeat (refine wpUp_step (fun K hK=>?_);go_simp;(try simp only [↓IntWalk.iteOmega]);first
        |(refine hK _ _ ?_;clear hK K)
        |(apply stepU_c
          ·intro wq hwq;(have hbq:=bcell hwq;(repeat (first|refine fills_no (by rfl) ?_|refine fills_yes (by rfl) (fun vq hvq=>?_)));simp only [List.filter_nil,fills];unfold upAt;go_simp;(try go_bits);(try simp only [↓IntWalk.iteOmega]);first|exact upOut_value|(apply upOut_call;(go_at_call 92;exact cG _))|(apply upOut_call;(go_at_call 93;exact cN _ (H.out.up hwq) (hk.lastOk hg))))
          go_simp;refine hK _ _ ?_;clear hK K))
       refine wpUp_nil (fun wq hwq=>?_)
       simp only [fills]
       have BQ:=bcell hwq
       go_wp2_with (first|(go_at_call 94;(with_reducible refine (cX _).mono ?_);rintro e w9 ⟨rfl,U9⟩;have B9:=bcell U9;have Z9:=U9.size;(try simp at Z9);(try rw [Nat.add_one_le_iff] at Z9))|fail)
       go_ret2
       refine ⟨?_,by (repeat (first|with_reducible assumption|refine Up.trans ?_ (by with_reducible assumption)))⟩
       rw [hx,hy]
       rw [en.out];rfl
      ·rw [if_neg (fun ⟨b,hb1,_,_,hb2⟩=>hfi (by rw [hgs] at hb1;cases hb1;exact hb2))] at hres
       have hx:=HX.out.trans hres.1
       have hy:=HY.out.trans (congrArg Int.ofNat hres.2)
       rw [← hno] at cN
       clear hres hgs hno HX HY
       go_wp2_with (first|(go_at_call 91;(with_reducible refine cCb.mono ?_);rintro e w' ⟨rfl,rfl⟩)|fail)
       refine wp_region_up 36 (by kernel_rfl) (by kernel_rfl) ?_
       simp only [List.take,List.drop]
       repeat (refine wpUp_step (fun K hK=>?_);go_simp;(try simp only [↓IntWalk.iteOmega]);first
        |(refine hK _ _ ?_;clear hK K)
        |(apply stepU_c
          ·intro wq hwq;(have hbq:=bcell hwq;(repeat (first|refine fills_no (by rfl) ?_|refine fills_yes (by rfl) (fun vq hvq=>?_)));simp only [List.filter_nil,fills];unfold upAt;go_simp;(try go_bits);(try simp only [↓IntWalk.iteOmega]);first|exact upOut_value|(apply upOut_call;(go_at_call 92;exact cG _))|(apply upOut_call;(go_at_call 93;exact cN _ (H.out.up hwq) (hk.lastOk hg))))
          go_simp;refine hK _ _ ?_;clear hK K))
       refine wpUp_nil (fun wq hwq=>?_)
       simp only [fills]
       have BQ:=bcell hwq
       go_wp2
       go_ret2
       refine ⟨?_,by (repeat (first|with_reducible assumption|refine Up.trans ?_ (by with_reducible assumption)))⟩
       rw [hx,hy]
       rfl
     ·rw [if_neg (fun ⟨b,_,_,hb1,_⟩=>hno hb1)] at hres
      have hx:=HX.out.trans hres.1
      have hy:=HY.out.trans (congrArg Int.ofNat hres.2)
      have hno2: ¬ ((n:Nat):Int)=((nodeOf k.c k.tree k.last:Nat):Int):=by omega
      clear hres hgs HX HY
      go_wp2_with (first|(go_at_call 91;(with_reducible refine cCb.mono ?_);rintro e w' ⟨rfl,rfl⟩)|fail)
      refine wp_region_up 36 (by kernel_rfl) (by kernel_rfl) ?_
      simp only [List.take,List.drop]
      repeat (refine wpUp_step (fun K hK=>?_);go_simp;(try simp only [↓IntWalk.iteOmega]);first
       |(refine hK _ _ ?_;clear hK K)
       |(apply stepU_c
         ·intro wq hwq;(have hbq:=bcell hwq;(repeat (first|refine fills_no (by rfl) ?_|refine fills_yes (by rfl) (fun vq hvq=>?_)));simp only [List.filter_nil,fills];unfold upAt;go_simp;(try go_bits);(try simp only [↓IntWalk.iteOmega]);first|exact upOut_value|(apply upOut_call;(go_at_call 92;exact cG _))|(apply upOut_call;(go_at_call 93;exact cN _ (H.out.up hwq) (hk.lastOk hg))))
         go_simp;refine hK _ _ ?_;clear hK K))
      refine wpUp_nil (fun wq hwq=>?_)
      simp only [fills]
      have BQ:=bcell hwq
      go_wp2
      go_ret2
      refine ⟨?_,by (repeat (first|with_reducible assumption|refine Up.trans ?_ (by with_reducible assumption)))⟩
      rw [hx,hy]
      rfl
    ·rw [if_neg (fun ⟨b,_,hb1,_⟩=>hg hb1)] at hres
     have hx:=HX.out.trans hres.1
     have hy:=HY.out.trans (congrArg Int.ofNat hres.2)
     have hg2':k.grow=false:=by simpa using hg
     rw [hg2'] at cG
     clear hres hgs HX HY hg
     go_wp2_with (first|(go_at_call 91;(with_reducible refine cCb.mono ?_);rintro e w' ⟨rfl,rfl⟩)|fail)
     refine wp_region_up 36 (by kernel_rfl) (by kernel_rfl) ?_
     simp only [List.take,List.drop]
     repeat (refine wpUp_step (fun K hK=>?_);go_simp;(try simp only [↓IntWalk.iteOmega]);first
      |(refine hK _ _ ?_;clear hK K)
      |(apply stepU_c
        ·intro wq hwq;(have hbq:=bcell hwq;(repeat (first|refine fills_no (by rfl) ?_|refine fills_yes (by rfl) (fun vq hvq=>?_)));simp only [List.filter_nil,fills];unfold upAt;go_simp;(try go_bits);(try simp only [↓IntWalk.iteOmega]);first|exact upOut_value|(apply upOut_call;(go_at_call 92;exact cG _)))
        go_simp;refine hK _ _ ?_;clear hK K))
     refine wpUp_nil (fun wq hwq=>?_)
     simp only [fills]
     have BQ:=bcell hwq
     go_wp2
     go_ret2
     refine ⟨?_,by (repeat (first|with_reducible assumption|refine Up.trans ?_ (by with_reducible assumption)))⟩
     rw [hx,hy]
     rfl
   ·obtain ⟨j,hj⟩: ∃ j:Nat,findCh k.tree.ns n (s[size].toNat:Int) k.tree.ns.length=j:=⟨(findCh k.tree.ns n (s[size].toNat:Int) k.tree.ns.length).toNat,by omega⟩
    have HS:=Lib.hid (HA.out.step hk (by rw [hsl];exact hlt) (by rw [← eb];exact hj))
    rw [hj] at cCb
    clear hf hj eb
    go_wp2_with (go_at_call 91;(with_reducible refine cCb.mono ?_);rintro e w' ⟨rfl,rfl⟩)
    go_roundw
    case rel=>exact ⟨j,size+1,rfl,by go_num,HS.out,rfl⟩
    case measure=>simp [intOf];omega
  ·skip
   obtain ⟨c0,c1,c2,c3,c4,c5,c6,c7⟩:=h.cells
   have hfr:=box_free h.box
   have htb:=h.lt
   obtain ⟨g,cap,nx,rfl,hg1,hg2,hg3,hg4,hg5,d0,d1,d2,d3,d4,d5⟩:=h.node1 hkt h1
   obtain ⟨ap,cp,rfl⟩:=h.shape
   unfold maxLen at hg2
   have cG:=fun w=>growI_any k.set k.base k.last ap k.ps.length cp w hk.set (by omega)
   have cX:=fun w=>nextI_any k.set k.base k.last ap k.ps.length cp w hk.set (by omega)
   rw [growN_eq] at cG
   have cN:=fun w hT hl=>nodeOf_any lo tb k (.slice ap k.ps.length cp) (.slice (some ⟨g,0,none⟩) k.tree.ns.length cap) vi k.last w hT hkt hl
   have H:=Lib.hid h
   have en:Hid (((clr k.set:Int)+2+k.ps.length)=(k.next:Nat)):=by unfold Hid KnD.next KnD.c;omega
   simp only [knV] at cG cX
   clear h
   have hse:size=s.size:=by omega
   have hres:=KnD.deep_longest hk HL.out h1 h2 (by rw [hsl];omega) HA.out.word (.inl (by rw [hsl];exact hse))
   rw [if_neg (fun ⟨b,hb1,_⟩=>by have:=(List.getElem?_eq_some_iff.1 hb1).1;omega)] at hres
   have hx:=HX.out.trans hres.1
   have hy:=HY.out.trans (congrArg Int.ofNat hres.2)
   subst hse
   clear hres cC HX HY
   go_wp2
   refine wp_region_up 36 (by kernel_rfl) (by kernel_rfl) ?_
   simp only [List.take,List.drop]
   repeat (refine wpUp_step (fun K hK=>?_);go_simp;(try simp only [↓IntWalk.iteOmega]);first
    |(refine hK _ _ ?_;clear hK K)
    |(apply stepU_c
      ·intro wq hwq;(have hbq:=bcell hwq;(repeat (first|refine fills_no (by rfl) ?_|refine fills_yes (by rfl) (fun vq hvq=>?_)));simp only [List.filter_nil,fills];unfold upAt;go_simp;(try go_bits);(try simp only [↓IntWalk.iteOmega]);first|exact upOut_value)
      go_simp;refine hK _ _ ?_;clear hK K))
   refine wpUp_nil (fun wq hwq=>?_)
   simp only [fills]
   have BQ:=bcell hwq
   go_wp2
   go_ret2
   refine ⟨?_,by (repeat (first|with_reducible assumption|refine Up.trans ?_ (by with_reducible assumption)))⟩
   rw [hx,hy]
   rfl
end Go.Proofs.YtekogcjdaolcbaaGreatDoor
/- Walk of the program's greedy. Conditions: what is known is valid and can be read; the data fits. -/
namespace Go.Proofs.YtekogcjdaolcbaaGreatDoor
open Go Go.RowKit
theorem TreeAt.base {lo lo' tb:Nat} {k:KnD} {vp vn vi:Value} {w:World} (h:TreeAt lo tb k vp vn vi w) (hl:lo'≤lo):TreeAt lo' tb k vp vn vi w:=⟨h.box,Nat.le_trans hl h.low,ownsRow_base h.prs hl,ownsRow_base h.nod hl,ownsRow_base h.idx hl⟩
structure GiW (w:World) (tb:Nat) (k:KnD) (vp vn vi vc:Value) (acc:List Int) (wr:World):Prop where
 tree:TreeAt w.heap.size tb k vp vn vi wr
 own:ownI wr w.heap.size vc acc
 sep: ∀ b,vc.ownBlock=some b→ ¬ Own tb vp vn vi b
 up:Up w wr
structure GiD (T:List Int) (k0:KnD) (m:Nat) (k:KnD) (d:List UInt8) (acc:List Int):Prop where
 len:d.length≤m
 le:d.length≤2000
 sum:acc.length+2 * d.length≤4001
 tot:acc++(if k.full=true∧d≠ [] then (k.c:Int) :: greedyN m k.cleared d else greedyN m k d)=T
 ok:k.Ok
 set:k.set=k0.set
 lit: ∀ b∈d,b.toNat<k0.c
structure GiE (T:List Int) (k0:KnD) (m:Nat) (k:KnD) (d:List UInt8) (acc:List Int):Prop where
 len:d.length≤m
 le:d.length≤2000
 sum:acc.length+2 * d.length≤4002
 tot:acc++greedyN m k d=T
 ok:k.Ok
 set:k.set=k0.set
 lit: ∀ b∈d,b.toNat<k0.c
theorem c_of {k k0:KnD} (h:k.set=k0.set):k.c=k0.c:=by unfold KnD.c;rw [h]
end Go.Proofs.YtekogcjdaolcbaaGreatDoor
/- Walks of the program's learn, LearnKnown, StartWith. Conditions: what is known is valid and can be read. -/
namespace Go.Proofs.YtekogcjdaolcbaaGreatDoor
open Go Go.RowKit
structure LiD (T:KnD) (k0:KnD) (L:List UInt8) (m:Nat) (k:KnD) (n:Nat):Prop where
 len:L.length≤n+m
 le:n≤L.length
 tot:learnN m k (L.drop n)=T
 ok:k.Ok
 set:k.set=k0.set
structure LiW (w:World) (tb:Nat) (k:KnD) (vp vn vi:Value) (wr:World):Prop where
 tree:TreeAt (w.heap.size+2) tb k vp vn vi wr
 res:KnAt (w.heap.size+1) ⟨⟨0,0,0⟩,[],0,0⟩ (.slice none 0 0) wr
 up:Up w wr
end Go.Proofs.YtekogcjdaolcbaaGreatDoor

/- Texts joined into one: the walks and laws that the last text leans on. Conditions: as each says. -/
import Derived.Test.YtekogcjdaolcbaaGreatDoorMFnTravelLawN
import Derived.Test.YtekogcjdaolcbaaGreatDoorMFnTravelLawD
import Derived.Test.YtekogcjdaolcbaaGreatDoorMFnTravelLawE

set_option linter.unusedVariables false
set_option linter.unusedSimpArgs false
/- Walks of the reference's l3Put, l3Begin, l3Write. Conditions: what is known is valid, the pairs can be read, the code can be written. -/
namespace Go.Proofs.YtekogcjdaolcbaaGreatDoor
open Go Go.RowKit
def PutPost (y:WrD) (ps:List PairD) (v:Value) (w:World) (e:Ending) (w':World):Prop:= ∃ v',e= .returned (wrV y v')∧((v'=v∧y.k.ps=ps)∨ownPr w' w.heap.size v' y.k.ps)∧Up w w'
theorem put_rd {y:WrD} {ps:List PairD} {v v':Value} {lo:Nat} {w w':World} (h:(v'=v∧y.k.ps=ps)∨ownPr w' w.heap.size v' y.k.ps) (hr:RdP lo w v ps) (hu:Up w w'):RdP 0 w' v' y.k.ps:=by
 rcases h with ⟨rfl,e⟩|h
 ·rw [e];exact (hr.up hu).low (Nat.zero_le _)
 ·exact (RdP.of_own h).low (Nat.zero_le _)
def putW (x:WrD) (n:Nat):WrD:=⟨x.k.thru n,x.pend,x.bits++codeL x.k.set.ord n x.k.width,x.beg⟩
theorem wr_second (x:WrD) (v:Value) (w:World) (A B:Obj):WrAt (w.heap.size+1+1) x v (((w.alloc A).alloc B).alloc (.cells #[.int .i64 x.k.set.ord,.int .i64 x.k.set.lit,.int .i64 x.k.set.most,v,.int .i64 x.k.base,.int .i64 x.k.last,.string (bs x.pend),.string (bs x.bits),.bool x.beg] 29)):=alloc3c w _ _ _
set_option maxRecDepth 100000 in
set_option maxHeartbeats 8000000 in
theorem put_any (x:WrD) (v:Value) (lo:Nat) (n:Nat) (w:World) (hk:x.k.Ok) (hr:RdP lo w v x.k.ps) (hn:n≤1048576) (hb:x.bits.length≤900000) (hf:x.k.puts n) :
  Calls Tryz.prog 107  #[wrV x v,.int .i64 n] w (PutPost (putW x n) x.k.ps v w):=by
 have hrt:=fun (wq:World) (hu:Up w wq)=>hr.up hu
 have hwd:=KnD.width_bd hk
 have cW:=fun wq hr=>l2Width_any x.k v lo wq hk hr
 have cC:=fun wq=>l1Code_any x.k.set.ord n x.k.width wq hn (by omega)
 have cE:=fun wq=>l1End_any x.k.set wq hk.set
 have hcat:bs x.bits++bs (codeL x.k.set.ord n x.k.width)=bs (x.bits++codeL x.k.set.ord n x.k.width):=bs_app _ _
 have HR:=Lib.hid hr
 obtain ⟨a,cap,rfl,-,-,-,-⟩:=id hr
 have HF:=Lib.hid hf
 have HK:=Lib.hid hk
 have ec:x.k.c=clr x.k.set:=rfl
 have hs1:=bs_size x.bits
 have hs2:=bs_size (codeL x.k.set.ord n x.k.width)
 rw [codeL_length] at hs2
 unfold wrV
 simp only [kV] at *
 clear hr hf hk
 go_enter Tryz.func107,Tryz.ntmps107
 go_wp2
 have hX0:=wr_first x (.slice a x.k.ps.length cap) w (.cells #[.int .i64 0,.int .i64 0,.int .i64 0,.slice none 0 0,.int .i64 0,.int .i64 0,.string ⟨#[]⟩,.string ⟨#[]⟩,.bool false] 29) (.cells #[.int .i64 x.k.set.ord,.int .i64 x.k.set.lit,.int .i64 x.k.set.most,.slice a x.k.ps.length cap,.int .i64 x.k.base,.int .i64 x.k.last,.string (bs x.pend),.string (bs x.bits),.bool x.beg] 29)
 have hX1:=WrAt.zero (alloc3 w (.cells #[.int .i64 x.k.set.ord,.int .i64 x.k.set.lit,.int .i64 x.k.set.most,.slice a x.k.ps.length cap,.int .i64 x.k.base,.int .i64 x.k.last,.string (bs x.pend),.string (bs x.bits),.bool x.beg] 29) (.cells #[.int .i64 0,.int .i64 0,.int .i64 0,.slice none 0 0,.int .i64 0,.int .i64 0,.string ⟨#[]⟩,.string ⟨#[]⟩,.bool false] 29) (.cells #[.int .i64 x.k.set.ord,.int .i64 x.k.set.lit,.int .i64 x.k.set.most,.slice a x.k.ps.length cap,.int .i64 x.k.base,.int .i64 x.k.last,.string (bs x.pend),.string (bs x.bits),.bool x.beg] 29))
 have hX2:=wr_second x (.slice a x.k.ps.length cap) w (.cells #[.int .i64 x.k.set.ord,.int .i64 x.k.set.lit,.int .i64 x.k.set.most,.slice a x.k.ps.length cap,.int .i64 x.k.base,.int .i64 x.k.last,.string (bs x.pend),.string (bs x.bits),.bool x.beg] 29) (.cells #[.int .i64 0,.int .i64 0,.int .i64 0,.slice none 0 0,.int .i64 0,.int .i64 0,.string ⟨#[]⟩,.string ⟨#[]⟩,.bool false] 29)
 have hU1:Up w (((w.alloc (.cells #[.int .i64 x.k.set.ord,.int .i64 x.k.set.lit,.int .i64 x.k.set.most,.slice a x.k.ps.length cap,.int .i64 x.k.base,.int .i64 x.k.last,.string (bs x.pend),.string (bs x.bits),.bool x.beg] 29)).alloc (.cells #[.int .i64 0,.int .i64 0,.int .i64 0,.slice none 0 0,.int .i64 0,.int .i64 0,.string ⟨#[]⟩,.string ⟨#[]⟩,.bool false] 29)).alloc (.cells #[.int .i64 x.k.set.ord,.int .i64 x.k.set.lit,.int .i64 x.k.set.most,.slice a x.k.ps.length cap,.int .i64 x.k.base,.int .i64 x.k.last,.string (bs x.pend),.string (bs x.bits),.bool x.beg] 29)):=by (repeat (first|with_reducible exact Up.refl _|with_reducible assumption|with_reducible refine Up.set ?_ (by first|exact Nat.le_refl _|(simp only [];omega)|(simp;omega)) _|with_reducible refine Up.alloc ?_ _|refine Up.trans ?_ (by with_reducible assumption)))
 have hW3:w.heap.size+3≤(((w.alloc (.cells #[.int .i64 x.k.set.ord,.int .i64 x.k.set.lit,.int .i64 x.k.set.most,.slice a x.k.ps.length cap,.int .i64 x.k.base,.int .i64 x.k.last,.string (bs x.pend),.string (bs x.bits),.bool x.beg] 29)).alloc (.cells #[.int .i64 0,.int .i64 0,.int .i64 0,.slice none 0 0,.int .i64 0,.int .i64 0,.string ⟨#[]⟩,.string ⟨#[]⟩,.bool false] 29)).alloc (.cells #[.int .i64 x.k.set.ord,.int .i64 x.k.set.lit,.int .i64 x.k.set.most,.slice a x.k.ps.length cap,.int .i64 x.k.base,.int .i64 x.k.last,.string (bs x.pend),.string (bs x.bits),.bool x.beg] 29)).heap.size:=by simp
 generalize (((w.alloc (.cells #[.int .i64 x.k.set.ord,.int .i64 x.k.set.lit,.int .i64 x.k.set.most,.slice a x.k.ps.length cap,.int .i64 x.k.base,.int .i64 x.k.last,.string (bs x.pend),.string (bs x.bits),.bool x.beg] 29)).alloc (.cells #[.int .i64 0,.int .i64 0,.int .i64 0,.slice none 0 0,.int .i64 0,.int .i64 0,.string ⟨#[]⟩,.string ⟨#[]⟩,.bool false] 29)).alloc (.cells #[.int .i64 x.k.set.ord,.int .i64 x.k.set.lit,.int .i64 x.k.set.most,.slice a x.k.ps.length cap,.int .i64 x.k.base,.int .i64 x.k.last,.string (bs x.pend),.string (bs x.bits),.bool x.beg] 29))=W1 at *
 have HX:=Lib.hid (And.intro hX0 (And.intro hX1 (And.intro hX2 hU1)))
 clear hX0 hX1 hX2 hU1
 refine wp_region_up 12 (by kernel_rfl) (by kernel_rfl) ?_
 simp only [List.take,List.drop]
 repeat (refine wpUp_step (fun K hK=>?_);go_simp;(try simp only [↓IntWalk.iteOmega]);first
  |(refine hK _ _ ?_;clear hK K)
  |(apply stepU_c
    ·intro wq hwq;(have hbq:=bcell hwq;(repeat (first|refine fills_no (by rfl) ?_|refine fills_yes (by rfl) (fun vq hvq=>?_)));simp only [List.filter_nil,fills];unfold upAt;(try ((obtain ⟨-,r0,r1,r2,r3,r4,r5,r6,r7,r8⟩:=(HX.out.1.up hwq).cells)));go_simp;(try go_bits);(try simp only [↓IntWalk.iteOmega]);first|exact upOut_value|(apply upOut_call;(go_at_call 151;exact cW _ (hrt _ (HX.out.2.2.2.trans hwq))))|(apply upOut_call;(go_at_call 150;exact cC _)))
    go_simp;refine hK _ _ ?_;clear hK K))
 refine wpUp_nil (fun wq hwq=>?_)
 simp only [fills]
 have HQ:=Lib.hid (And.intro (HX.out.1.up hwq) (And.intro (HX.out.2.1.up hwq) (And.intro (HX.out.2.2.1.up hwq) (HX.out.2.2.2.trans hwq))))
 have hzq:=hwq.size
 clear hwq HX
 obtain ⟨hbx,r0,r1,r2,r3,r4,r5,r6,r7,r8⟩:=HQ.out.1.cells
 obtain ⟨hby,s0,s1,s2,s3,s4,s5,s6,s7,s8⟩:=HQ.out.2.2.1.cells
 have hfy:=box_free HQ.out.2.2.1
 obtain ⟨hbz,q0,q1,q2,q3,q4,q5,q6,q7,q8⟩:=HQ.out.2.1.cells
 simp only [wr0] at q0 q1 q2 q3 q4 q5 q6 q7 q8
 have hfz:=box_free HQ.out.2.1
 go_wp2_with fail
 have hyput: ∀ y,WrAt (w.heap.size+1+1) ⟨x.k,x.pend,x.bits++y,x.beg⟩ (.slice a x.k.ps.length cap) (wq.setCell ⟨w.heap.size+1+1,7,none⟩ (.string (bs (x.bits++y)))):=fun y=>by
  have:=box_set HQ.out.2.2.1 7 (.string (bs (x.bits++y)))
  unfold WrAt
  simpa using this
 have HY:=Lib.hid (hyput (codeL x.k.set.ord n x.k.width))
 have HZ:Hid (WrAt (w.heap.size+1) wr0 (.slice none 0 0) (wq.setCell ⟨w.heap.size+1+1,7,none⟩ (.string (bs (x.bits++codeL x.k.set.ord n x.k.width))))):=(Below.heap_setCell _ _ _ _ (show w.heap.size+1≠w.heap.size+1+1 by omega)).trans HQ.out.2.1
 have HX:Hid (WrAt w.heap.size x (.slice a x.k.ps.length cap) (wq.setCell ⟨w.heap.size+1+1,7,none⟩ (.string (bs (x.bits++codeL x.k.set.ord n x.k.width))))):=(Below.heap_setCell _ _ _ _ (show w.heap.size≠w.heap.size+1+1 by omega)).trans HQ.out.1
 have HUW:Hid (Up w (wq.setCell ⟨w.heap.size+1+1,7,none⟩ (.string (bs (x.bits++codeL x.k.set.ord n x.k.width))))):=HQ.out.2.2.2.set (p:=⟨w.heap.size+1+1,7,none⟩) (by show w.heap.size≤w.heap.size+1+1;omega) _
 have hz9:wq.heap.size≤(wq.setCell ⟨w.heap.size+1+1,7,none⟩ (.string (bs (x.bits++codeL x.k.set.ord n x.k.width)))).heap.size:=by simp [World.setCell]
 have hfin: ∀ kk,kk=x.k.thru n→putW x n=⟨kk,x.pend,x.bits++codeL x.k.set.ord n x.k.width,x.beg⟩:=fun kk e=>by unfold putW;rw [e]
 have HFIN:=Lib.hid hfin
 clear hyput hcat hfin cC cW
 generalize x.bits++codeL x.k.set.ord n x.k.width=b9 at *
 clear r0 r1 r2 r3 r4 r5 r6 r7 r8 q0 q1 q2 q3 q4 q5 q6 q7 q8 s0 s1 s2 s3 s4 s5 s6 s7 s8 hfy hfz HQ
 generalize wq.setCell ⟨w.heap.size+1+1,7,none⟩ (.string (bs b9))=W2 at *
 have hl2:w.heap.size+3≤W2.heap.size:=by omega
 obtain ⟨hbx,r0,r1,r2,r3,r4,r5,r6,r7,r8⟩:=HX.out.cells
 obtain ⟨hby,s0,s1,s2,s3,s4,s5,s6,s7,s8⟩:=HY.out.cells
 obtain ⟨hbz,q0,q1,q2,q3,q4,q5,q6,q7,q8⟩:=HZ.out.cells
 simp only [wr0] at q0 q1 q2 q3 q4 q5 q6 q7 q8
 have hfy:=box_free HY.out
 have hfz:=box_free HZ.out
 rcases HF.out with hx|hx
 ·have hth:Hid (x.k=x.k.thru n):=by unfold Hid KnD.thru;rw [if_pos hx]
  have hxe:((n:Int) != ((clr x.k.set:Nat):Int)+1)=false:=by rw [← ec];simpa using hx
  have HFI:=Lib.hid (HFIN.out x.k hth.out)
  clear hx HF hth HFIN
  with_reducible refine (cE _).mono ?_
  rintro e w3 ⟨rfl,U3⟩
  have B3:=bcell U3
  have hl3:=U3.size
  go_wp2_with fail
  have HU3:=Lib.hid (HUW.out.trans U3)
  obtain ⟨-,q0,q1,q2,q3,q4,q5,q6,q7,q8⟩:=(HZ.out.up U3).cells
  simp only [wr0] at q0 q1 q2 q3 q4 q5 q6 q7 q8
  refine bodyPost_ret (v:=wrV ⟨x.k,x.pend,b9,x.beg⟩ (.slice a x.k.ps.length cap)) (by simp [results,Tryz.results107,go_sem,q0,q1,q2,q3,q4,q5,q6,q7,q8];rfl) rfl ?_
  rw [HFI.out]
  exact ⟨_,rfl,.inl ⟨rfl,rfl⟩,WrW.up HU3.out (Nat.le_succ _) ⟨x.k,x.pend,b9,x.beg⟩ (.slice a x.k.ps.length cap)⟩
 ·have hnc:(n:Int)≠(x.k.c:Int)+1:=by rcases hx with hx|⟨_,hx,_⟩ <;> omega
  have hsf:(n:Int)≠(x.k.c:Int)→x.k.follows n=true:=fun h=>by rcases hx with hx|⟨_,_,hx⟩;exact absurd hx h;exact hx
  have hth:Hid (x.k.step n=x.k.thru n):=by
   unfold Hid KnD.step KnD.thru
   rw [if_neg hnc]
  have cS:=fun wq hr=>l2Step_any x.k (.slice a x.k.ps.length cap) lo n wq HK.out hr hsf
  have hst:(x.k.step n).set=x.k.set:=by unfold KnD.step;split <;> rfl
  have HST:=Lib.hid hst
  have HFI:=Lib.hid (HFIN.out (x.k.step n) hth.out)
  have hxe:((n:Int) != ((clr x.k.set:Nat):Int)+1)=true:=by rw [← ec];simpa using hnc
  clear hx HF hth HFIN hnc hsf hst
  generalize x.k.step n=kk at *
  simp only [kV] at cS
  with_reducible refine (cE _).mono ?_
  rintro e w3 ⟨rfl,U3⟩
  have B3:=bcell U3
  have hl3:=U3.size
  go_wp2_with (first|(go_at_call 152;(with_reducible refine (cS _ (hrt _ (HUW.out.trans U3))).mono ?_);rintro e w4 ⟨v4,rfl,ho4,U4⟩;obtain ⟨a4,c4,rfl⟩:=ownsRow_shape ho4;simp only [kV];obtain ⟨hbz,q0,q1,q2,q3,q4,q5,q6,q7,q8⟩:=((HZ.out.up U3).up U4).cells;simp only [wr0] at q0 q1 q2 q3 q4 q5 q6 q7 q8;have hfz:=box_free ((HZ.out.up U3).up U4);obtain ⟨hby,s0,s1,s2,s3,s4,s5,s6,s7,s8⟩:=((HY.out.up U3).up U4).cells;have hfy:=box_free ((HY.out.up U3).up U4);have HO:=Lib.hid ho4;have HU4:=Lib.hid ((HUW.out.trans U3).trans U4);clear ho4)|fail)
  refine bodyPost_ret (v:=wrV ⟨kk,x.pend,b9,x.beg⟩ (.slice a4 kk.ps.length c4)) (by simp [results,Tryz.results107,go_sem,q0,q1,q2,q3,q4,q5,q6,q7,q8];rfl) rfl ?_
  rw [HFI.out]
  have hlo:=fun b e=>(HO.out.lt b e).1
  refine ⟨_,rfl,.inr ?_,?_⟩
  ·exact WrW.own (b:=w.heap.size+1) (KnW.own (ownsRow_base HO.out (by omega)) (b:=w.heap.size+1+1) (fun e=>by have:=hlo _ e.symm;omega) kk _) (fun e=>by have:=hlo _ e.symm;omega) ⟨kk,x.pend,b9,x.beg⟩ _
  ·exact WrW.up (KnW.up HU4.out (show w.heap.size≤w.heap.size+1+1 by omega) kk _) (Nat.le_succ _) ⟨kk,x.pend,b9,x.beg⟩ _
def PutO (base:Nat) (y:WrD) (ps:List PairD) (v:Value) (u:Value) (w:World):Prop:= ∃ v',u=wrV y v'∧((v'=v∧y.k.ps=ps)∨ownPr w base v' y.k.ps)
theorem putO_closed (base:Nat) (y:WrD) (ps:List PairD) (v:Value): ∀ u,UpClosed (PutO base y ps v u):=fun u w w' ⟨v',h1,h2⟩ hu=>⟨v',h1,h2.imp id (fun h=>ownsRow_up h hu)⟩
theorem upOut_put {f:FuncId} {args:Array Value} {w:World} {y:WrD} {ps:List PairD} {v:Value} {base:Nat} (h:Calls Tryz.prog f args w (PutPost y ps v w)) (hb:base≤w.heap.size):upOut Tryz.prog (PutO base y ps v) w (.ok (.enter f args) w) :=
 ⟨rfl,h.mono fun e w' ⟨v',he,h2,hu⟩=>⟨_,he,hu,v',rfl,h2.imp id (fun h=>ownsRow_base h hb)⟩⟩
theorem put_shape {w:World} {base:Nat} {ps qs:List PairD} {a:Option Addr} {cap:Nat} {v':Value} (h:(v'= .slice a ps.length cap∧qs=ps)∨ownPr w base v' qs): ∃ a' c',v'= .slice a' qs.length c':=by
 rcases h with ⟨rfl,e⟩|h
 ·rw [e];exact ⟨_,_,rfl⟩
 ·exact ownsRow_shape h
def begW (x:WrD):WrD:=⟨x.open.2,x.pend,x.open.1,true⟩
set_option maxRecDepth 100000 in
set_option maxHeartbeats 8000000 in
theorem begin_any (x:WrD) (v:Value) (lo:Nat) (w:World) (hk:x.k.Ok) (hr:RdP lo w v x.k.ps) (hb:x.bits.length≤900000) :
  Calls Tryz.prog 105  #[wrV x v] w (PutPost (begW x) x.k.ps v w):=by
 have hrt:=fun (wq:World) (hu:Up w wq)=>hr.up hu
 have cK:=fun wq=>l1Clear_any x.k.set wq hk.set
 have hc:=(hk.nums)
 have cP:=fun wq hr=>put_any x v lo (clr x.k.set) wq hk hr (by omega) hb (.inr (.inl rfl))
 obtain ⟨a,cap,rfl,-,-,-,-⟩:=id hr
 have hpw:putW x (clr x.k.set)=⟨x.k.cleared,x.pend,x.bits++codeL x.k.set.ord x.k.c x.k.width,x.beg⟩:=by
  unfold putW
  rw [show ((clr x.k.set:Nat):Int)=(x.k.c:Int) from rfl,thru_clear]
  rfl
 rw [hpw] at cP
 have HK:=Lib.hid hk
 clear hpw hr hk
 obtain ⟨k,pend,bits,beg⟩:=x
 dsimp only at *
 cases beg
 ·have HO:Hid (begW ⟨k,pend,bits,false⟩=⟨k.cleared,pend,bits++codeL k.set.ord k.c k.width,true⟩):=rfl
  unfold wrV at *
  simp only [kV,setV] at *
  go_enter Tryz.func105,Tryz.ntmps105
  go_wp2_with fail
  have hX0:WrAt w.heap.size ⟨k,pend,bits,false⟩ (.slice a k.ps.length cap) ((w.alloc (.cells #[.int .i64 k.set.ord,.int .i64 k.set.lit,.int .i64 k.set.most,.slice a k.ps.length cap,.int .i64 k.base,.int .i64 k.last,.string (bs pend),.string (bs bits),.bool false] 29)).alloc (.cells #[.int .i64 0,.int .i64 0,.int .i64 0,.slice none 0 0,.int .i64 0,.int .i64 0,.string ⟨#[]⟩,.string ⟨#[]⟩,.bool false] 29)):=box_up ((Up.refl _).alloc _) (MapKept.heap_alloc w _).1
  have hX1:=WrAt.zero (alloc2 w (.cells #[.int .i64 k.set.ord,.int .i64 k.set.lit,.int .i64 k.set.most,.slice a k.ps.length cap,.int .i64 k.base,.int .i64 k.last,.string (bs pend),.string (bs bits),.bool false] 29) (.cells #[.int .i64 0,.int .i64 0,.int .i64 0,.slice none 0 0,.int .i64 0,.int .i64 0,.string ⟨#[]⟩,.string ⟨#[]⟩,.bool false] 29))
  have hU1:Up w ((w.alloc (.cells #[.int .i64 k.set.ord,.int .i64 k.set.lit,.int .i64 k.set.most,.slice a k.ps.length cap,.int .i64 k.base,.int .i64 k.last,.string (bs pend),.string (bs bits),.bool false] 29)).alloc (.cells #[.int .i64 0,.int .i64 0,.int .i64 0,.slice none 0 0,.int .i64 0,.int .i64 0,.string ⟨#[]⟩,.string ⟨#[]⟩,.bool false] 29)):=by (repeat (first|with_reducible exact Up.refl _|with_reducible assumption|with_reducible refine Up.set ?_ (by first|exact Nat.le_refl _|(simp only [];omega)|(simp;omega)) _|with_reducible refine Up.alloc ?_ _|refine Up.trans ?_ (by with_reducible assumption)))
  have hW2:w.heap.size+2≤((w.alloc (.cells #[.int .i64 k.set.ord,.int .i64 k.set.lit,.int .i64 k.set.most,.slice a k.ps.length cap,.int .i64 k.base,.int .i64 k.last,.string (bs pend),.string (bs bits),.bool false] 29)).alloc (.cells #[.int .i64 0,.int .i64 0,.int .i64 0,.slice none 0 0,.int .i64 0,.int .i64 0,.string ⟨#[]⟩,.string ⟨#[]⟩,.bool false] 29)).heap.size:=by simp
  generalize ((w.alloc (.cells #[.int .i64 k.set.ord,.int .i64 k.set.lit,.int .i64 k.set.most,.slice a k.ps.length cap,.int .i64 k.base,.int .i64 k.last,.string (bs pend),.string (bs bits),.bool false] 29)).alloc (.cells #[.int .i64 0,.int .i64 0,.int .i64 0,.slice none 0 0,.int .i64 0,.int .i64 0,.string ⟨#[]⟩,.string ⟨#[]⟩,.bool false] 29))=W1 at *
  have HX:=Lib.hid (And.intro hX0 (And.intro hX1 hU1))
  clear hX0 hX1 hU1
  refine wp_region_up 7 (by kernel_rfl) (by kernel_rfl) ?_
  simp only [List.take,List.drop]
  repeat (refine wpUp_step (fun K hK=>?_);go_simp;(try simp only [↓IntWalk.iteOmega]);first
   |(refine hK _ _ ?_;clear hK K)
   |(apply stepU_c
     ·intro wq hwq;(have hbq:=bcell hwq;(repeat (first|refine fills_no (by rfl) ?_|refine fills_yes (by rfl) (fun vq hvq=>?_)));simp only [List.filter_nil,fills];unfold upAt;(try ((obtain ⟨-,r0,r1,r2,r3,r4,r5,r6,r7,r8⟩:=(HX.out.1.up hwq).cells)));go_simp;(try go_bits);(try simp only [↓IntWalk.iteOmega]);first|exact upOut_value|(apply upOut_call;(go_at_call 86;exact cK _)))
     go_simp;refine hK _ _ ?_;clear hK K)
   |(refine stepU_m (by kernel_rfl) (PutO W1.heap.size ⟨k.cleared,pend,bits++codeL k.set.ord k.c k.width,false⟩ k.ps (.slice a k.ps.length cap)) (putO_closed _ _ _ _) (fun wq hwq=>?_) ?_
     ·(have hbq:=bcell hwq;(repeat (first|refine fills_no (by rfl) ?_|refine fills_yes (by rfl) (fun vq hvq=>?_)));simp only [List.filter_nil,fills];unfold upAt;(try ((obtain ⟨-,r0,r1,r2,r3,r4,r5,r6,r7,r8⟩:=(HX.out.1.up hwq).cells)));go_simp;(try go_bits);(try simp only [↓IntWalk.iteOmega]);((with_reducible refine upOut_put ?_ hwq.size);go_at_call 107;exact cP _ (hrt _ (HX.out.2.2.trans hwq))))
     refine hK _ _ ?_;clear hK K)
   |(refine stepU_m (by kernel_rfl) (Boxed W1.heap.size #[.int .i64 0,.int .i64 0,.int .i64 0,.slice none 0 0,.int .i64 0,.int .i64 0,.string ⟨#[]⟩,.string ⟨#[]⟩,.bool false] 29) (boxed_closed _ _ _) (fun wq hwq=>?_) ?_
     ·(have hbq:=bcell hwq;(repeat (first|refine fills_no (by rfl) ?_|refine fills_yes (by rfl) (fun vq hvq=>?_)));simp only [List.filter_nil,fills];unfold upAt;(try ((obtain ⟨-,r0,r1,r2,r3,r4,r5,r6,r7,r8⟩:=(HX.out.1.up hwq).cells)));go_simp;(try go_bits);(try simp only [↓IntWalk.iteOmega]);exact upOut_make ((Up.refl _).alloc _) (boxed_new hwq.size))
     refine hK _ _ ?_;clear hK K))
  refine wpUp_nil (fun wq hwq=>?_)
  simp only [fills]
  rintro v3 ⟨pb,rfl,hpb,hbox⟩ u ⟨v9,rfl,h9⟩
  generalize bits++codeL k.set.ord k.c k.width=b9 at *
  obtain ⟨a9,c9,rfl⟩:=put_shape h9
  dsimp only at h9
  have H9:=Lib.hid h9
  have HB:=Lib.hid hbox
  obtain ⟨hbz,q0,q1,q2,q3,q4,q5,q6,q7,q8⟩:=WrAt.cells (HX.out.2.1.up hwq)
  simp only [wr0] at q0 q1 q2 q3 q4 q5 q6 q7 q8
  have hfz:=box_free (HX.out.2.1.up hwq)
  obtain ⟨hby,s0,s1,s2,s3,s4,s5,s6,s7,s8⟩:=WrAt.cells (WrAt.zero hbox)
  simp only [wr0] at s0 s1 s2 s3 s4 s5 s6 s7 s8
  have hfy:=box_free hbox
  have HU:=Lib.hid (HX.out.2.2.trans hwq)
  have hn1: ¬ w.heap.size+1=pb:=by omega
  have hn2: ¬ pb=w.heap.size+1:=by omega
  have hkc:k.cleared.set=k.set:=rfl
  generalize k.cleared=kk at *
  clear h9 hbox hkc cP cK hrt
  have hY:WrAt pb ⟨kk,pend,b9,true⟩ (.slice a9 kk.ps.length c9) ((((((((((wq.setCell ⟨pb,0,none⟩ (.int .i64 kk.set.ord)).setCell ⟨pb,1,none⟩ (.int .i64 kk.set.lit)).setCell ⟨pb,2,none⟩ (.int .i64 kk.set.most)).setCell ⟨pb,3,none⟩ (.slice a9 kk.ps.length c9)).setCell ⟨pb,4,none⟩ (.int .i64 kk.base)).setCell ⟨pb,5,none⟩ (.int .i64 kk.last)).setCell ⟨pb,6,none⟩ (.string (bs pend))).setCell ⟨pb,7,none⟩ (.string (bs b9))).setCell ⟨pb,8,none⟩ (.bool false)).setCell ⟨pb,8,none⟩ (.bool true)):=by
   have h0:=WrAt.store (WrAt.zero HB.out) ⟨kk,pend,b9,false⟩ (.slice a9 kk.ps.length c9)
   unfold WrAt at h0
   have h1:=box_set h0 8 (.bool true)
   unfold WrAt
   simpa [WrW,KnW] using h1
  have hZ:WrAt (w.heap.size+1) wr0 (.slice none 0 0) ((((((((((wq.setCell ⟨pb,0,none⟩ (.int .i64 kk.set.ord)).setCell ⟨pb,1,none⟩ (.int .i64 kk.set.lit)).setCell ⟨pb,2,none⟩ (.int .i64 kk.set.most)).setCell ⟨pb,3,none⟩ (.slice a9 kk.ps.length c9)).setCell ⟨pb,4,none⟩ (.int .i64 kk.base)).setCell ⟨pb,5,none⟩ (.int .i64 kk.last)).setCell ⟨pb,6,none⟩ (.string (bs pend))).setCell ⟨pb,7,none⟩ (.string (bs b9))).setCell ⟨pb,8,none⟩ (.bool false)).setCell ⟨pb,8,none⟩ (.bool true)):=(Below.heap_setCell _ _ _ _ hn1).trans ((WrW.other hn1 ⟨kk,pend,b9,false⟩ (.slice a9 kk.ps.length c9)).trans (HX.out.2.1.up hwq))
  have hU5:Up w ((((((((((wq.setCell ⟨pb,0,none⟩ (.int .i64 kk.set.ord)).setCell ⟨pb,1,none⟩ (.int .i64 kk.set.lit)).setCell ⟨pb,2,none⟩ (.int .i64 kk.set.most)).setCell ⟨pb,3,none⟩ (.slice a9 kk.ps.length c9)).setCell ⟨pb,4,none⟩ (.int .i64 kk.base)).setCell ⟨pb,5,none⟩ (.int .i64 kk.last)).setCell ⟨pb,6,none⟩ (.string (bs pend))).setCell ⟨pb,7,none⟩ (.string (bs b9))).setCell ⟨pb,8,none⟩ (.bool false)).setCell ⟨pb,8,none⟩ (.bool true)):=by
   have hU:=HU.out
   (repeat (first|with_reducible exact Up.refl _|with_reducible assumption|with_reducible refine Up.set ?_ (by first|exact Nat.le_refl _|(simp only [];omega)|(simp;omega)) _|with_reducible refine Up.alloc ?_ _|refine Up.trans ?_ (by with_reducible assumption)))
  have hO5:(.slice a9 kk.ps.length c9=Value.slice a k.ps.length cap∧kk.ps=k.ps)∨ownPr ((((((((((wq.setCell ⟨pb,0,none⟩ (.int .i64 kk.set.ord)).setCell ⟨pb,1,none⟩ (.int .i64 kk.set.lit)).setCell ⟨pb,2,none⟩ (.int .i64 kk.set.most)).setCell ⟨pb,3,none⟩ (.slice a9 kk.ps.length c9)).setCell ⟨pb,4,none⟩ (.int .i64 kk.base)).setCell ⟨pb,5,none⟩ (.int .i64 kk.last)).setCell ⟨pb,6,none⟩ (.string (bs pend))).setCell ⟨pb,7,none⟩ (.string (bs b9))).setCell ⟨pb,8,none⟩ (.bool false)).setCell ⟨pb,8,none⟩ (.bool true)) W1.heap.size (.slice a9 kk.ps.length c9) kk.ps:=by
   refine H9.out.imp id (fun h=>?_)
   have hne1:some pb≠Value.ownBlock (.slice a9 kk.ps.length c9):=box_ne HB.out h (by decide)
   repeat (with_reducible refine ownsRow_setb ?_ hne1 _ _)
   exact h
  have HALL:=Lib.hid (And.intro hY (And.intro hZ (And.intro hU5 hO5)))
  clear hY hZ hU5 hO5 hwq HX
  unfold wrV
  go_simp
  iterate 17 go_step
  clear q0 q1 q2 q3 q4 q5 q6 q7 q8 s0 s1 s2 s3 s4 s5 s6 s7 s8 hfy hfz HU HB H9
  generalize ((((((((((wq.setCell ⟨pb,0,none⟩ (.int .i64 kk.set.ord)).setCell ⟨pb,1,none⟩ (.int .i64 kk.set.lit)).setCell ⟨pb,2,none⟩ (.int .i64 kk.set.most)).setCell ⟨pb,3,none⟩ (.slice a9 kk.ps.length c9)).setCell ⟨pb,4,none⟩ (.int .i64 kk.base)).setCell ⟨pb,5,none⟩ (.int .i64 kk.last)).setCell ⟨pb,6,none⟩ (.string (bs pend))).setCell ⟨pb,7,none⟩ (.string (bs b9))).setCell ⟨pb,8,none⟩ (.bool false)).setCell ⟨pb,8,none⟩ (.bool true))=W5 at HALL ⊢
  obtain ⟨hY,hZ,hU5,hO5⟩:=HALL.out
  obtain ⟨hby,s0,s1,s2,s3,s4,s5,s6,s7,s8⟩:=hY.cells
  obtain ⟨hbz,q0,q1,q2,q3,q4,q5,q6,q7,q8⟩:=hZ.cells
  simp only [wr0] at q0 q1 q2 q3 q4 q5 q6 q7 q8
  have hfz:=box_free hZ
  clear hY hZ hO5
  go_wp2_with fail
  refine bodyPost_ret (v:=wrV ⟨kk,pend,b9,true⟩ (.slice a9 kk.ps.length c9)) (by simp [results,Tryz.results105,go_sem,q0,q1,q2,q3,q4,q5,q6,q7,q8];rfl) rfl ?_
  rw [HO.out]
  refine ⟨.slice a9 kk.ps.length c9,rfl,?_,?_⟩
  ·refine HALL.out.2.2.2.imp id (fun h=>?_)
   have hne2:some (w.heap.size+1)≠Value.ownBlock (.slice a9 kk.ps.length c9):=fun e=>by have:=(h.lt _ e.symm).1;omega
   have h':=ownsRow_base (base':=w.heap.size) h (by omega)
   repeat (with_reducible refine ownsRow_setb ?_ hne2 _ _)
   exact h'
  ·(repeat (first|with_reducible exact Up.refl _|with_reducible assumption|with_reducible refine Up.set ?_ (by first|exact Nat.le_refl _|(simp only [];omega)|(simp;omega)) _|with_reducible refine Up.alloc ?_ _|refine Up.trans ?_ (by with_reducible assumption)))
 ·have HO:Hid (begW ⟨k,pend,bits,true⟩=⟨k,pend,bits,true⟩):=rfl
  unfold wrV at *
  clear cP cK
  simp only [kV,setV] at *
  go_enter Tryz.func105,Tryz.ntmps105
  go_wp2_with fail
  obtain ⟨-,q0,q1,q2,q3,q4,q5,q6,q7,q8⟩:=WrAt.cells (WrAt.zero (alloc2 w (.cells #[.int .i64 k.set.ord,.int .i64 k.set.lit,.int .i64 k.set.most,.slice a k.ps.length cap,.int .i64 k.base,.int .i64 k.last,.string (bs pend),.string (bs bits),.bool true] 29) (.cells #[.int .i64 0,.int .i64 0,.int .i64 0,.slice none 0 0,.int .i64 0,.int .i64 0,.string ⟨#[]⟩,.string ⟨#[]⟩,.bool false] 29)))
  simp only [wr0] at q0 q1 q2 q3 q4 q5 q6 q7 q8
  refine bodyPost_ret (v:=wrV ⟨k,pend,bits,true⟩ (.slice a k.ps.length cap)) (by simp [results,Tryz.results105,go_sem,q0,q1,q2,q3,q4,q5,q6,q7,q8];rfl) rfl ?_
  rw [HO.out]
  refine ⟨.slice a k.ps.length cap,rfl,.inl ⟨rfl,rfl⟩,?_⟩
  (repeat (first|with_reducible exact Up.refl _|with_reducible assumption|with_reducible refine Up.set ?_ (by first|exact Nat.le_refl _|(simp only [];omega)|(simp;omega)) _|with_reducible refine Up.alloc ?_ _|refine Up.trans ?_ (by with_reducible assumption)))
def plenC (b:Nat) (w:World):Nat:=match w.cell? ⟨b,6,none⟩ with
 |some (.string s)=>s.size
 |_=>0
theorem plenC_at {b:Nat} {x:WrD} {v:Value} {w:World} (h:WrAt b x v w):plenC b w=x.pend.length:=by
 obtain ⟨-,-,-,-,-,-,-,h6,-⟩:=h.cells
 unfold plenC
 rw [h6]
 exact bs_size _
theorem bs_ne {a b:List UInt8} (h:a≠b):((bs a).toList == (bs b).toList)=false:=by
 rw [Lib.toList_data,Lib.toList_data,bs_data,bs_data]
 simpa using h
structure LwAt (T:List UInt8 × KnD × List UInt8) (s:SetD) (v0:Value) (ps0:List PairD) (w:World) (ob m:Nat) (k:KnD) (d b:List UInt8) (v:Value) (wr:World):Prop where
 dat:WlD T s m k d b
 box:WrAt ob ⟨k,d,b,true⟩ v wr
 res:WrAt (w.heap.size+1) wr0 (.slice none 0 0) wr
 up:Up w wr
 pr:(v=v0∧k.ps=ps0)∨ownPr wr w.heap.size v k.ps
def RelLw (T:List UInt8 × KnD × List UInt8) (s:SetD) (v0:Value) (ps0:List PairD) (w:World) (ob:Nat) (wr:World):Prop:= ∃ m k d b v,LwAt T s v0 ps0 w ob m k d b v wr
theorem LwAt.rd {T:List UInt8 × KnD × List UInt8} {s:SetD} {v0 v:Value} {ps0:List PairD} {w wr:World} {ob m lo:Nat} {k:KnD} {d b:List UInt8} (h:LwAt T s v0 ps0 w ob m k d b v wr) (hr:RdP lo w v0 ps0):RdP 0 wr v k.ps:=by
 rcases h.pr with ⟨rfl,e⟩|h1
 ·rw [e];exact (hr.up h.up).low (Nat.zero_le _)
 ·exact (RdP.of_own h1).low (Nat.zero_le _)
set_option maxRecDepth 100000 in
set_option maxHeartbeats 16000000 in
theorem l3Write_any (x:WrD) (v:Value) (lo:Nat) (d:List UInt8) (w:World) (hx:wrOk x) (hd0:d≠ []) (hl: ∀ b∈d,b.toNat<clr x.k.set) (hn:(x.pend++d).length≤2000) (hr:RdP lo w v x.k.ps) :
  Calls Tryz.prog 46  #[wrV x v,.string (bs d)] w (PutPost ⟨(x.codes d).2.1,(x.codes d).2.2,x.all d,true⟩ x.k.ps v w):=by
 have HST:=Lib.hid (WlD.start hx hd0 hl hn)
 have hb7:=hx.2.2.2.2.2.1
 have cB:=fun wq hr=>begin_any x v lo wq hx.1 hr (by omega)
 have hrt:=fun (wq:World) (hu:Up w wq)=>hr.up hu
 have HR:=Lib.hid hr
 obtain ⟨T1,hT1⟩: ∃ T1,Hid (T1=x.all d):=⟨_,rfl⟩
 obtain ⟨T2,hT2⟩: ∃ T2,Hid (T2=x.codes d):=⟨_,rfl⟩
 rw [← hT1.out,←hT2.out] at HST ⊢
 have hcat:bs x.pend++bs d=bs (x.pend++d):=bs_app _ _
 have hsp:=bs_size x.pend
 have hsd:=bs_size d
 have hdl:d.length≤2000:=by rw [List.length_append] at hn;omega
 have hn2:x.pend.length+d.length≤2000:=by rw [List.length_append] at hn;omega
 have hbw:begW x=⟨x.open.2,x.pend,x.open.1,true⟩:=rfl
 rw [hbw] at cB
 obtain ⟨a,cap,rfl,-,-,-,-⟩:=id hr
 have hos:=Lib.hid (WrD.open_ok hx.1).2
 clear hx hr hT1 hT2 hl hbw
 generalize x.open.2=ko at *
 generalize x.open.1=bo at *
 unfold wrV at *
 go_enter Tryz.func46,Tryz.ntmps46
 go_wp2_with fail
 with_reducible refine (cB _ (hrt _ (by (repeat (first|with_reducible exact Up.refl _|with_reducible assumption|with_reducible refine Up.set ?_ (by first|exact Nat.le_refl _|(simp only [];omega)|(simp;omega)) _|with_reducible refine Up.alloc ?_ _|refine Up.trans ?_ (by with_reducible assumption)))))).mono ?_
 rintro e w2 ⟨v2,rfl,hp2,U2⟩
 obtain ⟨a2,c2,rfl⟩:=put_shape hp2
 dsimp only at hp2
 have hX2:WrAt w.heap.size x (.slice a x.k.ps.length cap) w2:=box_up U2 (box_up ((Up.refl _).alloc _) (MapKept.heap_alloc w _).1)
 have hZ2:=WrAt.zero (box_up U2 (alloc2 w _ _))
 have hU2:Up w w2:=by (repeat (first|with_reducible exact Up.refl _|with_reducible assumption|with_reducible refine Up.set ?_ (by first|exact Nat.le_refl _|(simp only [];omega)|(simp;omega)) _|with_reducible refine Up.alloc ?_ _|refine Up.trans ?_ (by with_reducible assumption)))
 have hl2:w.heap.size+2≤w2.heap.size:=by have:=U2.size;simp at this;exact this
 obtain ⟨hbx,r0,r1,r2,r3,r4,r5,r6,r7,r8⟩:=hX2.cells
 have HH:=Lib.hid (And.intro hX2 (And.intro hZ2 (And.intro hU2 hp2)))
 clear hX2 hZ2 hU2 hp2 U2 cB
 unfold wrV
 go_wp2_with fail
 have hA:WrAt w2.heap.size ⟨ko,x.pend++d,bo,true⟩ (.slice a2 ko.ps.length c2) (w2.alloc (.cells #[.int .i64 ko.set.ord,.int .i64 ko.set.lit,.int .i64 ko.set.most,.slice a2 ko.ps.length c2,.int .i64 ko.base,.int .i64 ko.last,.string (bs (x.pend++d)),.string (bs bo),.bool true] 29)):=(MapKept.heap_alloc w2 _).1
 have hL0:RelLw (T1,T2.2) x.k.set (.slice a x.k.ps.length cap) x.k.ps w w2.heap.size (w2.alloc (.cells #[.int .i64 ko.set.ord,.int .i64 ko.set.lit,.int .i64 ko.set.most,.slice a2 ko.ps.length c2,.int .i64 ko.base,.int .i64 ko.last,.string (bs (x.pend++d)),.string (bs bo),.bool true] 29)) :=
  ⟨_,ko,x.pend++d,bo,.slice a2 ko.ps.length c2,HST.out,hA,HH.out.2.1.up ((Up.refl _).alloc _),HH.out.2.2.1.alloc _,HH.out.2.2.2.imp id (fun h=>ownsRow_base (ownsRow_up h ((Up.refl _).alloc _)) (by simp;omega))⟩
 have HL0:=Lib.hid hL0
 clear hA hL0 HST HH r0 r1 r2 r3 r4 r5 r6 r7 r8
 go_loopw [6] (fun _ wr=>RelLw (T1,T2.2) x.k.set (.slice a x.k.ps.length cap) x.k.ps w w2.heap.size wr) (fun _ wr=>plenC w2.heap.size wr)
 case atStart=>exact HL0.out
 case round =>
  clear HL0 hcat hsp hsd hn hn2 hb7 hd0 hos
  obtain ⟨m,k,e,b,v1,hL⟩:=hrel
  have hok:=hL.dat.ok
  have HSET:=Lib.hid hL.dat.set
  have hne:=hL.dat.ne
  have hle2:=hL.dat.le
  have hsum:=hL.dat.sum
  have hpos:=List.length_pos_iff.2 hne
  have hse:=bs_size e
  have hpl:=hok.nums.2.2.2.1
  obtain ⟨a1,c1,rfl⟩:=put_shape hL.pr
  have hrd:=fun (wq:World) (hu:Up wr wq)=>(hL.rd HR.out).up hu
  have cL:=fun wq hr=>l2Longest_any k (.slice a1 k.ps.length c1) 0 (bs e) wq hok hr (by rw [bs_size];exact hpos) (by rw [bs_size];omega)
  rw [bs_data] at cL
  obtain ⟨hbx,r0,r1,r2,r3,r4,r5,r6,r7,r8⟩:=hL.box.cells
  obtain ⟨hbz,q0,q1,q2,q3,q4,q5,q6,q7,q8⟩:=hL.res.cells
  simp only [wr0] at q0 q1 q2 q3 q4 q5 q6 q7 q8
  have hszr:=hL.up.size
  have hfz:=box_free hL.res
  have hfx:=box_free hL.box
  simp only [kV] at cL
  have HM:=Lib.hid (plenC_at hL.box)
  by_cases hle:k.longest e=e
  ·have hT:=hL.dat.stop hle
   simp only [Prod.mk.injEq] at hT
   obtain ⟨hT1,hT2⟩:=hT
   have HT2:=Lib.hid (And.intro (show T2.2.1=k by rw [hT2]) (show T2.2.2=e by rw [hT2]))
   subst hT1
   rw [hle] at cL
   have HL:=Lib.hid hL
   clear hL hT2 hle hne hok HM
   go_wp2_with (first|((go_at_call 106;(with_reducible refine (cL _ (hrd _ (Up.refl _))).mono ?_);rintro e w4 ⟨rfl,U4⟩;have B4:=bcell U4;have Z4:=U4.size;(try simp at Z4);(try rw [Nat.add_one_le_iff] at Z4)))|fail)
   have HU4:=Lib.hid U4
   obtain ⟨-,q0,q1,q2,q3,q4,q5,q6,q7,q8⟩:=(HL.out.res.up U4).cells
   simp only [wr0] at q0 q1 q2 q3 q4 q5 q6 q7 q8
   refine bodyPost_ret (v:=wrV ⟨k,e,T1,true⟩ (.slice a1 k.ps.length c1)) (by simp [results,Tryz.results46,go_sem,q0,q1,q2,q3,q4,q5,q6,q7,q8];rfl) rfl ?_
   rw [HT2.out.1,HT2.out.2]
   refine ⟨.slice a1 k.ps.length c1,rfl,?_,?_⟩
   ·refine HL.out.pr.imp id (fun h=>?_)
    have hne2:some (w.heap.size+1)≠Value.ownBlock (.slice a1 k.ps.length c1):=box_ne HL.out.res h (by decide)
    have h':=ownsRow_up h HU4.out
    repeat (with_reducible refine ownsRow_setb ?_ hne2 _ _)
    exact h'
   ·have hU:=HL.out.up.trans HU4.out
    (repeat (first|with_reducible exact Up.refl _|with_reducible assumption|with_reducible refine Up.set ?_ (by first|exact Nat.le_refl _|(simp only [];omega)|(simp;omega)) _|with_reducible refine Up.alloc ?_ _|refine Up.trans ?_ (by with_reducible assumption)))
  ·have hne1:=bs_ne hle
   obtain ⟨⟨hfw,hxc,hxe,hlp,hlt⟩,hfull,hmore⟩:=hL.dat.step hle
   have hfb:=KnD.find_bd hok hfw
   have hc:=c_of HSET.out
   obtain ⟨n,hn⟩:=Int.eq_ofNat_of_zero_le hfb.1
   have hka:=KnD.after_ok hok hfw
   have hth:=KnD.thru_fol hok hfw
   have hwd:=KnD.width_bd hok
   obtain ⟨k9,hk9⟩: ∃ k9,Hid (k9=k.after (k.find (k.longest e))):=⟨_,rfl⟩
   rw [← hk9.out] at hfull hmore hka hth
   have cF:=fun wq hr=>l2Find_any k (.slice a1 k.ps.length c1) 0 (bs (k.longest e)) wq hok hr (by rw [bs_size];omega)
   rw [bs_data] at cF
   rw [hn] at hfull hmore hth hxc hxe hfw cF
   rw [Int.toNat_natCast] at hfull hmore
   have hs9:k9.set=x.k.set:=by rw [hk9.out];exact HSET.out
   have cP:=fun wq hr=>put_any ⟨k,e,b,true⟩ (.slice a1 k.ps.length c1) 0 n wq hok hr (by omega) (by show b.length≤900000;omega) (.inr (.inr ⟨hxc,hxe,hfw⟩))
   have hpw:putW ⟨k,e,b,true⟩ n=⟨k9,e,b++codeL x.k.set.ord n k.width,true⟩:=by
    unfold putW
    dsimp only
    rw [hth,HSET.out]
   rw [hpw] at cP
   have hbd:(bs e).extract (k.longest e).length e.length=bs (e.drop (k.longest e).length):=by rw [bs_ext];congr 1;exact List.take_of_length_le (by rw [List.length_drop];omega)
   have HBD:=Lib.hid hbd
   have hlen9:(b++codeL x.k.set.ord n k.width).length≤800000:=by rw [List.length_append,codeL_length];omega
   have HX9:=Lib.hid (And.intro hfull hmore)
   have HK9:=Lib.hid hka
   have HS9:=Lib.hid hs9
   have hdl9:(e.drop (k.longest e).length).length<e.length:=by rw [List.length_drop];omega
   have hlw:=bs_size (k.longest e)
   have HL:=Lib.hid hL
   clear hfull hmore hth hxc hxe hfw hn hk9 hbd hle hL hok hs9 hc hka hpw
   generalize b++codeL x.k.set.ord n k.width=b9 at *
   generalize e.drop (k.longest e).length=e9 at *
   generalize hwl:k.longest e=wl at *
   have HWL:=Lib.hid hwl
   clear hwl
   unfold wrV at cP
   go_wp2_with (first|((go_at_call 106;(with_reducible refine (cL _ (hrd _ (Up.refl _))).mono ?_);rintro e w4 ⟨rfl,U4⟩;have B4:=bcell U4;have Z4:=U4.size;(try simp at Z4);(try rw [Nat.add_one_le_iff] at Z4)))|fail)
   have HL4:=Lib.hid (And.intro (HL.out.box.up U4) (And.intro (HL.out.res.up U4) (HL.out.up.trans U4)))
   have HU4:=Lib.hid U4
   have hz4:=U4.size
   clear U4 B4 cL r0 r1 r2 r3 r4 r5 r6 r7 r8 q0 q1 q2 q3 q4 q5 q6 q7 q8 hfz hfx
   refine wp_region_up 6 (by kernel_rfl) (by kernel_rfl) ?_
   simp only [List.take,List.drop]
   repeat (refine wpUp_step (fun K hK=>?_);go_simp;(try simp only [↓IntWalk.iteOmega]);first
    |(refine hK _ _ ?_;clear hK K)
    |(apply stepU_c
      ·intro wq hwq;(have hbq:=bcell hwq;(repeat (first|refine fills_no (by rfl) ?_|refine fills_yes (by rfl) (fun vq hvq=>?_)));simp only [List.filter_nil,fills];unfold upAt;(try ((obtain ⟨-,r0,r1,r2,r3,r4,r5,r6,r7,r8⟩:=(HL4.out.1.up hwq).cells)));go_simp;(try go_bits);(try simp only [↓IntWalk.iteOmega]);first|exact upOut_value|(apply upOut_call;(go_at_call 102;exact cF _ (hrd _ (HU4.out.trans hwq)))))
      go_simp;refine hK _ _ ?_;clear hK K)
    |(refine stepU_m (by kernel_rfl) (PutO w4.heap.size ⟨k9,e,b9,true⟩ k.ps (.slice a1 k.ps.length c1)) (putO_closed _ _ _ _) (fun wq hwq=>?_) ?_
      ·(have hbq:=bcell hwq;(repeat (first|refine fills_no (by rfl) ?_|refine fills_yes (by rfl) (fun vq hvq=>?_)));simp only [List.filter_nil,fills];unfold upAt;(try ((obtain ⟨-,r0,r1,r2,r3,r4,r5,r6,r7,r8⟩:=(HL4.out.1.up hwq).cells)));go_simp;(try go_bits);(try simp only [↓IntWalk.iteOmega]);((with_reducible refine upOut_put ?_ hwq.size);go_at_call 107;exact cP _ (hrd _ (HU4.out.trans hwq))))
      refine hK _ _ ?_;clear hK K))
   refine wpUp_nil (fun wq hwq=>?_)
   simp only [fills]
   rintro u ⟨v9,rfl,h9⟩
   obtain ⟨a9,c9,rfl⟩:=put_shape h9
   dsimp only at h9
   have H9:=Lib.hid h9
   have HQ:=Lib.hid (And.intro (HL4.out.1.up hwq) (And.intro (HL4.out.2.1.up hwq) (HL4.out.2.2.trans hwq)))
   have HUQ:=Lib.hid (HU4.out.trans hwq)
   obtain ⟨hbx,r0,r1,r2,r3,r4,r5,r6,r7,r8⟩:=HQ.out.1.cells
   have hfx:=box_free HQ.out.1
   have hzq:=hwq.size
   clear hwq h9 HL4 HU4 cF cP
   unfold wrV
   go_wp2_with fail
   rw [HBD.out]
   have hne3:w.heap.size+1≠w2.heap.size:=by omega
   have hY:WrAt w2.heap.size ⟨k9,e9,b9,true⟩ (.slice a9 k9.ps.length c9) ((((((((((wq.setCell ⟨w2.heap.size,0,none⟩ (.int .i64 k9.set.ord)).setCell ⟨w2.heap.size,1,none⟩ (.int .i64 k9.set.lit)).setCell ⟨w2.heap.size,2,none⟩ (.int .i64 k9.set.most)).setCell ⟨w2.heap.size,3,none⟩ (.slice a9 k9.ps.length c9)).setCell ⟨w2.heap.size,4,none⟩ (.int .i64 k9.base)).setCell ⟨w2.heap.size,5,none⟩ (.int .i64 k9.last)).setCell ⟨w2.heap.size,6,none⟩ (.string (bs e))).setCell ⟨w2.heap.size,7,none⟩ (.string (bs b9))).setCell ⟨w2.heap.size,8,none⟩ (.bool true)).setCell ⟨w2.heap.size,6,none⟩ (.string (bs e9))):=by
    have h0:=WrAt.store HQ.out.1 ⟨k9,e,b9,true⟩ (.slice a9 k9.ps.length c9)
    unfold WrAt at h0
    have h1:=box_set h0 6 (.string (bs e9))
    unfold WrAt
    simpa [WrW,KnW] using h1
   have hZ:WrAt (w.heap.size+1) wr0 (.slice none 0 0) ((((((((((wq.setCell ⟨w2.heap.size,0,none⟩ (.int .i64 k9.set.ord)).setCell ⟨w2.heap.size,1,none⟩ (.int .i64 k9.set.lit)).setCell ⟨w2.heap.size,2,none⟩ (.int .i64 k9.set.most)).setCell ⟨w2.heap.size,3,none⟩ (.slice a9 k9.ps.length c9)).setCell ⟨w2.heap.size,4,none⟩ (.int .i64 k9.base)).setCell ⟨w2.heap.size,5,none⟩ (.int .i64 k9.last)).setCell ⟨w2.heap.size,6,none⟩ (.string (bs e))).setCell ⟨w2.heap.size,7,none⟩ (.string (bs b9))).setCell ⟨w2.heap.size,8,none⟩ (.bool true)).setCell ⟨w2.heap.size,6,none⟩ (.string (bs e9))):=(Below.heap_setCell _ _ _ _ hne3).trans ((WrW.other hne3 ⟨k9,e,b9,true⟩ (.slice a9 k9.ps.length c9)).trans HQ.out.2.1)
   have hU5:Up w ((((((((((wq.setCell ⟨w2.heap.size,0,none⟩ (.int .i64 k9.set.ord)).setCell ⟨w2.heap.size,1,none⟩ (.int .i64 k9.set.lit)).setCell ⟨w2.heap.size,2,none⟩ (.int .i64 k9.set.most)).setCell ⟨w2.heap.size,3,none⟩ (.slice a9 k9.ps.length c9)).setCell ⟨w2.heap.size,4,none⟩ (.int .i64 k9.base)).setCell ⟨w2.heap.size,5,none⟩ (.int .i64 k9.last)).setCell ⟨w2.heap.size,6,none⟩ (.string (bs e))).setCell ⟨w2.heap.size,7,none⟩ (.string (bs b9))).setCell ⟨w2.heap.size,8,none⟩ (.bool true)).setCell ⟨w2.heap.size,6,none⟩ (.string (bs e9))):=by
    have hU:=HQ.out.2.2
    (repeat (first|with_reducible exact Up.refl _|with_reducible assumption|with_reducible refine Up.set ?_ (by first|exact Nat.le_refl _|(simp only [];omega)|(simp;omega)) _|with_reducible refine Up.alloc ?_ _|refine Up.trans ?_ (by with_reducible assumption)))
   have hown: ∀ (vv:Value) (ps:List PairD),ownPr wq w.heap.size vv ps→ownPr ((((((((((wq.setCell ⟨w2.heap.size,0,none⟩ (.int .i64 k9.set.ord)).setCell ⟨w2.heap.size,1,none⟩ (.int .i64 k9.set.lit)).setCell ⟨w2.heap.size,2,none⟩ (.int .i64 k9.set.most)).setCell ⟨w2.heap.size,3,none⟩ (.slice a9 k9.ps.length c9)).setCell ⟨w2.heap.size,4,none⟩ (.int .i64 k9.base)).setCell ⟨w2.heap.size,5,none⟩ (.int .i64 k9.last)).setCell ⟨w2.heap.size,6,none⟩ (.string (bs e))).setCell ⟨w2.heap.size,7,none⟩ (.string (bs b9))).setCell ⟨w2.heap.size,8,none⟩ (.bool true)).setCell ⟨w2.heap.size,6,none⟩ (.string (bs e9))) w.heap.size vv ps:=fun vv ps h=>by
    have hne1:some w2.heap.size≠Value.ownBlock vv:=box_ne HQ.out.1 h (by decide)
    repeat (with_reducible refine ownsRow_setb ?_ hne1 _ _)
    exact h
   have HALL0:=Lib.hid (And.intro hY (And.intro hZ (And.intro hU5 hown)))
   clear hY hZ hU5 hown hne3 HBD HWL r0 r1 r2 r3 r4 r5 r6 r7 r8 hfx
   generalize ((((((((((wq.setCell ⟨w2.heap.size,0,none⟩ (.int .i64 k9.set.ord)).setCell ⟨w2.heap.size,1,none⟩ (.int .i64 k9.set.lit)).setCell ⟨w2.heap.size,2,none⟩ (.int .i64 k9.set.most)).setCell ⟨w2.heap.size,3,none⟩ (.slice a9 k9.ps.length c9)).setCell ⟨w2.heap.size,4,none⟩ (.int .i64 k9.base)).setCell ⟨w2.heap.size,5,none⟩ (.int .i64 k9.last)).setCell ⟨w2.heap.size,6,none⟩ (.string (bs e))).setCell ⟨w2.heap.size,7,none⟩ (.string (bs b9))).setCell ⟨w2.heap.size,8,none⟩ (.bool true)).setCell ⟨w2.heap.size,6,none⟩ (.string (bs e9)))=W5 at HALL0 ⊢
   have hO5:(.slice a9 k9.ps.length c9=Value.slice a x.k.ps.length cap∧k9.ps=x.k.ps)∨ownPr W5 w.heap.size (.slice a9 k9.ps.length c9) k9.ps:=by
    rcases H9.out with ⟨h1,h2⟩|h
    ·rw [h1,h2]
     exact HL.out.pr.imp id (fun h=>HALL0.out.2.2.2 _ _ (ownsRow_up h HUQ.out))
    ·exact .inr (HALL0.out.2.2.2 _ _ (ownsRow_base h (by have:=HL.out.up.size;omega)))
   have HALL:=Lib.hid (And.intro HALL0.out.1 (And.intro HALL0.out.2.1 (And.intro HALL0.out.2.2.1 hO5)))
   clear hO5 HALL0 H9 HQ HUQ HL
   clear hzq hbx
   obtain ⟨hbx,r0,r1,r2,r3,r4,r5,r6,r7,r8⟩:=HALL.out.1.cells
   have hok9:=HK9.out
   have hpl9:=hok9.nums.2.2.2.1
   have hrd9:=fun (wq:World) (hu:Up W5 wq)=>(show RdP 0 W5 (.slice a9 k9.ps.length c9) k9.ps by
    rcases HALL.out.2.2.2 with ⟨h1,h2⟩|h
    ·rw [h1,h2];exact (HR.out.up HALL.out.2.2.1).low (Nat.zero_le _)
    ·exact (RdP.of_own h).low (Nat.zero_le _)).up hu
   have cN:=fun wx hr=>l2Next_any k9 (.slice a9 k9.ps.length c9) 0 wx hok9 hr
   have cLa:=fun wx=>l1Last_any k9.set wx hok9.set
   have hnx:=KnD.next_bd hok9
   have hlb:=hok9.nums.2.2.1
   simp only [kV,setV] at cN cLa
   have hlw2:Up w W5:=HALL.out.2.2.1
   have hlz:=hlw2.size
   by_cases e1:lastC k9.set<k9.next
   ·by_cases e2:k9.base<k9.ps.length
    ·have hf:k9.full=true:=by unfold KnD.full;rw [decide_eq_true e1,decide_eq_true e2];rfl
     have HN:=Lib.hid (HX9.out.1 hf)
     clear hf
     generalize k9.next=nx9 at *
     generalize lastC k9.set=lc9 at *
     refine wp_region_up 18 (by kernel_rfl) (by kernel_rfl) ?_
     simp only [List.take,List.drop]
     repeat (refine wpUp_step (fun K hK=>?_);go_simp;(try simp only [↓IntWalk.iteOmega]);first
      |(refine hK _ _ ?_;clear hK K)
      |(apply stepU_c
        ·intro wq hwq;(have hbq:=bcell hwq;(repeat (first|refine fills_no (by rfl) ?_|refine fills_yes (by rfl) (fun vq hvq=>?_)));simp only [List.filter_nil,fills];unfold upAt;(try ((obtain ⟨-,r0,r1,r2,r3,r4,r5,r6,r7,r8⟩:=(HALL.out.1.up hwq).cells)));go_simp;(try go_bits);(try simp only [↓IntWalk.iteOmega]);first|exact upOut_value|(apply upOut_call;(go_at_call 108;exact cN _ (hrd9 _ hwq)))|(apply upOut_call;(go_at_call 109;exact cLa _)))
        go_simp;refine hK _ _ ?_;clear hK K))
     refine wpUp_nil (fun wq hwq=>?_)
     simp only [fills]
     go_wp2_with fail
     have HA:=Lib.hid (And.intro (HALL.out.1.up hwq) (And.intro (HALL.out.2.1.up hwq) (And.intro (HALL.out.2.2.1.trans hwq) (HALL.out.2.2.2.imp id (fun h=>ownsRow_up h hwq)))))
     have hrd8:=fun (wx:World) (hu:Up wq wx)=>hrd9 wx (hwq.trans hu)
     clear hwq HALL hrd9 r0 r1 r2 r3 r4 r5 r6 r7 r8 cN cLa hbx
     generalize wq=W6 at *
     have hclr:=(clr_bd hok9.set).2.1
     have cK:=fun wx=>l1Clear_any k9.set wx hok9.set
     have cP9:=fun wq hr=>put_any ⟨k9,e9,b9,true⟩ (.slice a9 k9.ps.length c9) 0 (clr k9.set) wq hok9 hr (by omega) (by show b9.length≤900000;omega) (.inr (.inl rfl))
     have hpw9:putW ⟨k9,e9,b9,true⟩ (clr k9.set)=⟨k9.cleared,e9,b9++codeL x.k.set.ord (clr x.k.set) k9.width,true⟩:=by
      unfold putW
      dsimp only
      rw [show ((clr k9.set:Nat):Int)=(k9.c:Int) from rfl,thru_clear,HS9.out]
     rw [hpw9] at cP9
     clear hpw9
     generalize b9++codeL x.k.set.ord (clr x.k.set) k9.width=b10 at *
     unfold wrV at cP9
     simp only [setV] at cK
     refine wp_region_up 6 (by kernel_rfl) (by kernel_rfl) ?_
     simp only [List.take,List.drop]
     repeat (refine wpUp_step (fun K hK=>?_);go_simp;(try simp only [↓IntWalk.iteOmega]);first
      |(refine hK _ _ ?_;clear hK K)
      |(apply stepU_c
        ·intro wq hwq;(have hbq:=bcell hwq;(repeat (first|refine fills_no (by rfl) ?_|refine fills_yes (by rfl) (fun vq hvq=>?_)));simp only [List.filter_nil,fills];unfold upAt;(try ((obtain ⟨-,r0,r1,r2,r3,r4,r5,r6,r7,r8⟩:=(HA.out.1.up hwq).cells)));go_simp;(try go_bits);(try simp only [↓IntWalk.iteOmega]);first|exact upOut_value|(apply upOut_call;(go_at_call 86;exact cK _)))
        go_simp;refine hK _ _ ?_;clear hK K)
      |(refine stepU_m (by kernel_rfl) (PutO W6.heap.size ⟨k9.cleared,e9,b10,true⟩ k9.ps (.slice a9 k9.ps.length c9)) (putO_closed _ _ _ _) (fun wq hwq=>?_) ?_
        ·(have hbq:=bcell hwq;(repeat (first|refine fills_no (by rfl) ?_|refine fills_yes (by rfl) (fun vq hvq=>?_)));simp only [List.filter_nil,fills];unfold upAt;(try ((obtain ⟨-,r0,r1,r2,r3,r4,r5,r6,r7,r8⟩:=(HA.out.1.up hwq).cells)));go_simp;(try go_bits);(try simp only [↓IntWalk.iteOmega]);((with_reducible refine upOut_put ?_ hwq.size);go_at_call 107;exact cP9 _ (hrd8 _ hwq)))
        refine hK _ _ ?_;clear hK K))
     refine wpUp_nil (fun wq hwq=>?_)
     simp only [fills]
     rintro u ⟨v10,rfl,h10⟩
     obtain ⟨a10,c10,rfl⟩:=put_shape h10
     dsimp only at h10
     have H10:=Lib.hid h10
     have HQ:=Lib.hid (And.intro (HA.out.1.up hwq) (And.intro (HA.out.2.1.up hwq) (HA.out.2.2.1.trans hwq)))
     have HUQ:=Lib.hid hwq
     obtain ⟨hbx,r0,r1,r2,r3,r4,r5,r6,r7,r8⟩:=HQ.out.1.cells
     have hfx:=box_free HQ.out.1
     have hzq:=hwq.size
     have hz6:=HA.out.2.2.1.size
     clear hwq h10 cP9 cK
     generalize k9.cleared=kc at *
     have hne3:w.heap.size+1≠w2.heap.size:=by omega
     have hY:WrAt w2.heap.size ⟨kc,e9,b10,true⟩ (.slice a10 kc.ps.length c10) (((((((((wq.setCell ⟨w2.heap.size,0,none⟩ (.int .i64 kc.set.ord)).setCell ⟨w2.heap.size,1,none⟩ (.int .i64 kc.set.lit)).setCell ⟨w2.heap.size,2,none⟩ (.int .i64 kc.set.most)).setCell ⟨w2.heap.size,3,none⟩ (.slice a10 kc.ps.length c10)).setCell ⟨w2.heap.size,4,none⟩ (.int .i64 kc.base)).setCell ⟨w2.heap.size,5,none⟩ (.int .i64 kc.last)).setCell ⟨w2.heap.size,6,none⟩ (.string (bs e9))).setCell ⟨w2.heap.size,7,none⟩ (.string (bs b10))).setCell ⟨w2.heap.size,8,none⟩ (.bool true)):=by
      have h0:=WrAt.store HQ.out.1 ⟨kc,e9,b10,true⟩ (.slice a10 kc.ps.length c10)
      simpa [WrW,KnW] using h0
     have hZ:WrAt (w.heap.size+1) wr0 (.slice none 0 0) (((((((((wq.setCell ⟨w2.heap.size,0,none⟩ (.int .i64 kc.set.ord)).setCell ⟨w2.heap.size,1,none⟩ (.int .i64 kc.set.lit)).setCell ⟨w2.heap.size,2,none⟩ (.int .i64 kc.set.most)).setCell ⟨w2.heap.size,3,none⟩ (.slice a10 kc.ps.length c10)).setCell ⟨w2.heap.size,4,none⟩ (.int .i64 kc.base)).setCell ⟨w2.heap.size,5,none⟩ (.int .i64 kc.last)).setCell ⟨w2.heap.size,6,none⟩ (.string (bs e9))).setCell ⟨w2.heap.size,7,none⟩ (.string (bs b10))).setCell ⟨w2.heap.size,8,none⟩ (.bool true)):=(WrW.other hne3 ⟨kc,e9,b10,true⟩ (.slice a10 kc.ps.length c10)).trans HQ.out.2.1
     have hU5:Up w (((((((((wq.setCell ⟨w2.heap.size,0,none⟩ (.int .i64 kc.set.ord)).setCell ⟨w2.heap.size,1,none⟩ (.int .i64 kc.set.lit)).setCell ⟨w2.heap.size,2,none⟩ (.int .i64 kc.set.most)).setCell ⟨w2.heap.size,3,none⟩ (.slice a10 kc.ps.length c10)).setCell ⟨w2.heap.size,4,none⟩ (.int .i64 kc.base)).setCell ⟨w2.heap.size,5,none⟩ (.int .i64 kc.last)).setCell ⟨w2.heap.size,6,none⟩ (.string (bs e9))).setCell ⟨w2.heap.size,7,none⟩ (.string (bs b10))).setCell ⟨w2.heap.size,8,none⟩ (.bool true)):=by
      have hU:=HQ.out.2.2
      (repeat (first|with_reducible exact Up.refl _|with_reducible assumption|with_reducible refine Up.set ?_ (by first|exact Nat.le_refl _|(simp only [];omega)|(simp;omega)) _|with_reducible refine Up.alloc ?_ _|refine Up.trans ?_ (by with_reducible assumption)))
     have hown: ∀ (vv:Value) (ps:List PairD),ownPr wq w.heap.size vv ps→ownPr (((((((((wq.setCell ⟨w2.heap.size,0,none⟩ (.int .i64 kc.set.ord)).setCell ⟨w2.heap.size,1,none⟩ (.int .i64 kc.set.lit)).setCell ⟨w2.heap.size,2,none⟩ (.int .i64 kc.set.most)).setCell ⟨w2.heap.size,3,none⟩ (.slice a10 kc.ps.length c10)).setCell ⟨w2.heap.size,4,none⟩ (.int .i64 kc.base)).setCell ⟨w2.heap.size,5,none⟩ (.int .i64 kc.last)).setCell ⟨w2.heap.size,6,none⟩ (.string (bs e9))).setCell ⟨w2.heap.size,7,none⟩ (.string (bs b10))).setCell ⟨w2.heap.size,8,none⟩ (.bool true)) w.heap.size vv ps:=fun vv ps h=>by
      have hne1:some w2.heap.size≠Value.ownBlock vv:=box_ne HQ.out.1 h (by decide)
      repeat (with_reducible refine ownsRow_setb ?_ hne1 _ _)
      exact h
     have HALL0:=Lib.hid (And.intro hY (And.intro hZ (And.intro hU5 hown)))
     clear hY hZ hU5 hown hne3
     unfold wrV
     go_wp2_with fail
     clear r0 r1 r2 r3 r4 r5 r6 r7 r8 hfx
     generalize (((((((((wq.setCell ⟨w2.heap.size,0,none⟩ (.int .i64 kc.set.ord)).setCell ⟨w2.heap.size,1,none⟩ (.int .i64 kc.set.lit)).setCell ⟨w2.heap.size,2,none⟩ (.int .i64 kc.set.most)).setCell ⟨w2.heap.size,3,none⟩ (.slice a10 kc.ps.length c10)).setCell ⟨w2.heap.size,4,none⟩ (.int .i64 kc.base)).setCell ⟨w2.heap.size,5,none⟩ (.int .i64 kc.last)).setCell ⟨w2.heap.size,6,none⟩ (.string (bs e9))).setCell ⟨w2.heap.size,7,none⟩ (.string (bs b10))).setCell ⟨w2.heap.size,8,none⟩ (.bool true))=W9 at HALL0 ⊢
     have hO9:(.slice a10 kc.ps.length c10=Value.slice a x.k.ps.length cap∧kc.ps=x.k.ps)∨ownPr W9 w.heap.size (.slice a10 kc.ps.length c10) kc.ps:=by
      rcases H10.out with ⟨h1,h2⟩|h
      ·rw [h1,h2]
       exact HA.out.2.2.2.imp id (fun h=>HALL0.out.2.2.2 _ _ (ownsRow_up h HUQ.out))
      ·exact .inr (HALL0.out.2.2.2 _ _ (ownsRow_base h (by omega)))
     have HO9:=Lib.hid hO9
     clear hO9
     go_roundw
     case rel=>exact ⟨m - 1,kc,e9,b10,_,HN.out,HALL0.out.1,HALL0.out.2.1,HALL0.out.2.2.1,HO9.out⟩
     case measure=>rw [HM.out,plenC_at HALL0.out.1];exact hdl9
    ·have hf:k9.full=false:=by unfold KnD.full;rw [decide_eq_false e2,Bool.and_false]
     have HN:=Lib.hid (HX9.out.2 hf)
     clear hf
     generalize k9.next=nx9 at *
     generalize lastC k9.set=lc9 at *
     refine wp_region_up 18 (by kernel_rfl) (by kernel_rfl) ?_
     simp only [List.take,List.drop]
     repeat (refine wpUp_step (fun K hK=>?_);go_simp;(try simp only [↓IntWalk.iteOmega]);first
      |(refine hK _ _ ?_;clear hK K)
      |(apply stepU_c
        ·intro wq hwq;(have hbq:=bcell hwq;(repeat (first|refine fills_no (by rfl) ?_|refine fills_yes (by rfl) (fun vq hvq=>?_)));simp only [List.filter_nil,fills];unfold upAt;(try ((obtain ⟨-,r0,r1,r2,r3,r4,r5,r6,r7,r8⟩:=(HALL.out.1.up hwq).cells)));go_simp;(try go_bits);(try simp only [↓IntWalk.iteOmega]);first|exact upOut_value|(apply upOut_call;(go_at_call 108;exact cN _ (hrd9 _ hwq)))|(apply upOut_call;(go_at_call 109;exact cLa _)))
        go_simp;refine hK _ _ ?_;clear hK K))
     refine wpUp_nil (fun wq hwq=>?_)
     simp only [fills]
     go_wp2_with fail
     go_roundw
     case rel=>exact ⟨m - 1,k9,e9,b9,_,HN.out,HALL.out.1.up hwq,HALL.out.2.1.up hwq,HALL.out.2.2.1.trans hwq,HALL.out.2.2.2.imp id (fun h=>ownsRow_up h hwq)⟩
     case measure=>rw [HM.out,plenC_at (HALL.out.1.up hwq)];exact hdl9
   ·have hf:k9.full=false:=by unfold KnD.full;rw [decide_eq_false e1,Bool.false_and]
    have HN:=Lib.hid (HX9.out.2 hf)
    clear hf
    generalize k9.next=nx9 at *
    generalize lastC k9.set=lc9 at *
    refine wp_region_up 18 (by kernel_rfl) (by kernel_rfl) ?_
    simp only [List.take,List.drop]
    repeat (refine wpUp_step (fun K hK=>?_);go_simp;(try simp only [↓IntWalk.iteOmega]);first
     |(refine hK _ _ ?_;clear hK K)
     |(apply stepU_c
       ·intro wq hwq;(have hbq:=bcell hwq;(repeat (first|refine fills_no (by rfl) ?_|refine fills_yes (by rfl) (fun vq hvq=>?_)));simp only [List.filter_nil,fills];unfold upAt;(try ((obtain ⟨-,r0,r1,r2,r3,r4,r5,r6,r7,r8⟩:=(HALL.out.1.up hwq).cells)));go_simp;(try go_bits);(try simp only [↓IntWalk.iteOmega]);first|exact upOut_value|(apply upOut_call;(go_at_call 108;exact cN _ (hrd9 _ hwq)))|(apply upOut_call;(go_at_call 109;exact cLa _)))
       go_simp;refine hK _ _ ?_;clear hK K))
    refine wpUp_nil (fun wq hwq=>?_)
    simp only [fills]
    go_wp2_with fail
    go_roundw
    case rel=>exact ⟨m - 1,k9,e9,b9,_,HN.out,HALL.out.1.up hwq,HALL.out.2.1.up hwq,HALL.out.2.2.1.trans hwq,HALL.out.2.2.2.imp id (fun h=>ownsRow_up h hwq)⟩
    case measure=>rw [HM.out,plenC_at (HALL.out.1.up hwq)];exact hdl9
end Go.Proofs.YtekogcjdaolcbaaGreatDoor
/- Walks of the reference's WriteData and CloseWriter, for writers of any kind. Conditions: the pairs can be read, the texts are no longer than 2^20 bytes. -/
namespace Go.Proofs.YtekogcjdaolcbaaGreatDoor
open Go Go.RowKit
theorem WlD.outs {T:List UInt8 × KnD × List UInt8} {s:SetD} : ∀ (m:Nat) (k:KnD) (d b:List UInt8),WlD T s m k d b→isBits T.1∧T.1.length≤41000:=by
 intro m
 induction m with
 |zero=>intro k d b h;have h1:=h.len;have h2:=List.length_pos_iff.2 h.ne;omega
 |succ m ih =>
  intro k d b h
  by_cases hl:k.longest d=d
  ·rw [h.stop hl];exact ⟨h.bit,by have:=h.sum;show b.length≤41000;omega⟩
  ·obtain ⟨_,h1,h2⟩:=h.step hl
   cases hf:(k.after (k.find (k.longest d))).full
   ·exact ih _ _ _ (h2 hf)
   ·exact ih _ _ _ (h1 hf)
theorem wdS_pre (x:WrD) (v1:Value) (a:Option Addr) (cap:Nat) (w w1:World) (ho:ownPr w1 (w.heap.size+2) v1 x.k.ps) (hx:WrAt w.heap.size x (.slice a x.k.ps.length cap) w1) (hz:WrAt (w.heap.size+1) wr0 (.slice none 0 0) w1) (hu:Up w w1) :
  WrAt w.heap.size x v1 (WrW w1 w.heap.size x v1)∧WrAt (w.heap.size+1) wr0 (.slice none 0 0) (WrW w1 w.heap.size x v1)∧Up w (WrW w1 w.heap.size x v1)∧ownPr (WrW w1 w.heap.size x v1) (w.heap.size+2) v1 x.k.ps :=
 ⟨WrAt.store hx x v1,(WrW.other (by omega) x v1).trans hz,WrW.up hu (Nat.le_refl _) x v1,WrW.own ho (fun e=>by have:=(ho.lt _ e.symm).1;omega) x v1⟩
set_option maxRecDepth 100000 in
set_option maxHeartbeats 16000000 in
theorem wdS_any (x:WrD) (v:Value) (lo:Nat) (d:List UInt8) (w:World) (hr:RdP lo w v x.k.ps) (hps:x.k.ps.length≤1048576) (hp:x.pend.length≤1048576) (hb:x.bits.length≤1048576) (hd:d.length≤1048576) :
  Calls Tryz.prog 8  #[wrV x v,.string (bs d)] w (WdPost (wdO x d) w):=by
 have cO:=fun wq hr=>ownWS_any x v lo wq hr hps
 have hrt:=fun (wq:World) (hu:Up w wq)=>hr.up hu
 have hsp:=bs_size x.pend
 have hsd:=bs_size d
 have hn2:(bs x.pend).size+(bs d).size≤2097152:=by omega
 have hcat:bs x.pend++bs d=bs (x.pend++d):=bs_app _ _
 obtain ⟨a,cap,rfl,-,-,-,-⟩:=id hr
 clear hr
 unfold wrV at *
 go_enter Tryz.func8,Tryz.ntmps8
 go_wp2_with fail
 with_reducible refine (cO _ (hrt _ (by (repeat (first|with_reducible exact Up.refl _|with_reducible assumption|with_reducible refine Up.set ?_ (by first|exact Nat.le_refl _|(simp only [];omega)|(simp;omega)) _|with_reducible refine Up.alloc ?_ _|refine Up.trans ?_ (by with_reducible assumption)))))).mono ?_
 rintro e w1 ⟨v1,rfl,ho1,U1⟩
 obtain ⟨a1,c1,rfl⟩:=ownsRow_shape ho1
 have hX:=WrAt.up (show WrAt w.heap.size x (.slice a x.k.ps.length cap) _ from box_up ((Up.refl _).alloc _) (MapKept.heap_alloc w _).1) U1
 have hZ:=WrAt.zero (box_up U1 (alloc2 w _ _))
 have hU1:Up w w1:=by (repeat (first|with_reducible exact Up.refl _|with_reducible assumption|with_reducible refine Up.set ?_ (by first|exact Nat.le_refl _|(simp only [];omega)|(simp;omega)) _|with_reducible refine Up.alloc ?_ _|refine Up.trans ?_ (by with_reducible assumption)))
 have hl1:w.heap.size+2≤w1.heap.size:=by have:=U1.size;simp at this;exact this
 have HP:=Lib.hid (wdS_pre x (.slice a1 x.k.ps.length c1) a cap w w1 (ownsRow_base ho1 (by simp)) hX hZ hU1)
 have hlz:w1.heap.size≤(WrW w1 w.heap.size x (.slice a1 x.k.ps.length c1)).heap.size:=by unfold WrW KnW;simp [World.setCell]
 obtain ⟨hbx,r0,r1,r2,r3,r4,r5,r6,r7,r8⟩:=hX.cells
 have hfx:=box_free hX
 clear ho1 hX hZ hU1 U1 cO hrt
 unfold wrV
 go_wp2_with fail
 rw [show (((((((((w1.setCell ⟨w.heap.size,0,none⟩ (.int .i64 x.k.set.ord)).setCell ⟨w.heap.size,1,none⟩ (.int .i64 x.k.set.lit)).setCell ⟨w.heap.size,2,none⟩ (.int .i64 x.k.set.most)).setCell ⟨w.heap.size,3,none⟩ (.slice a1 x.k.ps.length c1)).setCell ⟨w.heap.size,4,none⟩ (.int .i64 x.k.base)).setCell ⟨w.heap.size,5,none⟩ (.int .i64 x.k.last)).setCell ⟨w.heap.size,6,none⟩ (.string (bs x.pend))).setCell ⟨w.heap.size,7,none⟩ (.string (bs x.bits))).setCell ⟨w.heap.size,8,none⟩ (.bool x.beg))=WrW w1 w.heap.size x (.slice a1 x.k.ps.length c1) from rfl]
 clear r0 r1 r2 r3 r4 r5 r6 r7 r8 hbx hfx
 generalize WrW w1 w.heap.size x (.slice a1 x.k.ps.length c1)=W1 at HP hlz ⊢
 have hlW:w.heap.size+2≤W1.heap.size:=by omega
 clear hlz hl1
 have hrt:=fun (wq:World) (hu:Up W1 wq)=>(RdP.of_own HP.out.2.2.2).up hu
 have cV:=fun wq hr=>wvS_any x (.slice a1 x.k.ps.length c1) (w.heap.size+2) wq hr (by omega) (by omega) (by omega)
 unfold wrV at cV
 obtain ⟨hbx,r0,r1,r2,r3,r4,r5,r6,r7,r8⟩:=HP.out.1.cells
 have hfx:=box_free HP.out.1
 obtain ⟨hbz,q0,q1,q2,q3,q4,q5,q6,q7,q8⟩:=HP.out.2.1.cells
 simp only [wr0] at q0 q1 q2 q3 q4 q5 q6 q7 q8
 have hfz:=box_free HP.out.2.1
 cases hok:wrvB x
 ·have HNO:=Lib.hid (wdO_none (w:=x) (d:=d) (by rw [hok];rfl))
  rw [hok] at cV
  clear hok
  with_reducible refine (cV _ (hrt _ (Up.refl _))).mono ?_
  rintro e w3 ⟨rfl,U3⟩
  have B3:=bcell U3
  have hl3:=U3.size
  have HU3:=Lib.hid (HP.out.2.2.1.trans U3)
  go_wp2_with fail
  obtain ⟨-,q0,q1,q2,q3,q4,q5,q6,q7,q8⟩:=(HP.out.2.1.up U3).cells
  simp only [wr0] at q0 q1 q2 q3 q4 q5 q6 q7 q8
  refine bodyPost_ret (v:= .tuple #[noWr,.string ⟨#[]⟩,.bool false]) (by simp [results,Tryz.results8,go_sem,q0,q1,q2,q3,q4,q5,q6,q7,q8];rfl) rfl ?_
  rw [HNO.out]
  refine wdP_none rfl ?_
  have hU:=HU3.out
  (repeat (first|with_reducible exact Up.refl _|with_reducible assumption|with_reducible refine Up.set ?_ (by first|exact Nat.le_refl _|(simp only [];omega)|(simp;omega)) _|with_reducible refine Up.alloc ?_ _|refine Up.trans ?_ (by with_reducible assumption)))
 ·rw [hok] at cV
  have cF:=fun wq=>fitsS_any x.k.set (bs (x.pend++d)) wq (by rw [bs_size,List.length_append];omega)
  rw [bs_data] at cF
  simp only [setV] at cF
  cases hfit:fitsB x.k.set (x.pend++d)
  ·have HNO:=Lib.hid (wdO_none (w:=x) (d:=d) (by rw [hok,hfit];rfl))
   rw [hfit] at cF
   clear hok hfit
   with_reducible refine (cV _ (hrt _ (Up.refl _))).mono ?_
   rintro e w3 ⟨rfl,U3⟩
   have B3:=bcell U3
   have hl3:=U3.size
   go_wp2_with (first|(go_at_call 44;(with_reducible refine (cF _).mono ?_);rintro e w4 ⟨rfl,U4⟩;have B4:=bcell U4;have hl4:=U4.size;obtain ⟨hbz,q0,q1,q2,q3,q4,q5,q6,q7,q8⟩:=((HP.out.2.1.up U3).up U4).cells;simp only [wr0] at q0 q1 q2 q3 q4 q5 q6 q7 q8;have hfz:=box_free ((HP.out.2.1.up U3).up U4);obtain ⟨hbx,r0,r1,r2,r3,r4,r5,r6,r7,r8⟩:=((HP.out.1.up U3).up U4).cells;have hfx:=box_free ((HP.out.1.up U3).up U4))|fail)
   have HU3:=Lib.hid ((HP.out.2.2.1.trans U3).trans U4)
   refine bodyPost_ret (v:= .tuple #[noWr,.string ⟨#[]⟩,.bool false]) (by simp [results,Tryz.results8,go_sem,q0,q1,q2,q3,q4,q5,q6,q7,q8];rfl) rfl ?_
   rw [HNO.out]
   refine wdP_none rfl ?_
   have hU:=HU3.out
   (repeat (first|with_reducible exact Up.refl _|with_reducible assumption|with_reducible refine Up.set ?_ (by first|exact Nat.le_refl _|(simp only [];omega)|(simp;omega)) _|with_reducible refine Up.alloc ?_ _|refine Up.trans ?_ (by with_reducible assumption)))
  ·have HYES:=Lib.hid (wdO_some (w:=x) (d:=d) (by rw [hok,hfit];rfl))
   rw [hfit] at cF
   have hwok:=wrvB_ok hok
   have hfits:=fitsB_lits hfit
   clear hok hfit
   with_reducible refine (cV _ (hrt _ (Up.refl _))).mono ?_
   rintro e w3 ⟨rfl,U3⟩
   have B3:=bcell U3
   have hl3:=U3.size
   by_cases hd0:d= []
   ·subst hd0
    have HDE:=isEmpty_nil
    rw [List.append_nil] at cF
    have cY:=fun wx hr=>copyS_any x.k (.slice a1 x.k.ps.length c1) (w.heap.size+2) wx hr (by omega)
    simp only [kV] at cY
    go_wp2_with (first|(go_at_call 44;(with_reducible refine (cF _).mono ?_);rintro e w4 ⟨rfl,U4⟩;have B4:=bcell U4;have hl4:=U4.size;obtain ⟨hbz,q0,q1,q2,q3,q4,q5,q6,q7,q8⟩:=((HP.out.2.1.up U3).up U4).cells;simp only [wr0] at q0 q1 q2 q3 q4 q5 q6 q7 q8;have hfz:=box_free ((HP.out.2.1.up U3).up U4);obtain ⟨hbx,r0,r1,r2,r3,r4,r5,r6,r7,r8⟩:=((HP.out.1.up U3).up U4).cells;have hfx:=box_free ((HP.out.1.up U3).up U4))|fail)
    have hUa:Up w4 (w4.alloc (.cells #[.int .i64 x.k.set.ord,.int .i64 x.k.set.lit,.int .i64 x.k.set.most,.slice a1 x.k.ps.length c1,.int .i64 x.k.base,.int .i64 x.k.last,.string (bs x.pend),.string (bs x.bits),.bool x.beg] 29)):=(Up.refl _).alloc _
    have hA:WrAt w4.heap.size x (.slice a1 x.k.ps.length c1) (w4.alloc (.cells #[.int .i64 x.k.set.ord,.int .i64 x.k.set.lit,.int .i64 x.k.set.most,.slice a1 x.k.ps.length c1,.int .i64 x.k.base,.int .i64 x.k.last,.string (bs x.pend),.string (bs x.bits),.bool x.beg] 29)):=(MapKept.heap_alloc w4 _).1
    have HA:=Lib.hid (And.intro hA (And.intro (((HP.out.2.1.up U3).up U4).up hUa) (((HP.out.2.2.1.trans U3).trans U4).trans hUa)))
    have hzA:w4.heap.size<(w4.alloc (.cells #[.int .i64 x.k.set.ord,.int .i64 x.k.set.lit,.int .i64 x.k.set.most,.slice a1 x.k.ps.length c1,.int .i64 x.k.base,.int .i64 x.k.last,.string (bs x.pend),.string (bs x.bits),.bool x.beg] 29)).heap.size:=by simp
    with_reducible refine (cY _ (hrt _ ((U3.trans U4).trans hUa))).mono ?_
    clear hA hUa
    generalize w4.alloc (.cells #[.int .i64 x.k.set.ord,.int .i64 x.k.set.lit,.int .i64 x.k.set.most,.slice a1 x.k.ps.length c1,.int .i64 x.k.base,.int .i64 x.k.last,.string (bs x.pend),.string (bs x.bits),.bool x.beg] 29)=W6 at *
    rintro e w5 ⟨v5,rfl,ho5,U5⟩
    obtain ⟨a5,c5,rfl⟩:=ownsRow_shape ho5
    have HQ:=Lib.hid (And.intro (HA.out.1.up U5) (And.intro (HA.out.2.1.up U5) (And.intro (HA.out.2.2.trans U5) ho5)))
    have hzq:=U5.size
    have HW:=Lib.hid (HYES.out.trans (congrArg some (show x.write []=(x,[]) by unfold WrD.write;rw [if_pos rfl])))
    clear ho5 U5 HA HYES HP U3 U4 cY cF cV hrt r0 r1 r2 r3 r4 r5 r6 r7 r8 q0 q1 q2 q3 q4 q5 q6 q7 q8 hbx hbz hfx hfz B3 B4
    obtain ⟨hby,s0,s1,s2,s3,s4,s5,s6,s7,s8⟩:=HQ.out.1.cells
    have hfy:=box_free HQ.out.1
    obtain ⟨hbz,q0,q1,q2,q3,q4,q5,q6,q7,q8⟩:=HQ.out.2.1.cells
    simp only [wr0] at q0 q1 q2 q3 q4 q5 q6 q7 q8
    have hfz:=box_free HQ.out.2.1
    simp only [kV]
    go_wp2_with fail
    refine bodyPost_ret (v:= .tuple #[wrV x (.slice a5 x.k.ps.length c5),.string ⟨#[]⟩,.bool true]) (by simp [results,Tryz.results8,go_sem,q0,q1,q2,q3,q4,q5,q6,q7,q8];rfl) rfl ?_
    rw [HW.out]
    refine ⟨.slice a5 x.k.ps.length c5,rfl,?_,?_⟩
    ·have ho:=ownsRow_base HQ.out.2.2.2 (show w.heap.size≤W6.heap.size by omega)
     have hlo:=fun b e=>(HQ.out.2.2.2.lt b e).1
     have hne1:some (w.heap.size+1)≠Value.ownBlock (.slice a5 x.k.ps.length c5):=fun e=>by have:=hlo _ e.symm;omega
     have hne2:some w4.heap.size≠Value.ownBlock (.slice a5 x.k.ps.length c5):=fun e=>by have:=hlo _ e.symm;omega
     repeat (first|with_reducible refine ownsRow_setb ?_ hne1 _ _|with_reducible refine ownsRow_setb ?_ hne2 _ _)
     exact ho
    ·have hU:=HQ.out.2.2.1
     (repeat (first|with_reducible exact Up.refl _|with_reducible assumption|with_reducible refine Up.set ?_ (by first|exact Nat.le_refl _|(simp only [];omega)|(simp;omega)) _|with_reducible refine Up.alloc ?_ _|refine Up.trans ?_ (by with_reducible assumption)))
   ·have HDE:=isEmpty_bs hd0
    have cL:=fun wq hr=>l3Write_any x (.slice a1 x.k.ps.length c1) (w.heap.size+2) d wq hwok hd0 (fun b hb=>hfits.2.2 b (List.mem_append_right _ hb)) hfits.2.1 hr
    have hsx:=WlD.outs _ _ _ _ (WlD.start hwok hd0 (fun b hb=>hfits.2.2 b (List.mem_append_right _ hb)) hfits.2.1)
    have hso:=Lib.hid hwok.1.set
    have hwr:Hid (x.write d=(⟨(x.codes d).2.1,(x.codes d).2.2,(x.all d).drop ((x.all d).length / 8 * 8),true⟩,packL x.k.set.ord ((x.all d).take ((x.all d).length / 8 * 8)))):=by
     unfold Hid WrD.write
     rw [if_neg hd0]
    have HW:=Lib.hid (HYES.out.trans (congrArg some hwr.out))
    clear hwr HYES
    dsimp only at hsx
    generalize x.all d=b5 at *
    generalize (x.codes d).2.1=k5 at *
    generalize (x.codes d).2.2=p5 at *
    unfold wrV at cL
    clear hwok hfits
    go_wp2_with (first|(go_at_call 44;(with_reducible refine (cF _).mono ?_);rintro e w4 ⟨rfl,U4⟩;have B4:=bcell U4;have hl4:=U4.size;obtain ⟨hbz,q0,q1,q2,q3,q4,q5,q6,q7,q8⟩:=((HP.out.2.1.up U3).up U4).cells;simp only [wr0] at q0 q1 q2 q3 q4 q5 q6 q7 q8;have hfz:=box_free ((HP.out.2.1.up U3).up U4);obtain ⟨hbx,r0,r1,r2,r3,r4,r5,r6,r7,r8⟩:=((HP.out.1.up U3).up U4).cells;have hfx:=box_free ((HP.out.1.up U3).up U4))|fail)
    have HH:=Lib.hid (And.intro ((HP.out.1.up U3).up U4) (And.intro ((HP.out.2.1.up U3).up U4) (And.intro ((HP.out.2.2.1.trans U3).trans U4) (ownsRow_up (ownsRow_up HP.out.2.2.2 U3) U4))))
    with_reducible refine (cL _ (hrt _ (U3.trans U4))).mono ?_
    rintro e w5 ⟨v5,rfl,h5,U5⟩
    obtain ⟨a5,c5,rfl⟩:=put_shape h5
    dsimp only at h5
    have ho5:ownPr w5 (w.heap.size+2) (.slice a5 k5.ps.length c5) k5.ps:=by
     rcases h5 with ⟨h1,h2⟩|h
     ·rw [h1,h2];exact ownsRow_up HH.out.2.2.2 U5
     ·exact ownsRow_base h (by omega)
    have HG:=Lib.hid (And.intro (HH.out.1.up U5) (And.intro (HH.out.2.1.up U5) (And.intro (HH.out.2.2.1.trans U5) ho5)))
    have hl5:=U5.size
    have hb5:=bs_size b5
    obtain ⟨hbx,r0,r1,r2,r3,r4,r5,r6,r7,r8⟩:=HG.out.1.cells
    clear HH HP U3 U4 U5 h5 ho5 cL cV cF hrt q0 q1 q2 q3 q4 q5 q6 q7 q8 hfx hfz hbz B3 B4
    unfold wrV
    go_simp
    iterate 17 go_step
    have hA:WrAt w5.heap.size ⟨k5,p5,b5,true⟩ (.slice a5 k5.ps.length c5) (w5.alloc (.cells #[.int .i64 k5.set.ord,.int .i64 k5.set.lit,.int .i64 k5.set.most,.slice a5 k5.ps.length c5,.int .i64 k5.base,.int .i64 k5.last,.string (bs p5),.string (bs b5),.bool true] 29)):=(MapKept.heap_alloc w5 _).1
    have hUa:Up w5 (w5.alloc (.cells #[.int .i64 k5.set.ord,.int .i64 k5.set.lit,.int .i64 k5.set.most,.slice a5 k5.ps.length c5,.int .i64 k5.base,.int .i64 k5.last,.string (bs p5),.string (bs b5),.bool true] 29)):=(Up.refl _).alloc _
    have HA:=Lib.hid (And.intro hA (And.intro (HG.out.1.up hUa) (And.intro (HG.out.2.1.up hUa) (And.intro (HG.out.2.2.1.trans hUa) (ownsRow_up HG.out.2.2.2 hUa)))))
    have hzA:w5.heap.size<(w5.alloc (.cells #[.int .i64 k5.set.ord,.int .i64 k5.set.lit,.int .i64 k5.set.most,.slice a5 k5.ps.length c5,.int .i64 k5.base,.int .i64 k5.last,.string (bs p5),.string (bs b5),.bool true] 29)).heap.size:=by simp
    clear hA hUa HG r0 r1 r2 r3 r4 r5 r6 r7 r8 hbx
    generalize w5.alloc (.cells #[.int .i64 k5.set.ord,.int .i64 k5.set.lit,.int .i64 k5.set.most,.slice a5 k5.ps.length c5,.int .i64 k5.base,.int .i64 k5.last,.string (bs p5),.string (bs b5),.bool true] 29)=W6 at *
    obtain ⟨hbx,r0,r1,r2,r3,r4,r5,r6,r7,r8⟩:=HA.out.2.1.cells
    obtain ⟨hby,s0,s1,s2,s3,s4,s5,s6,s7,s8⟩:=HA.out.1.cells
    go_wp2_with fail
    have hnb:b5.length / 8 * 8≤b5.length:=by omega
    rw [show ((b5.length:Int) / 8 * 8)=((b5.length / 8 * 8:Nat):Int) by omega]
    have hdr:(bs b5).extract (b5.length / 8 * 8) b5.length=bs (b5.drop (b5.length / 8 * 8)):=by rw [bs_ext];congr 1;exact List.take_of_length_le (by rw [List.length_drop];omega)
    have htk:(bs b5).extract 0 (b5.length / 8 * 8)=bs (b5.take (b5.length / 8 * 8)):=by rw [bs_ext,List.drop_zero,Nat.sub_zero]
    have hibt:isBits (b5.take (b5.length / 8 * 8)):=fun b hb=>hsx.1 b (List.mem_of_mem_take hb)
    have cK:=fun wx=>l1Pack_any x.k.set.ord (bs (b5.take (b5.length / 8 * 8))) wx (by rw [bs_data];exact hibt) (by rw [bs_size,List.length_take];omega)
    rw [bs_data] at cK
    generalize b5.take (b5.length / 8 * 8)=t5 at *
    generalize b5.drop (b5.length / 8 * 8)=u5 at *
    generalize b5.length / 8 * 8=n5 at *
    have HDR:=Lib.hid hdr
    have HTK:=Lib.hid htk
    clear hdr htk hibt
    refine wp_region_up 9 (by kernel_rfl) (by kernel_rfl) ?_
    simp only [List.take,List.drop]
    repeat (refine wpUp_step (fun K hK=>?_);go_simp;(try simp only [↓IntWalk.iteOmega]);first
     |(refine hK _ _ ?_;clear hK K)
     |(apply stepU_c
       ·intro wq hwq;(have hbq:=bcell hwq;(repeat (first|refine fills_no (by rfl) ?_|refine fills_yes (by rfl) (fun vq hvq=>?_)));simp only [List.filter_nil,fills];unfold upAt;(try ((obtain ⟨-,r0,r1,r2,r3,r4,r5,r6,r7,r8⟩:=(HA.out.2.1.up hwq).cells;obtain ⟨hby,s0,s1,s2,s3,s4,s5,s6,s7,s8⟩:=(HA.out.1.up hwq).cells)));go_simp;(try go_bits);(try simp only [↓IntWalk.iteOmega]);first|exact upOut_value|(apply upOut_call;(rw [HTK.out];go_at_call 47;exact cK _))|(apply upOut_call;(go_at_call 47;exact cK _)))
       go_simp;refine hK _ _ ?_;clear hK K))
    refine wpUp_nil (fun wq hwq=>?_)
    simp only [fills]
    have HQ:=Lib.hid (And.intro (HA.out.1.up hwq) (And.intro (HA.out.2.2.1.up hwq) (And.intro (HA.out.2.2.2.1.trans hwq) (ownsRow_up HA.out.2.2.2.2 hwq))))
    have hzq:=hwq.size
    clear hwq HA cK r0 r1 r2 r3 r4 r5 r6 r7 r8 s0 s1 s2 s3 s4 s5 s6 s7 s8 hbx hby
    obtain ⟨hby,s0,s1,s2,s3,s4,s5,s6,s7,s8⟩:=HQ.out.1.cells
    have hfy:=box_free HQ.out.1
    obtain ⟨hbz,q0,q1,q2,q3,q4,q5,q6,q7,q8⟩:=HQ.out.2.1.cells
    simp only [wr0] at q0 q1 q2 q3 q4 q5 q6 q7 q8
    have hfz:=box_free HQ.out.2.1
    generalize packL x.k.set.ord t5=y5 at *
    go_wp2_with fail
    refine bodyPost_ret (v:= .tuple #[wrV ⟨k5,p5,u5,true⟩ (.slice a5 k5.ps.length c5),.string (bs y5),.bool true]) (by simp [results,Tryz.results8,go_sem,q0,q1,q2,q3,q4,q5,q6,q7,q8,HDR.out];rfl) rfl ?_
    rw [HW.out]
    refine ⟨.slice a5 k5.ps.length c5,rfl,?_,?_⟩
    ·have ho:=ownsRow_base HQ.out.2.2.2 (show w.heap.size≤w.heap.size+2 by omega)
     have hlo:=fun b e=>(HQ.out.2.2.2.lt b e).1
     have hne1:some (w.heap.size+1)≠Value.ownBlock (.slice a5 k5.ps.length c5):=fun e=>by have:=hlo _ e.symm;omega
     have hne2:some w5.heap.size≠Value.ownBlock (.slice a5 k5.ps.length c5):=box_ne HQ.out.1 HQ.out.2.2.2 (by decide)
     repeat (first|with_reducible refine ownsRow_setb ?_ hne1 _ _|with_reducible refine ownsRow_setb ?_ hne2 _ _)
     exact ho
    ·have hU:=HQ.out.2.2.1
     (repeat (first|with_reducible exact Up.refl _|with_reducible assumption|with_reducible refine Up.set ?_ (by first|exact Nat.le_refl _|(simp only [];omega)|(simp;omega)) _|with_reducible refine Up.alloc ?_ _|refine Up.trans ?_ (by with_reducible assumption)))
end Go.Proofs.YtekogcjdaolcbaaGreatDoor
/- Walks of the program's CloseWriter and LongestWord. Conditions: the pairs can be read. -/
namespace Go.Proofs.YtekogcjdaolcbaaGreatDoor
open Go Go.RowKit
theorem wcO_none {x:WrD} (h:wrvB x=false):wcO x=none:=by unfold wcO;rw [h];rfl
theorem wcO_some {x:WrD} (h:wrvB x=true):wcO x=some x.close:=by unfold wcO;rw [h];rfl
theorem optS_no:optS none= .tuple #[.string ⟨#[]⟩,.bool false]:=rfl
theorem close_nil {x:WrD} (h:x.pend= []):x.close=packL x.k.set.ord (x.open.1++codeL x.k.set.ord (clr x.k.set+1) x.open.2.width):=by
 unfold WrD.close
 rw [if_pos h,List.nil_append]
 show packL _ (_++(codeL _ ((x.k.c:Int)+1).toNat _++ []))=_
 rw [List.append_nil]
 rfl
theorem close_word {x:WrD} {n:Nat} (h:x.pend≠ []) (ho:x.open=(x.bits,x.k)) (hn:x.k.find x.pend=n) (hth:x.k.thru n=x.k.after n):x.close=packL x.k.set.ord ((x.bits++codeL x.k.set.ord n x.k.width)++codeL x.k.set.ord (clr x.k.set+1) (x.k.after n).width):=by
 unfold WrD.close
 rw [if_neg h,ho]
 dsimp only
 rw [hn]
 show packL _ (_++(codeL _ (n:Int).toNat _++(codeL _ ((x.k.c:Int)+1).toNat (x.k.thru n).width++ [])))=_
 rw [List.append_nil,hth,Int.toNat_natCast,List.append_assoc]
 rfl
set_option maxRecDepth 100000 in
set_option maxHeartbeats 16000000 in
theorem wcI_any (x:WrD) (v:Value) (lo:Nat) (w:World) (hl: -9223372036854775808≤x.k.set.lit∧x.k.set.lit≤9223372036854775807) (hr:RdP lo w v x.k.ps) (hps:x.k.ps.length≤1048576) (hp:x.pend.length≤1048576) (hb:x.bits.length≤1048576) :
  Calls Tryz.prog 12  #[wrV x v] w (Same (optS (wcO x)) w):=by
 have cV:=fun wq hr=>wvI_any x v lo wq hl hr (by omega) (by omega) (by omega)
 have hrt:=fun (wq:World) (hu:Up w wq)=>hr.up hu
 cases hok:wrvB x
 ·rw [wcO_none hok,optS_no]
  rw [hok] at cV
  obtain ⟨a,cap,rfl,-,-,-,-⟩:=id hr
  clear hr hok
  unfold wrV at *
  go_enter Tryz.func12,Tryz.ntmps12
  go_wp2_with (first|(go_at_call 15;(with_reducible refine (cV _ (hrt _ (by (repeat (first|with_reducible exact Up.refl _|with_reducible assumption|with_reducible refine Up.alloc ?_ _|refine Up.trans ?_ (by with_reducible assumption)))))).mono ?_);rintro e w1 ⟨rfl,U1⟩;have B1:=bcell U1;have Z1:=U1.size;(try simp at Z1);(try rw [Nat.add_one_le_iff] at Z1))|fail)
  go_ret2
  refine ⟨rfl,?_⟩
  (repeat (first|with_reducible exact Up.refl _|with_reducible assumption|with_reducible refine Up.alloc ?_ _|refine Up.trans ?_ (by with_reducible assumption)))
 ·rw [wcO_some hok]
  rw [hok] at cV
  have hwo:=wrvB_ok hok
  have hk:=hwo.1
  have hb7:=hwo.2.2.2.2.2.1
  have hbit:=hwo.2.2.2.2.1
  have hp2:=hwo.2.2.2.1
  have cO:=fun wq hr=>coderOf_any x v lo wq hk hr (by omega)
  have cE:=fun wq=>endI_any x.k.set wq hk.set
  have ho:=(setOk_bd hk.set).1
  have hcb:=(clr_bd hk.set).2.1
  have hsp:=bs_size x.pend
  obtain ⟨hob1,hob2⟩:=open_len hwo
  obtain ⟨hok1,hos1⟩:=WrD.open_ok hk
  unfold optS
  simp only [Option.getD_some,Option.isSome_some]
  obtain ⟨a,cap,rfl,-,-,-,-⟩:=id hr
  by_cases hpe:x.pend= []
  ·have HC:=Lib.hid (close_nil hpe)
   have hw9:=KnD.width_bd hok1
   have cWe:=fun (a0:World) cb wx hx=>write_any a0 cb x.open.2 x.open.1 (clr x.k.set+1) wx hx hok1 (by omega) (by omega) (.inl (by unfold KnD.c;rw [hos1];omega))
   have hth:x.open.2.thru ((clr x.k.set+1:Nat):Int)=x.open.2:=by
    unfold KnD.thru
    rw [if_pos (by unfold KnD.c;rw [hos1];omega)]
   rw [hth,hos1,show ((clr x.k.set+1:Nat):Int)=(clr x.k.set:Int)+1 from by omega] at cWe
   rw [HC.out]
   have hbits:isBits (x.open.1++codeL x.k.set.ord (clr x.k.set+1) x.open.2.width):=hob2.app (isBits_code _ _ _)
   have hbl:(x.open.1++codeL x.k.set.ord (clr x.k.set+1) x.open.2.width).length≤100:=by rw [List.length_append,codeL_length];omega
   generalize x.open.1++codeL x.k.set.ord (clr x.k.set+1) x.open.2.width=b9 at *
   have cPk:=fun wq=>packI_any x.k.set.ord (bs b9) wq ho (by rw [bs_data];exact hbits) (by rw [bs_size];omega)
   rw [bs_data] at cPk
   have HPE:Hid (bs x.pend=⟨#[]⟩):=by unfold Hid;rw [hpe];rfl
   clear hok hwo hk hth hr hpe HC hob2 hbit hok1
   unfold wrV at *
   simp only [setV] at cE
   go_enter Tryz.func12,Tryz.ntmps12
   go_wp2_with (first|(go_at_call 15;(with_reducible refine (cV _ (hrt _ (by (repeat (first|with_reducible exact Up.refl _|with_reducible assumption|with_reducible refine Up.alloc ?_ _|refine Up.trans ?_ (by with_reducible assumption)))))).mono ?_);rintro e w1 ⟨rfl,U1⟩;have B1:=bcell U1;have Z1:=U1.size;(try simp at Z1);(try rw [Nat.add_one_le_iff] at Z1))|fail)
   with_reducible refine (cO _ (hrt _ (by (repeat (first|with_reducible exact Up.refl _|with_reducible assumption|with_reducible refine Up.alloc ?_ _|refine Up.trans ?_ (by with_reducible assumption)))))).mono ?_
   rintro e w2 ⟨cb,rfl,hC⟩
   have U2:=hC.1
   have hX:WrAt w.heap.size x (.slice a x.k.ps.length cap) w2:=box_up (U1.trans U2) (MapKept.heap_alloc w _).1
   have HX:=Lib.hid (show WrAt w.heap.size x (.slice a x.k.ps.length cap) w1 from box_up U1 (MapKept.heap_alloc w _).1)
   have HU1:=Lib.hid (show Up w w1 by (repeat (first|with_reducible exact Up.refl _|with_reducible assumption|with_reducible refine Up.alloc ?_ _|refine Up.trans ?_ (by with_reducible assumption))))
   obtain ⟨hbx,r0,r1,r2,r3,r4,r5,r6,r7,r8⟩:=hX.cells
   have HC:=Lib.hid hC
   have HU:=Lib.hid (show Up w w2 by (repeat (first|with_reducible exact Up.refl _|with_reducible assumption|with_reducible refine Up.alloc ?_ _|refine Up.trans ?_ (by with_reducible assumption))))
   clear hX hC U2 U1 B1 Z1
   rw [HPE.out] at r6
   go_wp2_with (first|(go_at_call 58;(with_reducible refine (cE _).mono ?_);rintro e w3 ⟨rfl,U3⟩;have B3:=bcell U3;have Z3:=U3.size;(try simp at Z3);(try rw [Nat.add_one_le_iff] at Z3))|fail)
   with_reducible refine (cWe w1 cb _ (HC.out.up U3)).mono ?_
   rintro e w4 ⟨⟨v4,rfl⟩,hC4⟩
   obtain ⟨hU4,tb,vp,vn,vi,vb,hA⟩:=hC4
   obtain ⟨gv,cv,hvb⟩:=hA.own.shape
   subst hvb
   have HA:=Lib.hid hA
   have HX4:=Lib.hid (And.intro (HX.out.up hU4) (HU1.out.trans hU4))
   clear hA hU4 HC HU U3 B3 Z3 r0 r1 r2 r3 r4 r5 r6 r7 r8 hbx cWe cO
   go_wp2_with fail
   refine wp_region_up 10 (by kernel_rfl) (by kernel_rfl) ?_
   simp only [List.take,List.drop]
   repeat (refine wpUp_step (fun K hK=>?_);go_simp;(try simp only [↓IntWalk.iteOmega]);first
    |(refine hK _ _ ?_;clear hK K)
    |(apply stepU_c
      ·intro wq hwq;(have hbq:=bcell hwq;(repeat (first|refine fills_no (by rfl) ?_|refine fills_yes (by rfl) (fun vq hvq=>?_)));simp only [List.filter_nil,fills];unfold upAt;(try ((have d1:=box_cell (HA.out.up hwq).box 1;simp at d1;obtain ⟨-,r0,r1,r2,r3,r4,r5,r6,r7,r8⟩:=(HX4.out.1.up hwq).cells;have hconv:=conv_M (m:=b9.length) (c:=cv) (HA.out.up hwq).own (Nat.le_refl _);rw [List.take_length] at hconv)));go_simp;(try go_bits);(try simp only [↓IntWalk.iteOmega]);first|exact upOut_value|(apply upOut_call;(go_at_call 41;exact cPk _)))
      go_simp;refine hK _ _ ?_;clear hK K))
   refine wpUp_nil (fun wq hwq=>?_)
   simp only [fills]
   go_wp2
   go_ret2
   exact ⟨rfl,HX4.out.2.trans hwq⟩
  ·have HPE:=isEmpty_bs hpe
   have hpos:=List.length_pos_iff.2 hpe
   have hbeg:x.beg=true:=by
    cases h:x.beg
    ·exact absurd (hwo.2.2.2.2.2.2.2 h).1 hpe
    ·rfl
   have hopen:x.open=(x.bits,x.k):=by unfold WrD.open;rw [hbeg];rfl
   have hlg:x.k.longest x.pend=x.pend:=(hwo.2.2.2.2.2.2.1).resolve_left hpe
   have hlit:=hwo.2.2.1
   obtain ⟨hfw,-⟩:=KnD.find_any hk hpe hlit
   rw [hlg] at hfw
   have hfb:=KnD.find_bd hk hfw
   have hne:=KnD.fol_ne hk hfw
   obtain ⟨n,hn⟩:=Int.eq_ofNat_of_zero_le hfb.1
   have hth:=KnD.thru_fol hk hfw
   have hka:=KnD.after_ok hk hfw
   have hwd:=KnD.width_bd hk
   have hwa:=KnD.width_bd hka
   have cC:=fun B tb vp vn vi wq hT=>codeOf_any B tb x.k vp vn vi (bs x.pend) wq hT hk (by rw [bs_size];exact hpos) (by rw [bs_size];omega) (by rw [bs_data];exact hlit)
   rw [bs_data] at cC
   simp only [hlg,if_true] at cC
   rw [hn] at hth hne hka hwa hfw cC hfb
   have HC:=Lib.hid (close_word hpe hopen hn hth)
   rw [HC.out]
   rw [hopen] at cO
   have hs9:(x.k.after n).set=x.k.set:=rfl
   have cWn:=fun (a0:World) cb wx hx=>write_any a0 cb x.k x.bits n wx hx hk (by omega) (by omega) (.inr (.inr ⟨hne.1,hne.2,hfw⟩))
   rw [hth] at cWn
   have hbl:(x.bits++codeL x.k.set.ord n x.k.width).length≤100:=by rw [List.length_append,codeL_length];omega
   have hbits:isBits (x.bits++codeL x.k.set.ord n x.k.width):=hbit.app (isBits_code _ _ _)
   generalize x.bits++codeL x.k.set.ord n x.k.width=b8 at *
   generalize x.k.after n=k9 at *
   have cWe:=fun (a0:World) cb wx hx=>write_any a0 cb k9 b8 (clr x.k.set+1) wx hx hka (by omega) (by omega) (.inl (by unfold KnD.c;rw [hs9];omega))
   have hth9:k9.thru ((clr x.k.set+1:Nat):Int)=k9:=by
    unfold KnD.thru
    rw [if_pos (by unfold KnD.c;rw [hs9];omega)]
   rw [hth9,hs9,show ((clr x.k.set+1:Nat):Int)=(clr x.k.set:Int)+1 from by omega] at cWe
   have hbits9:isBits (b8++codeL x.k.set.ord (clr x.k.set+1) k9.width):=hbits.app (isBits_code _ _ _)
   have hbl9:(b8++codeL x.k.set.ord (clr x.k.set+1) k9.width).length≤200:=by rw [List.length_append,codeL_length];omega
   generalize b8++codeL x.k.set.ord (clr x.k.set+1) k9.width=b9 at *
   have cPk:=fun wq=>packI_any x.k.set.ord (bs b9) wq ho (by rw [bs_data];exact hbits9) (by rw [bs_size];omega)
   rw [bs_data] at cPk
   clear hok hwo hk hth hr hpe HC hob2 hbit hok1 hlg hlit hfw hne hn hka hs9 hth9 hbeg hopen
   unfold wrV at *
   simp only [setV] at cE
   go_enter Tryz.func12,Tryz.ntmps12
   go_wp2_with (first|(go_at_call 15;(with_reducible refine (cV _ (hrt _ (by (repeat (first|with_reducible exact Up.refl _|with_reducible assumption|with_reducible refine Up.alloc ?_ _|refine Up.trans ?_ (by with_reducible assumption)))))).mono ?_);rintro e w1 ⟨rfl,U1⟩;have B1:=bcell U1;have Z1:=U1.size;(try simp at Z1);(try rw [Nat.add_one_le_iff] at Z1))|fail)
   with_reducible refine (cO _ (hrt _ (by (repeat (first|with_reducible exact Up.refl _|with_reducible assumption|with_reducible refine Up.alloc ?_ _|refine Up.trans ?_ (by with_reducible assumption)))))).mono ?_
   rintro e w2 ⟨cb,rfl,hC⟩
   have U2:=hC.1
   have hX:WrAt w.heap.size x (.slice a x.k.ps.length cap) w2:=box_up (U1.trans U2) (MapKept.heap_alloc w _).1
   have HX:=Lib.hid (show WrAt w.heap.size x (.slice a x.k.ps.length cap) w1 from box_up U1 (MapKept.heap_alloc w _).1)
   have HU1:=Lib.hid (show Up w w1 by (repeat (first|with_reducible exact Up.refl _|with_reducible assumption|with_reducible refine Up.alloc ?_ _|refine Up.trans ?_ (by with_reducible assumption))))
   obtain ⟨hbx,r0,r1,r2,r3,r4,r5,r6,r7,r8⟩:=hX.cells
   have HC:=Lib.hid hC
   clear hX hC U2 U1 B1 Z1
   go_wp2_with fail
   obtain ⟨hU2,tb2,vp2,vn2,vi2,vb2,hA2⟩:=id HC.out
   have HA2:=Lib.hid hA2
   have HXX:=Lib.hid (HX.out.up hU2)
   clear hA2 hU2
   refine wp_region_up 11 (by kernel_rfl) (by kernel_rfl) ?_
   simp only [List.take,List.drop]
   repeat (refine wpUp_step (fun K hK=>?_);go_simp;(try simp only [↓IntWalk.iteOmega]);first
    |(refine hK _ _ ?_;clear hK K)
    |(apply stepU_c
      ·intro wq hwq;(have hbq:=bcell hwq;(repeat (first|refine fills_no (by rfl) ?_|refine fills_yes (by rfl) (fun vq hvq=>?_)));simp only [List.filter_nil,fills];unfold upAt;(try ((have d0:=box_cell (HA2.out.up hwq).box 0;simp at d0;obtain ⟨-,r0,r1,r2,r3,r4,r5,r6,r7,r8⟩:=(HXX.out.up hwq).cells)));go_simp;(try go_bits);(try simp only [↓IntWalk.iteOmega]);first|exact upOut_value|(apply upOut_call;(go_at_call 57;exact cC _ _ _ _ _ _ (HA2.out.up hwq).tree)))
      go_simp;refine hK _ _ ?_;clear hK K))
   refine wpUp_nil (fun wq hwq=>?_)
   simp only [fills]
   go_wp2_with fail
   with_reducible refine (cWn w1 cb _ (HC.out.up hwq)).mono ?_
   rintro e w3 ⟨⟨v3,rfl⟩,hC3⟩
   have HC3:=Lib.hid hC3
   obtain ⟨hbx,r0,r1,r2,r3,r4,r5,r6,r7,r8⟩:=(HX.out.up hC3.1).cells
   clear hC3 HC HA2 HXX hwq
   go_wp2_with (first|(go_at_call 58;(with_reducible refine (cE _).mono ?_);rintro e w3 ⟨rfl,U3⟩;have B3:=bcell U3;have Z3:=U3.size;(try simp at Z3);(try rw [Nat.add_one_le_iff] at Z3))|fail)
   with_reducible refine (cWe w1 cb _ (HC3.out.up U3)).mono ?_
   rintro e w4 ⟨⟨v4,rfl⟩,hC4⟩
   obtain ⟨hU4,tb,vp,vn,vi,vb,hA⟩:=hC4
   obtain ⟨gv,cv,hvb⟩:=hA.own.shape
   subst hvb
   have HA:=Lib.hid hA
   have HX4:=Lib.hid (And.intro (HX.out.up hU4) (HU1.out.trans hU4))
   clear hA hU4 HC3 U3 B3 Z3 r0 r1 r2 r3 r4 r5 r6 r7 r8 hbx cWe cO
   go_wp2_with fail
   refine wp_region_up 10 (by kernel_rfl) (by kernel_rfl) ?_
   simp only [List.take,List.drop]
   repeat (refine wpUp_step (fun K hK=>?_);go_simp;(try simp only [↓IntWalk.iteOmega]);first
    |(refine hK _ _ ?_;clear hK K)
    |(apply stepU_c
      ·intro wq hwq;(have hbq:=bcell hwq;(repeat (first|refine fills_no (by rfl) ?_|refine fills_yes (by rfl) (fun vq hvq=>?_)));simp only [List.filter_nil,fills];unfold upAt;(try ((have d1:=box_cell (HA.out.up hwq).box 1;simp at d1;obtain ⟨-,r0,r1,r2,r3,r4,r5,r6,r7,r8⟩:=(HX4.out.1.up hwq).cells;have hconv:=conv_M (m:=b9.length) (c:=cv) (HA.out.up hwq).own (Nat.le_refl _);rw [List.take_length] at hconv)));go_simp;(try go_bits);(try simp only [↓IntWalk.iteOmega]);first|exact upOut_value|(apply upOut_call;(go_at_call 41;exact cPk _)))
      go_simp;refine hK _ _ ?_;clear hK K))
   refine wpUp_nil (fun wq hwq=>?_)
   simp only [fills]
   go_wp2
   go_ret2
   exact ⟨rfl,HX4.out.2.trans hwq⟩
end Go.Proofs.YtekogcjdaolcbaaGreatDoor

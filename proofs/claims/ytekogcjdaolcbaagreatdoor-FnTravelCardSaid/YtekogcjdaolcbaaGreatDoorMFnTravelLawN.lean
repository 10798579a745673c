/- Texts joined into one: the walks and laws that the last text leans on. Conditions: as each says. -/
import Derived.Test.YtekogcjdaolcbaaGreatDoorMFnTravelLawM
import Derived.Test.YtekogcjdaolcbaaGreatDoorMFnTravelLawD

set_option linter.unusedVariables false
set_option linter.unusedSimpArgs false
/- Walks of the program's NewWriter, WriteData, CloseWriter, LongestWord. Conditions: the writer's pairs can be read; its texts are no longer than 2^20 bytes. -/
namespace Go.Proofs.YtekogcjdaolcbaaGreatDoor
open Go Go.RowKit
theorem conv_cells {w:World} {g off n cap:Nat} {l:List UInt8} (hn:n=l.length) (h: ∀ i x,l[i]? =some x→w.cell? ⟨g,off+i,none⟩=some (.int .u8 x.toNat)) :
  (convert 22 9 (.slice (some ⟨g,off,none⟩) n cap)).run Tryz.prog w= .ok (.string (bs l)) w:=by
 have:=run_convert_bytes_arg (P:=Tryz.prog) w 22 5 Tryz.underlying22 Tryz.underlying5 g off n cap (l.map fun b=>(b.toNat:Int)) (by simp [hn]) (fun i hi=>by
  have hi':i<l.length:=by omega
  rw [h i _ (List.getElem?_eq_getElem hi')]
  simp [List.getD_eq_getElem?_getD,hi']) 9 Tryz.underlying9
 rw [this,bs_num]
theorem conv_M {w:World} {base g n cap m c:Nat} {d:List UInt8} (h:ownM w base (.slice (some ⟨g,0,none⟩) n cap) d) (hm:m≤d.length):(convert 22 9 (.slice (some ⟨g,0,none⟩) m c)).run Tryz.prog w= .ok (.string (bs (d.take m))) w:=by
 obtain ⟨g',cap',e,-,-,-,-,hc⟩:=h.cells
 simp only [Value.slice.injEq,Option.some.injEq,Addr.mk.injEq,and_true] at e
 obtain ⟨rfl,-,-⟩:=e
 refine conv_cells (by rw [List.length_take];omega) fun i x hi=>?_
 rw [Nat.zero_add]
 rw [List.getElem?_take] at hi
 split at hi
 ·exact hc i x hi
 ·cases hi
theorem conv_Md {w:World} {base g n cap m q c:Nat} {d:List UInt8} (h:ownM w base (.slice (some ⟨g,0,none⟩) n cap) d) (hm:m≤d.length) (hq:q=d.length - m):(convert 22 9 (.slice (some ⟨g,m,none⟩) q c)).run Tryz.prog w= .ok (.string (bs (d.drop m))) w:=by
 obtain ⟨g',cap',e,-,-,-,-,hc⟩:=h.cells
 simp only [Value.slice.injEq,Option.some.injEq,Addr.mk.injEq,and_true] at e
 obtain ⟨rfl,-,-⟩:=e
 refine conv_cells (by rw [List.length_drop];omega) fun i x hi=>?_
 rw [List.getElem?_drop] at hi
 exact hc (m+i) x hi
theorem conv_If {w:World} {base g n cap q c:Nat} {d:List UInt8} (h:ownM w base (.slice (some ⟨g,0,none⟩) n cap) d) (hq:q≤d.length):(convert 22 9 (.slice (if cap=q then some ⟨g,0,none⟩ else some ⟨g,q,none⟩) (d.length - q) c)).run Tryz.prog w= .ok (.string (bs (d.drop q))) w:=by
 split
 ·next hcq =>
  obtain ⟨g',cap',e,-,-,h1,-,hc⟩:=h.cells
  simp only [Value.slice.injEq,Option.some.injEq,Addr.mk.injEq,and_true] at e
  obtain ⟨rfl,-,rfl⟩:=e
  have:d.drop q= []:=List.drop_eq_nil_of_le (by omega)
  rw [this]
  exact conv_cells (off:=0) (by simp;omega) (fun i x hi=>by simp at hi)
 ·exact conv_Md h hq rfl
def WrW (w:World) (b:Nat) (x:WrD) (v:Value):World:=(((KnW w b x.k v).setCell ⟨b,6,none⟩ (.string (bs x.pend))).setCell ⟨b,7,none⟩ (.string (bs x.bits))).setCell ⟨b,8,none⟩ (.bool x.beg)
theorem WrAt.store {b:Nat} {x0:WrD} {v0:Value} {w:World} (h:WrAt b x0 v0 w) (x:WrD) (v:Value):WrAt b x v (WrW w b x v):=by
 unfold WrAt at *
 unfold WrW KnW
 have:=box_set (box_set (box_set (box_set (box_set (box_set (box_set (box_set (box_set h 0 (.int .i64 x.k.set.ord)) 1 (.int .i64 x.k.set.lit)) 2 (.int .i64 x.k.set.most)) 3 v) 4 (.int .i64 x.k.base)) 5 (.int .i64 x.k.last)) 6 (.string (bs x.pend))) 7 (.string (bs x.bits))) 8 (.bool x.beg)
 simpa using this
theorem WrW.up {a w:World} (h:Up a w) {b:Nat} (hb:a.heap.size≤b) (x:WrD) (v:Value):Up a (WrW w b x v):=by
 unfold WrW
 exact (((KnW.up h hb x.k v).set (p:=⟨b,6,none⟩) hb _).set (p:=⟨b,7,none⟩) hb _).set (p:=⟨b,8,none⟩) hb _
theorem WrW.own {w:World} {base:Nat} {e:TypeId} {size n:Nat} {v:Value} {xs:List Value} (h:w.ownsRow base e size v n xs) {b:Nat} (hb:some b≠v.ownBlock) (x:WrD) (u:Value):(WrW w b x u).ownsRow base e size v n xs:=by
 unfold WrW
 exact ownsRow_setb (ownsRow_setb (ownsRow_setb (KnW.own h hb x.k u) hb 6 _) hb 7 _) hb 8 _
theorem WrW.other {w:World} {b b':Nat} (hb:b'≠b) (x:WrD) (v:Value):(WrW w b x v).heap[b']? =w.heap[b']? :=by
 unfold WrW
 exact (Below.heap_setCell _ _ _ _ hb).trans ((Below.heap_setCell _ _ _ _ hb).trans ((Below.heap_setCell _ _ _ _ hb).trans (KnW.other hb x.k v)))
def wr0:WrD:=⟨⟨⟨0,0,0⟩,[],0,0⟩,[],[],false⟩
theorem WrAt.zero {w:World} {b:Nat} (h:w.heap[b]? =some (.cells #[.int .i64 0,.int .i64 0,.int .i64 0,.slice none 0 0,.int .i64 0,.int .i64 0,.string ⟨#[]⟩,.string ⟨#[]⟩,.bool false] 29)):WrAt b wr0 (.slice none 0 0) w:=h
def NwPost (k:KnD) (w:World) (e:Ending) (w':World):Prop :=
 if validK k then ∃ v,e= .returned (.tuple #[wrV ⟨k,[],[],false⟩ v,.bool true])∧ownPr w' w.heap.size v k.ps∧Up w w' else e= .returned (.tuple #[noWr,.bool false])∧Up w w'
set_option maxRecDepth 100000 in
set_option maxHeartbeats 8000000 in
theorem nwI_any (k:KnD) (v:Value) (lo:Nat) (w:World) (hl: -9223372036854775808≤k.set.lit∧k.set.lit≤9223372036854775807) (hr:RdP lo w v k.ps) (hps:k.ps.length≤1048576) :
  Calls Tryz.prog 22  #[kV k v] w (NwPost k w):=by
 have cV:=fun wq hr=>kvI_gen k v lo wq hl hr (by omega)
 have cY:=fun wx hr=>copyI_any k v lo wx hr (by omega)
 have hrt:=fun (wq:World) (hu:Up w wq)=>hr.up hu
 obtain ⟨a,cap,rfl,-,-,-,-⟩:=id hr
 unfold NwPost
 cases h1:validK k
 ·simp only [Bool.false_eq_true,if_false]
  rw [h1] at cV
  clear h1 hr
  simp only [kV] at *
  go_enter Tryz.func22,Tryz.ntmps22
  go_wp2_with (first|((go_at_call 64;(with_reducible refine (cV _ (hrt _ (by (repeat (first|with_reducible exact Up.refl _|with_reducible assumption|with_reducible refine Up.set ?_ (by first|exact Nat.le_refl _|(simp only [];omega)|(simp;omega)) _|with_reducible refine Up.alloc ?_ _|refine Up.trans ?_ (by with_reducible assumption)))))).mono ?_);rintro e w1 ⟨rfl,U1⟩;have B1:=bcell U1;have Z1:=U1.size;(try simp at Z1);(try rw [Nat.add_one_le_iff] at Z1));obtain ⟨hbz,q0,q1,q2,q3,q4,q5,q6,q7,q8⟩:=WrAt.cells (WrAt.zero (box_up U1 (alloc2 w _ _)));simp only [wr0] at q0 q1 q2 q3 q4 q5 q6 q7 q8;have hfz:=box_free (box_up U1 (alloc2 w _ _)))|fail)
  obtain ⟨hbz,q0,q1,q2,q3,q4,q5,q6,q7,q8⟩:=WrAt.cells (WrAt.zero (box_up U1 (alloc2 w _ _)))
  simp only [wr0] at q0 q1 q2 q3 q4 q5 q6 q7 q8
  refine bodyPost_ret (v:= .tuple #[noWr,.bool false]) (by simp [results,Tryz.results22,go_sem,q0,q1,q2,q3,q4,q5,q6,q7,q8];rfl) rfl ⟨rfl,?_⟩
  (repeat (first|with_reducible exact Up.refl _|with_reducible assumption|with_reducible refine Up.set ?_ (by first|exact Nat.le_refl _|(simp only [];omega)|(simp;omega)) _|with_reducible refine Up.alloc ?_ _|refine Up.trans ?_ (by with_reducible assumption)))
 ·simp only [if_true]
  rw [h1] at cV
  clear h1 hr
  simp only [kV] at *
  go_enter Tryz.func22,Tryz.ntmps22
  go_wp2_with (first|((go_at_call 64;(with_reducible refine (cV _ (hrt _ (by (repeat (first|with_reducible exact Up.refl _|with_reducible assumption|with_reducible refine Up.set ?_ (by first|exact Nat.le_refl _|(simp only [];omega)|(simp;omega)) _|with_reducible refine Up.alloc ?_ _|refine Up.trans ?_ (by with_reducible assumption)))))).mono ?_);rintro e w1 ⟨rfl,U1⟩;have B1:=bcell U1;have Z1:=U1.size;(try simp at Z1);(try rw [Nat.add_one_le_iff] at Z1)))|(go_at_call 35;(with_reducible refine (cY _ (hrt _ (by (repeat (first|with_reducible exact Up.refl _|with_reducible assumption|with_reducible refine Up.set ?_ (by first|exact Nat.le_refl _|(simp only [];omega)|(simp;omega)) _|with_reducible refine Up.alloc ?_ _|refine Up.trans ?_ (by with_reducible assumption)))))).mono ?_);rintro e w2 ⟨v2,rfl,ho2,U2⟩;obtain ⟨a2,c2,rfl⟩:=ownsRow_shape ho2;simp only [kV];have HZ:=Lib.hid (WrAt.zero (box_up (U1.trans U2) (alloc2 w _ _)));obtain ⟨hbz,q0,q1,q2,q3,q4,q5,q6,q7,q8⟩:=WrAt.cells HZ.out;simp only [wr0] at q0 q1 q2 q3 q4 q5 q6 q7 q8;have hfz:=box_free HZ.out;have HO:=Lib.hid ho2;have hs1:=U1.size;simp at hs1;have HU:=Lib.hid (show Up w w2 by (repeat (first|with_reducible exact Up.refl _|with_reducible assumption|with_reducible refine Up.set ?_ (by first|exact Nat.le_refl _|(simp only [];omega)|(simp;omega)) _|with_reducible refine Up.alloc ?_ _|refine Up.trans ?_ (by with_reducible assumption))));clear ho2)|fail)
  refine bodyPost_ret (v:= .tuple #[wrV ⟨k,[],[],false⟩ (.slice a2 k.ps.length c2),.bool true]) (by simp [results,Tryz.results22,go_sem,q0,q1,q2,q3,q4,q5,q6,q7,q8];rfl) rfl ⟨_,rfl,?_,?_⟩
  ·exact WrW.own (b:=w.heap.size+1) (x:=⟨k,[],[],false⟩) (ownsRow_base HO.out (by omega)) (fun e=>by have:=(HO.out.lt _ e.symm).1;omega) _
  ·exact WrW.up HU.out (Nat.le_succ _) ⟨k,[],[],false⟩ (.slice a2 k.ps.length c2)
theorem alloc3 (w:World) (A B C:Obj):(((w.alloc A).alloc B).alloc C).heap[w.heap.size+1]? =some B:=box_up ((Up.refl _).alloc _) (alloc2 w A B)
theorem wdP_none {w w':World} {e:Ending} (he:e= .returned (.tuple #[noWr,.string ⟨#[]⟩,.bool false])) (hu:Up w w'):WdPost none w e w':=⟨he,hu⟩
set_option maxRecDepth 100000 in
set_option maxHeartbeats 8000000 in
theorem wdI_no (x:WrD) (v:Value) (lo:Nat) (d:List UInt8) (w:World) (hno:(wrvB x && fitsB x.k.set (x.pend++d))=false) (hl: -9223372036854775808≤x.k.set.lit∧x.k.set.lit≤9223372036854775807) (hr:RdP lo w v x.k.ps) (hps:x.k.ps.length≤1048576) (hp:x.pend.length≤1048576) (hb:x.bits.length≤1048576) (hd:d.length≤1048576) :
  Calls Tryz.prog 7  #[wrV x v,.string (bs d)] w (WdPost none w):=by
 have cV:=fun wq hr=>wvI_any x v lo wq hl hr (by omega) (by omega) (by omega)
 have hrt:=fun (wq:World) (hu:Up w wq)=>hr.up hu
 have hsp:=bs_size x.pend
 have hsd:=bs_size d
 obtain ⟨a,cap,rfl,-,-,-,-⟩:=id hr
 cases h1:wrvB x
 ·rw [h1] at cV
  clear h1 hr hno
  unfold wrV at *
  go_enter Tryz.func7,Tryz.ntmps7
  go_wp2_with (first|((go_at_call 15;(with_reducible refine (cV _ (hrt _ (by (repeat (first|with_reducible exact Up.refl _|with_reducible assumption|with_reducible refine Up.set ?_ (by first|exact Nat.le_refl _|(simp only [];omega)|(simp;omega)) _|with_reducible refine Up.alloc ?_ _|refine Up.trans ?_ (by with_reducible assumption)))))).mono ?_);rintro e w1 ⟨rfl,U1⟩;have B1:=bcell U1;have Z1:=U1.size;(try simp at Z1);(try rw [Nat.add_one_le_iff] at Z1));obtain ⟨hbz,q0,q1,q2,q3,q4,q5,q6,q7,q8⟩:=WrAt.cells (WrAt.zero (box_up U1 (alloc3 w _ _ _)));simp only [wr0] at q0 q1 q2 q3 q4 q5 q6 q7 q8;have hfz:=box_free (box_up U1 (alloc3 w _ _ _)))|fail)
  obtain ⟨hbz,q0,q1,q2,q3,q4,q5,q6,q7,q8⟩:=WrAt.cells (WrAt.zero (box_up U1 (alloc3 w _ _ _)))
  simp only [wr0] at q0 q1 q2 q3 q4 q5 q6 q7 q8
  refine bodyPost_ret (v:= .tuple #[noWr,.string ⟨#[]⟩,.bool false]) (by simp [results,Tryz.results7,go_sem,q0,q1,q2,q3,q4,q5,q6,q7,q8];rfl) rfl (wdP_none rfl ?_)
  (repeat (first|with_reducible exact Up.refl _|with_reducible assumption|with_reducible refine Up.set ?_ (by first|exact Nat.le_refl _|(simp only [];omega)|(simp;omega)) _|with_reducible refine Up.alloc ?_ _|refine Up.trans ?_ (by with_reducible assumption)))
 ·rw [h1,Bool.true_and] at hno
  have cF:=fun wq=>fitsI_any x.k.set (bs (x.pend++d)) wq hl (by rw [bs_size,List.length_append];omega)
  rw [bs_data,hno,←bs_app] at cF
  rw [h1] at cV
  clear h1 hr hno
  unfold wrV at *
  simp only [kV,setV] at *
  go_enter Tryz.func7,Tryz.ntmps7
  go_wp2_with (first|((go_at_call 15;(with_reducible refine (cV _ (hrt _ (by (repeat (first|with_reducible exact Up.refl _|with_reducible assumption|with_reducible refine Up.set ?_ (by first|exact Nat.le_refl _|(simp only [];omega)|(simp;omega)) _|with_reducible refine Up.alloc ?_ _|refine Up.trans ?_ (by with_reducible assumption)))))).mono ?_);rintro e w1 ⟨rfl,U1⟩;have B1:=bcell U1;have Z1:=U1.size;(try simp at Z1);(try rw [Nat.add_one_le_iff] at Z1)))|((go_at_call 34;(with_reducible refine (cF _).mono ?_);rintro e w2 ⟨rfl,U2⟩;have B2:=bcell U2;have Z2:=U2.size;(try simp at Z2);(try rw [Nat.add_one_le_iff] at Z2));obtain ⟨hbz,q0,q1,q2,q3,q4,q5,q6,q7,q8⟩:=WrAt.cells (WrAt.zero (box_up (U1.trans U2) (alloc3 w _ _ _)));simp only [wr0] at q0 q1 q2 q3 q4 q5 q6 q7 q8;have hfz:=box_free (box_up (U1.trans U2) (alloc3 w _ _ _)))|fail)
  obtain ⟨hbz,q0,q1,q2,q3,q4,q5,q6,q7,q8⟩:=WrAt.cells (WrAt.zero (box_up (U1.trans U2) (alloc3 w _ _ _)))
  simp only [wr0] at q0 q1 q2 q3 q4 q5 q6 q7 q8
  refine bodyPost_ret (v:= .tuple #[noWr,.string ⟨#[]⟩,.bool false]) (by simp [results,Tryz.results7,go_sem,q0,q1,q2,q3,q4,q5,q6,q7,q8];rfl) rfl (wdP_none rfl ?_)
  (repeat (first|with_reducible exact Up.refl _|with_reducible assumption|with_reducible refine Up.set ?_ (by first|exact Nat.le_refl _|(simp only [];omega)|(simp;omega)) _|with_reducible refine Up.alloc ?_ _|refine Up.trans ?_ (by with_reducible assumption)))
theorem wr_first (x:WrD) (v:Value) (w:World) (B C:Obj):WrAt w.heap.size x v (((w.alloc (.cells #[.int .i64 x.k.set.ord,.int .i64 x.k.set.lit,.int .i64 x.k.set.most,v,.int .i64 x.k.base,.int .i64 x.k.last,.string (bs x.pend),.string (bs x.bits),.bool x.beg] 29)).alloc B).alloc C):=box_up (((Up.refl _).alloc _).alloc _) (MapKept.heap_alloc w _).1
set_option maxRecDepth 100000 in
set_option maxHeartbeats 8000000 in
theorem wdI_nil (x:WrD) (v:Value) (lo:Nat) (w:World) (hok:wrvB x=true) (hfit:fitsB x.k.set x.pend=true) (hl: -9223372036854775808≤x.k.set.lit∧x.k.set.lit≤9223372036854775807) (hr:RdP lo w v x.k.ps) (hps:x.k.ps.length≤1048576) (hp:x.pend.length≤1048576) (hb:x.bits.length≤1048576) :
  Calls Tryz.prog 7  #[wrV x v,.string ⟨#[]⟩] w (WdPost (some (x,[])) w):=by
 have cV:=fun wq hr=>wvI_any x v lo wq hl hr (by omega) (by omega) (by omega)
 have hrt:=fun (wq:World) (hu:Up w wq)=>hr.up hu
 have hsp:=bs_size x.pend
 have cF:=fun wq=>fitsI_any x.k.set (bs x.pend) wq hl (by rw [bs_size];omega)
 have cY:=fun wx hr=>copyI_any x.k v lo wx hr (by omega)
 rw [bs_data,hfit] at cF
 rw [hok] at cV
 have hcat:bs x.pend++(⟨#[]⟩:ByteArray)=bs x.pend:=by
  have:=bs_app x.pend []
  rw [List.append_nil] at this
  exact this
 rw [← hcat] at cF
 obtain ⟨a,cap,rfl,-,-,-,-⟩:=id hr
 unfold WdPost
 simp only []
 clear hok hfit hr hcat
 unfold wrV at *
 simp only [kV,setV] at *
 go_enter Tryz.func7,Tryz.ntmps7
 go_wp2_with (first|((go_at_call 15;(with_reducible refine (cV _ (hrt _ (by (repeat (first|with_reducible exact Up.refl _|with_reducible assumption|with_reducible refine Up.alloc ?_ _|refine Up.trans ?_ (by with_reducible assumption)))))).mono ?_);rintro e w1 ⟨rfl,U1⟩;have B1:=bcell U1;have Z1:=U1.size;(try simp at Z1);(try rw [Nat.add_one_le_iff] at Z1)))|((go_at_call 34;(with_reducible refine (cF _).mono ?_);rintro e w2 ⟨rfl,U2⟩;have B2:=bcell U2;have Z2:=U2.size;(try simp at Z2);(try rw [Nat.add_one_le_iff] at Z2));obtain ⟨hbx,r0,r1,r2,r3,r4,r5,r6,r7,r8⟩:=WrAt.cells (((wr_first x (.slice a x.k.ps.length cap) w _ _).up U1).up U2))|(go_at_call 35;(with_reducible refine (cY _ (hrt _ (by (repeat (first|with_reducible exact Up.refl _|with_reducible assumption|with_reducible refine Up.alloc ?_ _|refine Up.trans ?_ (by with_reducible assumption)))))).mono ?_);rintro e w3 ⟨v3,rfl,ho3,U3⟩;obtain ⟨a3,c3,rfl⟩:=ownsRow_shape ho3;simp only [kV];have HZ:=Lib.hid (WrAt.zero (box_up ((U1.trans U2).trans U3) (alloc3 w _ _ _)));have HX:=Lib.hid ((((wr_first x (.slice a x.k.ps.length cap) w _ _).up U1).up U2).up U3);obtain ⟨hbz,q0,q1,q2,q3,q4,q5,q6,q7,q8⟩:=WrAt.cells HZ.out;simp only [wr0] at q0 q1 q2 q3 q4 q5 q6 q7 q8;obtain ⟨hbx,r0,r1,r2,r3,r4,r5,r6,r7,r8⟩:=WrAt.cells HX.out;have hfx:=box_free HX.out;have hfz:=box_free HZ.out;have HO:=Lib.hid ho3;have hs1:=U1.size;have hs2:=U2.size;simp at hs1;have HU:=Lib.hid (show Up w w3 by (repeat (first|with_reducible exact Up.refl _|with_reducible assumption|with_reducible refine Up.alloc ?_ _|refine Up.trans ?_ (by with_reducible assumption))));clear ho3)|fail)
 refine bodyPost_ret (v:= .tuple #[.agg #[.int .i64 x.k.set.ord,.int .i64 x.k.set.lit,.int .i64 x.k.set.most,.slice a3 x.k.ps.length c3,.int .i64 x.k.base,.int .i64 x.k.last,.string (bs x.pend),.string (bs x.bits),.bool x.beg],.string (bs []),.bool true]) (by simp [results,Tryz.results7,go_sem,q0,q1,q2,q3,q4,q5,q6,q7,q8,r0,r1,r2,r3,r4,r5,r6,r7,r8];rfl) rfl ⟨.slice a3 x.k.ps.length c3,rfl,?_,?_⟩
 ·have ho:=ownsRow_base HO.out (show w.heap.size≤w2.heap.size by omega)
  have hlo:=fun b e=>(HO.out.lt b e).1
  exact WrW.own (b:=w.heap.size+1) (KnW.own ho (b:=w.heap.size) (fun e=>by have:=hlo _ e.symm;omega) x.k _) (fun e=>by have:=hlo _ e.symm;omega) x _
 ·exact WrW.up (KnW.up HU.out (Nat.le_refl _) x.k _) (Nat.le_succ _) x _
def RelWl (T:List UInt8 × KnD × List UInt8) (s:SetD) (a0:World) (cb:Nat) (t:Value) (wr:World):Prop:= ∃ (k:KnD) (d b:List UInt8) (m:Nat),t= .string (bs d)∧WlD T s m k d b∧CdEx a0 cb k b wr
set_option maxRecDepth 100000 in
set_option maxHeartbeats 16000000 in
theorem wdI_main (x:WrD) (v:Value) (lo:Nat) (d:List UInt8) (w:World) (hok:wrvB x=true) (hfit:fitsB x.k.set (x.pend++d)=true) (hd0:d≠ []) (hl: -9223372036854775808≤x.k.set.lit∧x.k.set.lit≤9223372036854775807) (hr:RdP lo w v x.k.ps) :
  Calls Tryz.prog 7  #[wrV x v,.string (bs d)] w (WdPost (some (x.write d)) w):=by
 have hwo:=wrvB_ok hok
 obtain ⟨f1,f2,f3⟩:=fitsB_lits hfit
 have hk:=hwo.1
 have hb7:=hwo.2.2.2.2.2.1
 have hpl:=hk.nums.2.2.2.1
 have hp2:=hwo.2.2.2.1
 have cV:=fun wq hr=>wvI_any x v lo wq hl hr (by omega) (by omega) (by omega)
 have hrt:=fun (wq:World) (hu:Up w wq)=>hr.up hu
 have hsp:=bs_size x.pend
 have hsd:=bs_size d
 have hdl:d.length≤2000:=by rw [List.length_append] at f2;omega
 have cF:=fun wq=>fitsI_any x.k.set (bs (x.pend++d)) wq hl (by rw [bs_size,List.length_append];omega)
 rw [bs_data,hfit,←bs_app] at cF
 rw [hok] at cV
 have cO:=fun wq hr=>coderOf_any x v lo wq hk hr (by omega)
 have cC0:=fun w=>clearI_any x.k.set w hk.set
 have HST:=Lib.hid (WlD.start hwo hd0 (fun b hb=>f3 b (List.mem_append_right _ hb)) f2)
 have hwr:Hid (x.write d=(⟨(x.codes d).2.1,(x.codes d).2.2,(x.all d).drop ((x.all d).length / 8 * 8),true⟩,packL x.k.set.ord ((x.all d).take ((x.all d).length / 8 * 8)))):=by
  unfold Hid WrD.write
  rw [if_neg hd0]
 rw [hwr.out]
 obtain ⟨T1,hT1⟩: ∃ T1,Hid (T1=x.all d):=⟨_,rfl⟩
 obtain ⟨T2,hT2⟩: ∃ T2,Hid (T2=x.codes d):=⟨_,rfl⟩
 rw [← hT1.out,←hT2.out] at HST ⊢
 have HDE:=isEmpty_bs hd0
 have ho:=(setOk_bd hk.set).1
 have HS:=Lib.hid hk.set
 obtain ⟨a,cap,rfl,-,-,-,-⟩:=id hr
 have hso:=hk.set
 clear hok hfit hr hwo f1 f3 hwr hT1 hT2 hd0 hk
 unfold wrV at *
 simp only [kV,setV] at *
 go_enter Tryz.func7,Tryz.ntmps7
 go_wp2_with (first|((go_at_call 15;(with_reducible refine (cV _ (hrt _ (by (repeat (first|with_reducible exact Up.refl _|with_reducible assumption|with_reducible refine Up.alloc ?_ _|refine Up.trans ?_ (by with_reducible assumption)))))).mono ?_);rintro e w1 ⟨rfl,U1⟩;have B1:=bcell U1;have Z1:=U1.size;(try simp at Z1);(try rw [Nat.add_one_le_iff] at Z1)))|((go_at_call 34;(with_reducible refine (cF _).mono ?_);rintro e w2 ⟨rfl,U2⟩;have B2:=bcell U2;have Z2:=U2.size;(try simp at Z2);(try rw [Nat.add_one_le_iff] at Z2));obtain ⟨hbx,r0,r1,r2,r3,r4,r5,r6,r7,r8⟩:=WrAt.cells (((wr_first x (.slice a x.k.ps.length cap) w _ _).up U1).up U2))|fail)
 with_reducible refine (cO _ (hrt _ (by (repeat (first|with_reducible exact Up.refl _|with_reducible assumption|with_reducible refine Up.alloc ?_ _|refine Up.trans ?_ (by with_reducible assumption)))))).mono ?_
 rintro e w3 ⟨cb,rfl,hC⟩
 have U3:=hC.1
 have HX:=Lib.hid (((wr_first x (.slice a x.k.ps.length cap) w _ _).up U1).up U2)
 have HZ:=Lib.hid (WrAt.zero (box_up (U1.trans U2) (alloc3 w _ _ _)))
 have hS3:SetAt (w.heap.size+1+1) x.k.set.ord x.k.set.lit x.k.set.most w2:=box_up (U1.trans U2) (by have:=(MapKept.heap_alloc ((w.alloc (.cells #[.int .i64 x.k.set.ord,.int .i64 x.k.set.lit,.int .i64 x.k.set.most,.slice a x.k.ps.length cap,.int .i64 x.k.base,.int .i64 x.k.last,.string (bs x.pend),.string (bs x.bits),.bool x.beg] 29)).alloc (.cells #[.int .i64 0,.int .i64 0,.int .i64 0,.slice none 0 0,.int .i64 0,.int .i64 0,.string ⟨#[]⟩,.string ⟨#[]⟩,.bool false] 29)) (.cells #[.int .i64 x.k.set.ord,.int .i64 x.k.set.lit,.int .i64 x.k.set.most] 24)).1;simpa using this)
 have HS3:=Lib.hid hS3
 have HU:=Lib.hid (show Up w w2 by (repeat (first|with_reducible exact Up.refl _|with_reducible assumption|with_reducible refine Up.alloc ?_ _|refine Up.trans ?_ (by with_reducible assumption))))
 have hw2s:w.heap.size+3≤w2.heap.size:=by have h1:=U1.size;have h2:=U2.size;simp at h1;omega
 have HC:=Lib.hid hC
 obtain ⟨hbx,r0,r1,r2,r3,r4,r5,r6,r7,r8⟩:=WrAt.cells (HX.out.up U3)
 clear hC U1 U2 U3 B1 B2 Z1 Z2 hS3 cV cF cO hrt
 go_wp2
 go_loopw [9] (fun t wr=>RelWl (T1,T2.2) x.k.set w2 cb t wr) (fun t _=>slen t)
 case atStart=>exact ⟨x.open.2,x.pend++d,x.open.1,_,congrArg Value.string (bs_app _ _),HST.out,HC.out⟩
 case round =>
  clear HST HC r0 r1 r2 r3 r4 r5 r6 r7 r8
  obtain ⟨k,e,b,m,rfl,hD,hCx⟩:=hrel
  obtain ⟨hUx,tb,vp,vn,vi,vb,hC⟩:=id hCx
  have hok:=hD.ok
  have hset:=hD.set
  have hne:=hD.ne
  have hle2:=hD.le
  have hsum:=hD.sum
  have hpos:=List.length_pos_iff.2 hne
  have hse:=bs_size e
  have cL:=fun wq hT=>longest_any w2.heap.size tb k vp vn vi (bs e) wq hT hok (by rw [bs_size];exact hpos) (by rw [bs_size];omega) (by rw [bs_data];exact hD.lits)
  rw [bs_data] at cL
  have d0:=box_cell hC.box 0
  simp at d0
  have hcbl:=hC.lt
  have hsz:=hUx.size
  by_cases hle:k.longest e=e
  ·have hT:=hD.stop hle
   simp only [Prod.mk.injEq] at hT
   obtain ⟨hT1,hT2⟩:=hT
   have hk2:T2.2.1=k:=by rw [hT2]
   have hp2:T2.2.2=e:=by rw [hT2]
   rw [hle] at cL
   have HT2:=Lib.hid (And.intro hk2 hp2)
   subst hT1
   have hbit:=hD.bit
   have cPk:=fun wq=>packI_any x.k.set.ord (bs (T1.take (T1.length / 8 * 8))) wq ho (by rw [bs_data];exact hbit.take _) (by rw [bs_size,List.length_take];omega)
   rw [bs_data] at cPk
   have cYk:=fun wx hr=>copyI_any k vp w2.heap.size wx hr (by have:=hok.nums;omega)
   simp only [kV] at cYk
   have HD:=Lib.hid hD
   have HCx:=Lib.hid hCx
   have HCA:=Lib.hid hC
   clear hD hCx hC hT2 hle hne hk2 hp2 hbit hset
   go_wp2_with (first|((go_at_call 37;(with_reducible refine (cL _ HCA.out.tree).mono ?_);rintro e w4 ⟨rfl,U4⟩;have B4:=bcell U4;have Z4:=U4.size;(try simp at Z4);(try rw [Nat.add_one_le_iff] at Z4)))|fail)
   obtain ⟨gv,cv,hvb⟩:=HCA.out.own.shape
   subst hvb
   obtain ⟨ap,cp,hvp⟩:=HCA.out.tree.shape
   subst hvp
   obtain ⟨g0,c0,e0,-,-,hcv1,hcv2,-⟩:=HCA.out.own.cells
   simp only [Value.slice.injEq] at e0
   obtain ⟨-,-,rfl⟩:=e0
   clear g0
   have hU4:=HU.out.trans (HCx.out.1.trans U4)
   have HCB:=Lib.hid (HCA.out.up U4)
   have HW4:=Lib.hid (And.intro (hUx.trans U4) hU4)
   have hblen:T1.length≤41000:=by omega
   have hq:((T1.length:Int) - (T1.length:Int) % 8)=((T1.length / 8 * 8:Nat):Int):=by omega
   have hq2:T1.length / 8 * 8≤T1.length:=by omega
   have HQ:=Lib.hid hq
   unfold maxLen at hcv2
   clear hU4 U4 B4 Z4 HCA HCx d0 cL hq hUx
   refine wp_region_up 12 (by kernel_rfl) (by kernel_rfl) ?_
   simp only [List.take,List.drop]
   repeat (refine wpUp_step (fun K hK=>?_);go_simp;(try simp only [↓IntWalk.iteOmega]);first
    |(refine hK _ _ ?_;clear hK K)
    |(apply stepU_c
      ·intro wq hwq;(have hbq:=bcell hwq;(repeat (first|refine fills_no (by rfl) ?_|refine fills_yes (by rfl) (fun vq hvq=>?_)));simp only [List.filter_nil,fills];unfold upAt;(try ((have d1:=box_cell (HCB.out.up hwq).box 1;simp at d1)));go_simp;(try go_bits);(try simp only [↓IntWalk.iteOmega]);first|exact upOut_value)
      go_simp;refine hK _ _ ?_;clear hK K))
   refine wpUp_nil (fun wq hwq=>?_)
   simp only [fills]
   rw [HQ.out]
   have hqlen:(T1.drop (T1.length / 8 * 8)).length=T1.length - T1.length / 8 * 8:=List.length_drop
   have hqt:((T1.length:Nat):Int) - ((T1.length / 8 * 8:Nat):Int)=((T1.length - T1.length / 8 * 8:Nat):Int):=by omega
   have hck:(cv:Int) - ((T1.length / 8 * 8:Nat):Int)=((cv - T1.length / 8 * 8:Nat):Int):=by omega
   generalize T1.length / 8 * 8=q at *
   go_wp2
   have HCD:=Lib.hid (HCB.out.up hwq)
   have HWD:=Lib.hid (And.intro (HW4.out.1.trans hwq) (HW4.out.2.trans hwq))
   clear hwq HQ HCB HW4
   refine wp_region_up 10 (by kernel_rfl) (by kernel_rfl) ?_
   simp only [List.take,List.drop]
   repeat (refine wpUp_step (fun K hK=>?_);go_simp;(try simp only [↓IntWalk.iteOmega]);first
    |(refine hK _ _ ?_;clear hK K)
    |(apply stepU_c
      ·intro wq hwq;(have hbq:=bcell hwq;(repeat (first|refine fills_no (by rfl) ?_|refine fills_yes (by rfl) (fun vq hvq=>?_)));simp only [List.filter_nil,fills];unfold upAt;(try ((have d1:=box_cell (HCD.out.up hwq).box 1;simp at d1;obtain ⟨-,s0,s1,s2⟩:=SetAt.cells (box_up (HWD.out.1.trans hwq) HS3.out);have hconv:=conv_M (m:=q) (c:=cv) (HCD.out.up hwq).own hq2)));go_simp;(try go_bits);(try simp only [↓IntWalk.iteOmega]);first|exact upOut_value|(apply upOut_call;(go_at_call 41;exact cPk _)))
      go_simp;refine hK _ _ ?_;clear hK K))
   refine wpUp_nil (fun wq hwq=>?_)
   simp only [fills]
   go_wp2
   have HCE:=Lib.hid (HCD.out.up hwq)
   have HWE:=Lib.hid (And.intro (HWD.out.1.trans hwq) (HWD.out.2.trans hwq))
   clear hwq HCD HWD
   refine wp_region_upf 18 (by kernel_rfl) (by kernel_rfl) ?_
   simp only [List.take,List.drop]
   repeat (refine wpUp_step (fun K hK=>?_);go_simp;(try simp only [↓IntWalk.iteOmega]);first
    |(refine hK _ _ ?_;clear hK K)
    |(refine stepU_m (by kernel_rfl) ((fun (u:Value) w'=> ∃ v9,u=wrV ⟨k,e,T1.drop q,true⟩ v9∧ownPr w' w2.heap.size v9 k.ps)) ((fun u w w' ⟨v9,h1,h2⟩ hu=>⟨v9,h1,ownsRow_up h2 hu⟩)) (fun wq hwq=>?_) ?_
      ·(have hbq:=bcell hwq;(repeat (first|refine fills_no (by rfl) ?_|refine fills_yes (by rfl) (fun vq hvq=>?_)));simp only [List.filter_nil,fills];(obtain ⟨v9,rfl,ho9⟩:=hvq;unfold upAt;go_simp;exact upOut_make (Up.refl _) ⟨v9,rfl,ho9⟩))
      refine hK _ _ ?_;clear hK K)
    |(apply stepU_c
      ·intro wq hwq;(have hbq:=bcell hwq;(repeat (first|refine fills_no (by rfl) ?_|refine fills_yes (by rfl) (fun vq hvq=>?_)));simp only [List.filter_nil,fills];unfold upAt;(try ((have d0:=box_cell (HCE.out.up hwq).box 0;have d1:=box_cell (HCE.out.up hwq).box 1;simp at d0 d1;obtain ⟨c0,c1,c2,c3,c4,c5,c6,c7⟩:=(HCE.out.up hwq).tree.cells;have hconv:=conv_If (c:=cv - q) (HCE.out.up hwq).own hq2)));go_simp;(try go_bits);(try simp only [↓IntWalk.iteOmega]);first|exact upOut_value)
      go_simp;refine hK _ _ ?_;clear hK K)
    |(refine stepU_m (by kernel_rfl) (KnO w2.heap.size k) (knO_closed _ _) (fun wq hwq=>?_) ?_
      ·(have hbq:=bcell hwq;(repeat (first|refine fills_no (by rfl) ?_|refine fills_yes (by rfl) (fun vq hvq=>?_)));simp only [List.filter_nil,fills];unfold upAt;(try ((have d0:=box_cell (HCE.out.up hwq).box 0;have d1:=box_cell (HCE.out.up hwq).box 1;simp at d0 d1;obtain ⟨c0,c1,c2,c3,c4,c5,c6,c7⟩:=(HCE.out.up hwq).tree.cells;have hconv:=conv_If (c:=cv - q) (HCE.out.up hwq).own hq2)));go_simp;(try go_bits);(try simp only [↓IntWalk.iteOmega]);((with_reducible refine upOut_known ?_ (Nat.le_trans HWE.out.1.size hwq.size));go_at_call 35;exact cYk _ (RdP.of_own (HCE.out.up hwq).tree.prs)))
      refine hK _ _ ?_;clear hK K))
   refine wpUp_nil (fun wq hwq=>?_)
   simp only [fills]
   rintro u1 ⟨v9,rfl,ho9⟩ u2 -
   obtain ⟨a9,c9,rfl⟩:=ownsRow_shape ho9
   have HZq:=Lib.hid (WrAt.up HZ.out (HWE.out.1.trans hwq))
   obtain ⟨hbz,q0,q1,q2,q3,q4,q5,q6,q7,q8⟩:=WrAt.cells HZq.out
   simp only [wr0] at q0 q1 q2 q3 q4 q5 q6 q7 q8
   have hfz:=box_free HZq.out
   have HO9:=Lib.hid ho9
   have HU9:=Lib.hid (HWE.out.2.trans hwq)
   have hne9:some (w.heap.size+1)≠Value.ownBlock (.slice a9 k.ps.length c9):=fun e=>by have:=(ho9.lt _ e.symm).1;omega
   clear ho9 hwq HWE HCE
   generalize (if cv=q then (some (⟨gv,0,none⟩:Addr)) else some ⟨gv,q,none⟩)=sl at *
   unfold wrV
   go_wp2
   rw [onlyN_normal]
   go_wp2
   refine bodyPost_ret (v:= .tuple #[wrV ⟨k,e,T1.drop q,true⟩ (.slice a9 k.ps.length c9),.string (bs (packL x.k.set.ord (T1.take q))),.bool true]) (by simp [results,Tryz.results7,go_sem,q0,q1,q2,q3,q4,q5,q6,q7,q8];rfl) rfl ?_
   rw [HT2.out.1,HT2.out.2]
   refine ⟨_,rfl,?_,?_⟩
   ·exact WrW.own (b:=w.heap.size+1) (x:=⟨k,e,T1.drop q,true⟩) (ownsRow_base HO9.out (by omega)) hne9 _
   ·exact WrW.up HU9.out (Nat.le_succ _) ⟨k,e,T1.drop q,true⟩ (.slice a9 k.ps.length c9)
  ·obtain ⟨⟨hfw,hxc,hxe,hlp,hlt⟩,hfull,hmore⟩:=hD.step hle
   have hfb:=KnD.find_bd hok hfw
   have hc:=c_of hset
   obtain ⟨n,hn⟩:=Int.eq_ofNat_of_zero_le hfb.1
   have hka:=KnD.after_ok hok hfw
   have hth:=KnD.thru_fol hok hfw
   have hwd:=KnD.width_bd hok
   obtain ⟨k9,hk9⟩: ∃ k9,Hid (k9=k.after (k.find (k.longest e))):=⟨_,rfl⟩
   rw [← hk9.out] at hfull hmore hka hth
   rw [hn] at hfull hmore hth cL hxc hxe hfw
   rw [Int.toNat_natCast] at hfull hmore
   have hs9:k9.set=x.k.set:=by rw [hk9.out];exact hset
   have cWr:=fun wx hx=>write_any w2 cb k b n wx hx hok (by omega) (by omega) (.inr (.inr ⟨hxc,hxe,hfw⟩))
   rw [hth,hset] at cWr
   have hbd:(bs e).extract (k.longest e).length e.length=bs (e.drop (k.longest e).length):=by rw [bs_ext];congr 1;exact List.take_of_length_le (by rw [List.length_drop];omega)
   have HBD:=Lib.hid hbd
   have hlen9:(b++codeL x.k.set.ord n k.width).length≤800000:=by rw [List.length_append,codeL_length];omega
   have HX9:=Lib.hid (And.intro hfull hmore)
   have HK9:=Lib.hid hka
   have HS9:=Lib.hid hs9
   have HCx:=Lib.hid hCx
   have HCA:=Lib.hid hC
   have hdl9:(e.drop (k.longest e).length).length<e.length:=by rw [List.length_drop];omega
   clear hfull hmore hth hxc hxe hfw hn hk9 hbd hle hD hCx hC hok hset hs9 hc hka
   generalize b++codeL x.k.set.ord n k.width=b9 at *
   generalize e.drop (k.longest e).length=e9 at *
   generalize (k.longest e).length=ln at *
   go_wp2_with (first|((go_at_call 37;(with_reducible refine (cL _ HCA.out.tree).mono ?_);rintro e w4 ⟨rfl,U4⟩;have B4:=bcell U4;have Z4:=U4.size;(try simp at Z4);(try rw [Nat.add_one_le_iff] at Z4)))|fail)
   with_reducible refine (cWr _ (HCx.out.up U4)).mono ?_
   rintro ee w5 ⟨⟨v5,rfl⟩,hC5⟩
   have HC5:=Lib.hid hC5
   obtain ⟨hU5,tb5,vp5,vn5,vi5,vb5,hA5⟩:=hC5
   have d0:=box_cell hA5.box 0
   simp at d0
   obtain ⟨c0,c1,c2,c3,c4,c5,c6,c7⟩:=hA5.tree.cells
   obtain ⟨ap,cp,hvp⟩:=hA5.tree.shape
   subst hvp
   have hok9:=HK9.out
   have hpl9:=hok9.nums.2.2.2.1
   have cQ:=fun w=>fullI_any k9.set k9.base k9.last ap k9.ps.length cp w hok9.set (by omega)
   rw [fullN_eq] at cQ
   simp only [knV] at cQ
   have hcb5:=hA5.lt
   have htb5:=hA5.tree.lt
   have hsz5:=hU5.size
   clear hok9 hA5 B4 U4
   cases hf:k9.full
   ·rw [hf] at cQ
    have HN:=Lib.hid (HX9.out.2 hf)
    clear hf
    go_wp2_with (first|((go_at_call 39;(with_reducible refine (cQ _).mono ?_);rintro e w6 ⟨rfl,U6⟩;have B6:=bcell U6;have Z6:=U6.size;(try simp at Z6);(try rw [Nat.add_one_le_iff] at Z6)))|fail)
    rw [HBD.out]
    go_roundw
    case rel=>exact ⟨k9,e9,b9,m - 1,rfl,HN.out,HC5.out.up U6⟩
    case measure=>simp only [slen];rw [bs_size,bs_size];exact hdl9
   ·rw [hf] at cQ
    have HN:=Lib.hid (HX9.out.1 hf)
    have hclr:=(clr_bd HS.out).2.1
    have hc9:k9.c=clr x.k.set:=by unfold KnD.c;rw [HS9.out]
    have cWc:=fun wx hx=>write_any w2 cb k9 b9 (clr x.k.set) wx hx HK9.out (by omega) (by omega) (.inr (.inl (by rw [hc9])))
    rw [show k9.thru ((clr x.k.set:Nat):Int)=k9.cleared by rw [← hc9];exact thru_clear k9,HS9.out] at cWc
    obtain ⟨hbs,s0,s1,s2⟩:=SetAt.cells (box_up hU5 HS3.out)
    have HUU:=Lib.hid hU5
    clear hf hc9
    go_wp2_with (first|((go_at_call 39;(with_reducible refine (cQ _).mono ?_);rintro e w6 ⟨rfl,U6⟩;have B6:=bcell U6;have Z6:=U6.size;(try simp at Z6);(try rw [Nat.add_one_le_iff] at Z6)))|((go_at_call 40;(with_reducible refine (cC0 _).mono ?_);rintro e w7 ⟨rfl,U7⟩;have B7:=bcell U7;have Z7:=U7.size;(try simp at Z7);(try rw [Nat.add_one_le_iff] at Z7)))|fail)
    with_reducible refine (cWc _ (HC5.out.up (U6.trans U7))).mono ?_
    rintro ee w8 ⟨⟨v8,rfl⟩,hC8⟩
    have HC8:=Lib.hid hC8
    clear hC8
    go_wp2
    rw [HBD.out]
    go_roundw
    case rel=>exact ⟨k9.cleared,e9,_,m - 1,rfl,HN.out,HC8.out⟩
    case measure=>simp only [slen];rw [bs_size,bs_size];exact hdl9
theorem wdI_any (x:WrD) (v:Value) (lo:Nat) (d:List UInt8) (w:World) (hl: -9223372036854775808≤x.k.set.lit∧x.k.set.lit≤9223372036854775807) (hr:RdP lo w v x.k.ps) (hps:x.k.ps.length≤1048576) (hp:x.pend.length≤1048576) (hb:x.bits.length≤1048576) (hd:d.length≤1048576) :
  Calls Tryz.prog 7  #[wrV x v,.string (bs d)] w (WdPost (wdO x d) w):=by
 cases h:(wrvB x && fitsB x.k.set (x.pend++d))
 ·rw [wdO_none h]
  exact wdI_no x v lo d w h hl hr hps hp hb hd
 ·rw [wdO_some h]
  obtain ⟨h1,h2⟩:=Bool.and_eq_true_iff.1 h
  by_cases hd0:d= []
  ·subst hd0
   rw [List.append_nil] at h2
   have e:x.write []=(x,[]):=by unfold WrD.write;rw [if_pos rfl]
   rw [e]
   exact wdI_nil x v lo w h1 h2 hl hr hps hp hb
  ·exact wdI_main x v lo d w h1 h2 hd0 hl hr
end Go.Proofs.YtekogcjdaolcbaaGreatDoor
/- Walks of the reference's l9OwnKnown, l3Copy, l9OwnWriter, BitsValid, WriterValid, NewWriter. Conditions: the pairs can be read. -/
namespace Go.Proofs.YtekogcjdaolcbaaGreatDoor
open Go Go.RowKit
theorem wpList_copyE {ops:Array Oper} {rest:List Oper} {o:Oper} {a:Act} {w:World} {Q:Exit→Act→World→Prop} (hgd:o.guard=none) (s x:Operand)
  (ho:o.op= .call { callee:= .builtin .append,args:= #[s,x],argTypes:= #[25,25]}) (base lo:Nat) {vs vx:Value} (hs:a.eval s=vs) (hx:a.eval x=vx) {g:Nat} (hvs:vs= .slice (some ⟨g,0,none⟩) 0 0) (hown:w.ownsRow base 133 2 vs 0 []) (ps:List PairD) (hr:RdP lo w vx ps) (hl:ps.length≤1048576) (hbase:base≤w.heap.size)
  (h: ∀ v' w',ownPr w' base v' ps→Up w w'→wpList Tryz.prog ops Q rest (a.put o.dst v') w'):wpList Tryz.prog ops Q (o :: rest) a w :=
 wpList_plain hgd fun _ hK=>(gAt_up (upAt_copy s x ho base lo hs hx hvs hown ps hr hl hbase)).wp (fun v' w' hu hD=>hK _ _ (h v' w' hD hu))
theorem own_empty2 (w:World) (A B:Obj):(((w.alloc A).alloc B).alloc (.cells #[] 133)).ownsRow (w.heap.size+2) 133 2 (.slice (some ⟨w.heap.size+1+1,0,none⟩) 0 0) 0 []:=by
 have h:=World.ownsRow_made (base:=w.heap.size+2) (e:=133) (size:=2) ((w.alloc A).alloc B) #[] 0 (by simp) (by unfold maxLen;omega) (by simp)
 simpa using h
theorem own_empty3 (w:World) (A B C:Obj):((((w.alloc A).alloc B).alloc C).alloc (.cells #[] 133)).ownsRow (w.heap.size+3) 133 2 (.slice (some ⟨w.heap.size+1+1+1,0,none⟩) 0 0) 0 []:=by
 have h:=World.ownsRow_made (base:=w.heap.size+3) (e:=133) (size:=2) (((w.alloc A).alloc B).alloc C) #[] 0 (by simp) (by unfold maxLen;omega) (by simp)
 simpa using h
set_option maxRecDepth 100000 in
set_option maxHeartbeats 4000000 in
theorem ownKS_any (k:KnD) (v:Value) (lo:Nat) (w:World) (hr:RdP lo w v k.ps) (hl:k.ps.length≤1048576) :
  Calls Tryz.prog 99  #[kV k v] w (KnPost k w):=by
 have hrt:=fun (wq:World) (hu:Up w wq)=>hr.up hu
 obtain ⟨a,cap,rfl,-,-,-,-⟩:=hr
 simp only [kV]
 have hn2:w.heap.size+2≤((w.alloc (.cells #[.int .i64 k.set.ord,.int .i64 k.set.lit,.int .i64 k.set.most,.slice a k.ps.length cap,.int .i64 k.base,.int .i64 k.last] 27)).alloc (.cells #[.int .i64 0,.int .i64 0,.int .i64 0,.slice none 0 0,.int .i64 0,.int .i64 0] 27)).heap.size:=by simp
 go_enter Tryz.func99,Tryz.ntmps99
 go_wp2_with (at_builtin;refine wpList_copyE rfl _ _ rfl (w.heap.size+2) lo rfl rfl rfl (own_empty2 w _ _) k.ps (hrt _ (by (repeat (first|with_reducible exact Up.refl _|with_reducible assumption|with_reducible refine Up.set ?_ (by first|exact Nat.le_refl _|(simp only [];omega)|(simp;omega)) _|with_reducible refine Up.alloc ?_ _|refine Up.trans ?_ (by with_reducible assumption))))) hl (by simp) ?_;rintro v2 w2 hv2 hU2;obtain ⟨a2,c2,rfl⟩:=ownsRow_shape hv2;obtain ⟨hb0,r0,r1,r2,r3,r4,r5⟩:=KnAt.cells (b:=w.heap.size) (k:=k) (v:= .slice a k.ps.length cap) (box_up hU2 (box_up (((Up.refl _).alloc _).alloc _) (MapKept.heap_alloc w _).1));have hf0:=box_free (box_up hU2 (box_up (((Up.refl _).alloc _).alloc _) (MapKept.heap_alloc w _).1));obtain ⟨hb1,q0,q1,q2,q3,q4,q5⟩:=KnAt.cells (b:=w.heap.size+1) (k:=⟨⟨0,0,0⟩,[],0,0⟩) (v:= .slice none 0 0) (box_up hU2 (alloc3 w _ _ _));have hf1:=box_free (box_up hU2 (alloc3 w _ _ _));have HV:=Lib.hid hv2;clear hv2)
 refine bodyPost_ret (v:=kV k (.slice a2 k.ps.length c2)) (by simp [results,Tryz.results99,go_sem,q0,q1,q2,q3,q4,q5]) rfl ⟨_,rfl,?_,?_⟩
 ·refine ownsRow_base (base:=w.heap.size+2) ?_ (by omega)
  repeat (with_reducible refine ownsRow_setne ?_ (by omega) _ _)
  exact HV.out
 ·(repeat (first|with_reducible exact Up.refl _|with_reducible assumption|with_reducible refine Up.set ?_ (by first|exact Nat.le_refl _|(simp only [];omega)|(simp;omega)) _|with_reducible refine Up.alloc ?_ _|refine Up.trans ?_ (by with_reducible assumption)))
theorem alloc3c (w:World) (A B C:Obj):(((w.alloc A).alloc B).alloc C).heap[w.heap.size+1+1]? =some C:=by
 have h:=(MapKept.heap_alloc ((w.alloc A).alloc B) C).1
 rw [size_alloc,size_alloc] at h
 exact h
set_option maxRecDepth 100000 in
set_option maxHeartbeats 4000000 in
theorem copyS_any (k:KnD) (v:Value) (lo:Nat) (w:World) (hr:RdP lo w v k.ps) (hl:k.ps.length≤1048576) :
  Calls Tryz.prog 45  #[kV k v] w (KnPost k w):=by
 have hrt:=fun (wq:World) (hu:Up w wq)=>hr.up hu
 obtain ⟨a,cap,rfl,-,-,-,-⟩:=hr
 simp only [kV]
 have hn2:w.heap.size+2≤((w.alloc (.cells #[.int .i64 k.set.ord,.int .i64 k.set.lit,.int .i64 k.set.most,.slice a k.ps.length cap,.int .i64 k.base,.int .i64 k.last] 27)).alloc (.cells #[.int .i64 0,.int .i64 0,.int .i64 0,.slice none 0 0,.int .i64 0,.int .i64 0] 27)).heap.size:=by simp
 go_enter Tryz.func45,Tryz.ntmps45
 go_wp2_with (at_builtin;refine wpList_copyE rfl _ _ rfl (w.heap.size+3) lo rfl rfl rfl (own_empty3 w _ _ _) k.ps (hrt _ (by (repeat (first|with_reducible exact Up.refl _|with_reducible assumption|with_reducible refine Up.set ?_ (by first|exact Nat.le_refl _|(simp only [];omega)|(simp;omega)) _|with_reducible refine Up.alloc ?_ _|refine Up.trans ?_ (by with_reducible assumption))))) hl (by simp) ?_;rintro v2 w2 hv2 hU2;obtain ⟨a2,c2,rfl⟩:=ownsRow_shape hv2;obtain ⟨hb1,q0,q1,q2,q3,q4,q5⟩:=KnAt.cells (b:=w.heap.size+1) (k:=⟨⟨0,0,0⟩,[],0,0⟩) (v:= .slice none 0 0) (box_up hU2 (box_up ((Up.refl _).alloc _) (alloc3 w _ _ _)));have hf1:=box_free (box_up hU2 (box_up ((Up.refl _).alloc _) (alloc3 w _ _ _)));obtain ⟨hb2,s0,s1,s2,s3,s4,s5⟩:=KnAt.cells (b:=w.heap.size+1+1) (k:=k) (v:= .slice a k.ps.length cap) (box_up hU2 (box_up ((Up.refl _).alloc _) (alloc3c w _ _ _)));have hf2:=box_free (box_up hU2 (box_up ((Up.refl _).alloc _) (alloc3c w _ _ _)));have HV:=Lib.hid hv2;clear hv2)
 refine bodyPost_ret (v:=kV k (.slice a2 k.ps.length c2)) (by simp [results,Tryz.results45,go_sem,q0,q1,q2,q3,q4,q5]) rfl ⟨_,rfl,?_,?_⟩
 ·refine ownsRow_base (base:=w.heap.size+3) ?_ (by omega)
  repeat (with_reducible refine ownsRow_setne ?_ (by omega) _ _)
  exact HV.out
 ·(repeat (first|with_reducible exact Up.refl _|with_reducible assumption|with_reducible refine Up.set ?_ (by first|exact Nat.le_refl _|(simp only [];omega)|(simp;omega)) _|with_reducible refine Up.alloc ?_ _|refine Up.trans ?_ (by with_reducible assumption)))
def WoPost (x:WrD) (w:World) (e:Ending) (w':World):Prop:= ∃ v,e= .returned (wrV x v)∧ownPr w' w.heap.size v x.k.ps∧Up w w'
set_option maxRecDepth 100000 in
set_option maxHeartbeats 4000000 in
theorem ownWS_any (x:WrD) (v:Value) (lo:Nat) (w:World) (hr:RdP lo w v x.k.ps) (hl:x.k.ps.length≤1048576) :
  Calls Tryz.prog 42  #[wrV x v] w (WoPost x w):=by
 have hrt:=fun (wq:World) (hu:Up w wq)=>hr.up hu
 have cO:=fun wq hr=>ownKS_any x.k v lo wq hr hl
 obtain ⟨a,cap,rfl,-,-,-,-⟩:=hr
 unfold wrV
 simp only [kV] at *
 go_enter Tryz.func42,Tryz.ntmps42
 go_wp2_with (first|(go_at_call 99;(with_reducible refine (cO _ (hrt _ (by (repeat (first|with_reducible exact Up.refl _|with_reducible assumption|with_reducible refine Up.alloc ?_ _|refine Up.trans ?_ (by with_reducible assumption)))))).mono ?_);rintro e w2 ⟨v2,rfl,ho2,U2⟩;obtain ⟨a2,c2,rfl⟩:=ownsRow_shape ho2;simp only [kV];obtain ⟨hbz,q0,q1,q2,q3,q4,q5,q6,q7,q8⟩:=WrAt.cells (WrAt.zero (box_up U2 (alloc2 w _ _)));simp only [wr0] at q0 q1 q2 q3 q4 q5 q6 q7 q8;have hfz:=box_free (box_up U2 (alloc2 w _ _));have hx2:WrAt w.heap.size x (.slice a x.k.ps.length cap) w2:=box_up U2 (box_up ((Up.refl _).alloc _) (MapKept.heap_alloc w _).1);obtain ⟨hbx,r0,r1,r2,r3,r4,r5,r6,r7,r8⟩:=WrAt.cells hx2;have hfx:=box_free hx2;have HO:=Lib.hid ho2;have HU:=Lib.hid (show Up w w2 by (repeat (first|with_reducible exact Up.refl _|with_reducible assumption|with_reducible refine Up.alloc ?_ _|refine Up.trans ?_ (by with_reducible assumption))));clear ho2 hx2)|fail)
 refine bodyPost_ret (v:=wrV x (.slice a2 x.k.ps.length c2)) (by simp [results,Tryz.results42,go_sem,q0,q1,q2,q3,q4,q5,q6,q7,q8];rfl) rfl ⟨_,rfl,?_,?_⟩
 ·have ho:=ownsRow_base (base':=w.heap.size+2) HO.out (by simp)
  refine ownsRow_base (base:=w.heap.size+2) ?_ (by omega)
  repeat (with_reducible refine ownsRow_setne ?_ (by omega) _ _)
  exact ho
 ·exact WrW.up (KnW.up HU.out (Nat.le_refl _) x.k _) (Nat.le_succ _) x _
set_option maxRecDepth 100000 in
set_option maxHeartbeats 1000000 in
theorem bvS_any (s:ByteArray) (w:World) (hs:s.size≤1073741824) :
  Calls Tryz.prog 101  #[.string s] w (fun e w'=>e= .returned (.bool (bvB s.data.toList))∧w=w'):=by
 have hlen:=ba_len s
 go_enter Tryz.func101,Tryz.ntmps101
 go_wp2
 go_loopw [3] (fun i wr=>RelBg s i w wr) (fun i _=>s.size - (intOf i).toNat)
 case atStart=>exact ⟨0,rfl,Nat.zero_le _,fun q _ h=>absurd h (Nat.not_lt_zero _),rfl⟩
 case round =>
  obtain ⟨j,rfl,hj,hall,rfl⟩:=hrel
  have HA:=Lib.hid hall
  clear hall
  by_cases hlt:j<s.size
  ·have HN:Hid ((s[j].toNat=48∨s[j].toNat=49)→ ∀ q (hq:q<s.size),q<j+1→s[q].toNat=48∨s[q].toNat=49):=fun h q hq hqj=>by
    rcases Nat.lt_or_ge q j with h'|h'
    ·exact HA.out q hq h'
    ·have:q=j:=by omega
     subst this;exact h
   by_cases h1:s[j].toNat=48
   ·have HN':=Lib.hid (HN.out (.inl h1))
    clear HN HA
    go_wp2
    go_roundw
    case rel=>exact ⟨j+1,by go_num,by omega,HN'.out,rfl⟩
    case measure=>simp [intOf];omega
   ·by_cases h2:s[j].toNat=49
    ·have HN':=Lib.hid (HN.out (.inr h2))
     clear HN HA
     go_wp2
     go_roundw
     case rel=>exact ⟨j+1,by go_num,by omega,HN'.out,rfl⟩
     case measure=>simp [intOf];omega
    ·have HB:Hid (bitsB s.data.toList=false):=bitsB_no hlt (fun h=>h.elim h1 h2)
     have HV:Hid (bvB s.data.toList=false):=by unfold Hid bvB;rw [HB.out,Bool.and_false]
     have hb1:((s[j].toNat:Int) != 48)=true:=by simp;omega
     have hb2:((s[j].toNat:Int) != 49)=true:=by simp;omega
     clear HN HA
     go_wp2
     go_ret
     exact ⟨ret_bool HV.out.symm,rfl⟩
  ·have HB:Hid (bitsB s.data.toList=true):=bitsB_yes fun q hq=>HA.out q hq (by omega)
   have HV:Hid (bvB s.data.toList=decide ((s.size:Int)≤32000)):=by
    unfold Hid bvB
    rw [HB.out,hlen,Bool.and_true]
    by_cases h4:s.size≤32000
    ·rw [decide_eq_true h4,decide_eq_true (by omega)]
    ·rw [decide_eq_false h4,decide_eq_false (by omega)]
   go_wp2
   go_ret
   exact ⟨ret_bool HV.out.symm,rfl⟩
set_option maxRecDepth 100000 in
set_option maxHeartbeats 8000000 in
theorem wvS_any (x:WrD) (v:Value) (lo:Nat) (w:World) (hr:RdP lo w v x.k.ps) (hps:x.k.ps.length≤1073741824) (hp:x.pend.length≤1073741824) (hb:x.bits.length≤1073741824) :
  Calls Tryz.prog 43  #[wrV x v] w (Same (.bool (wrvB x)) w):=by
 have cV:=fun wq hr=>kvS_gen x.k v lo wq hr hps
 have hrt:=fun (wq:World) (hu:Up w wq)=>hr.up hu
 have hsp:=bs_size x.pend
 have hsb:=bs_size x.bits
 have cF:=fun wq=>fitsS_any x.k.set (bs x.pend) wq (by omega)
 have cB:=fun wq=>bvS_any (bs x.bits) wq (by omega)
 rw [bs_data] at cF cB
 obtain ⟨a,cap,rfl,-,-,-,-⟩:=id hr
 unfold wrV
 cases h1:validK x.k
 ·rw [wrvB_k h1]
  rw [h1] at cV
  clear h1 hr
  simp only [kV] at *
  go_enter Tryz.func43,Tryz.ntmps43
  go_wp2_with (first|(go_at_call 100;(with_reducible refine (cV _ (hrt _ (by (repeat (first|with_reducible exact Up.refl _|with_reducible assumption|with_reducible refine Up.alloc ?_ _|refine Up.trans ?_ (by with_reducible assumption)))))).mono ?_);rintro e w1 ⟨rfl,U1⟩;have B1:=bcell U1;have Z1:=U1.size;(try simp at Z1);(try rw [Nat.add_one_le_iff] at Z1))|(go_at_call 44;(with_reducible refine (cF _).mono ?_);rintro e w2 ⟨rfl,U2⟩;have B2:=bcell U2;have Z2:=U2.size;(try simp at Z2);(try rw [Nat.add_one_le_iff] at Z2))|(go_at_call 101;(with_reducible refine (cB _).mono ?_);rintro e w' ⟨rfl,rfl⟩)|fail)
  go_ret
  refine ⟨rfl,?_⟩
  (repeat (first|with_reducible exact Up.refl _|with_reducible assumption|with_reducible refine Up.alloc ?_ _|refine Up.trans ?_ (by with_reducible assumption)))
 rw [h1] at cV
 cases h2:fitsB x.k.set x.pend
 ·rw [wrvB_f h2]
  rw [h2] at cF
  clear h1 h2 hr
  simp only [kV,setV] at *
  go_enter Tryz.func43,Tryz.ntmps43
  go_wp2_with (first|(go_at_call 100;(with_reducible refine (cV _ (hrt _ (by (repeat (first|with_reducible exact Up.refl _|with_reducible assumption|with_reducible refine Up.alloc ?_ _|refine Up.trans ?_ (by with_reducible assumption)))))).mono ?_);rintro e w1 ⟨rfl,U1⟩;have B1:=bcell U1;have Z1:=U1.size;(try simp at Z1);(try rw [Nat.add_one_le_iff] at Z1))|(go_at_call 44;(with_reducible refine (cF _).mono ?_);rintro e w2 ⟨rfl,U2⟩;have B2:=bcell U2;have Z2:=U2.size;(try simp at Z2);(try rw [Nat.add_one_le_iff] at Z2))|(go_at_call 101;(with_reducible refine (cB _).mono ?_);rintro e w' ⟨rfl,rfl⟩)|fail)
  go_ret
  refine ⟨rfl,?_⟩
  (repeat (first|with_reducible exact Up.refl _|with_reducible assumption|with_reducible refine Up.alloc ?_ _|refine Up.trans ?_ (by with_reducible assumption)))
 rw [h2] at cF
 cases h3:bvB x.bits
 ·rw [wrvB_b h3]
  rw [h3] at cB
  clear h1 h2 h3 hr
  simp only [kV,setV] at *
  go_enter Tryz.func43,Tryz.ntmps43
  go_wp2_with (first|(go_at_call 100;(with_reducible refine (cV _ (hrt _ (by (repeat (first|with_reducible exact Up.refl _|with_reducible assumption|with_reducible refine Up.alloc ?_ _|refine Up.trans ?_ (by with_reducible assumption)))))).mono ?_);rintro e w1 ⟨rfl,U1⟩;have B1:=bcell U1;have Z1:=U1.size;(try simp at Z1);(try rw [Nat.add_one_le_iff] at Z1))|(go_at_call 44;(with_reducible refine (cF _).mono ?_);rintro e w2 ⟨rfl,U2⟩;have B2:=bcell U2;have Z2:=U2.size;(try simp at Z2);(try rw [Nat.add_one_le_iff] at Z2))|(go_at_call 101;(with_reducible refine (cB _).mono ?_);rintro e w' ⟨rfl,rfl⟩)|fail)
  go_ret
  refine ⟨rfl,?_⟩
  (repeat (first|with_reducible exact Up.refl _|with_reducible assumption|with_reducible refine Up.alloc ?_ _|refine Up.trans ?_ (by with_reducible assumption)))
 rw [h3] at cB
 by_cases h4:x.bits.length≤7
 case neg =>
  rw [wrvB_7 h4]
  clear h1 h2 h3 hr
  have h4':((x.bits.length:Nat):Int)>7:=by omega
  simp only [kV,setV] at *
  go_enter Tryz.func43,Tryz.ntmps43
  go_wp2_with (first|(go_at_call 100;(with_reducible refine (cV _ (hrt _ (by (repeat (first|with_reducible exact Up.refl _|with_reducible assumption|with_reducible refine Up.alloc ?_ _|refine Up.trans ?_ (by with_reducible assumption)))))).mono ?_);rintro e w1 ⟨rfl,U1⟩;have B1:=bcell U1;have Z1:=U1.size;(try simp at Z1);(try rw [Nat.add_one_le_iff] at Z1))|(go_at_call 44;(with_reducible refine (cF _).mono ?_);rintro e w2 ⟨rfl,U2⟩;have B2:=bcell U2;have Z2:=U2.size;(try simp at Z2);(try rw [Nat.add_one_le_iff] at Z2))|(go_at_call 101;(with_reducible refine (cB _).mono ?_);rintro e w' ⟨rfl,rfl⟩)|fail)
  go_ret
  refine ⟨rfl,?_⟩
  (repeat (first|with_reducible exact Up.refl _|with_reducible assumption|with_reducible refine Up.alloc ?_ _|refine Up.trans ?_ (by with_reducible assumption)))
 case pos =>
  have h4': ¬ ((x.bits.length:Nat):Int)>7:=by omega
  rw [wrvB_all h1 h2 h3 h4]
  obtain ⟨hk,hv⟩:=ok_of_valid h1
  obtain ⟨f1,f2,f3⟩:=fitsB_lits h2
  obtain ⟨k,pend,bits,beg⟩:=x
  dsimp only at *
  by_cases hpe:pend= []
  ·subst hpe
   simp only [show bs ([]:List UInt8)=(⟨#[]⟩:ByteArray) from rfl] at *
   by_cases hbe:bits= []
   ·subst hbe
    simp only [show bs ([]:List UInt8)=(⟨#[]⟩:ByteArray) from rfl] at *
    cases beg
    all_goals
     rw [show wrsB (⟨k,[],[],_⟩:WrD)=true from rfl]
     clear h1 h2 h3 hr hk hv f3
     simp only [kV,setV] at *
     go_enter Tryz.func43,Tryz.ntmps43
     go_wp2_with (first|(go_at_call 100;(with_reducible refine (cV _ (hrt _ (by (repeat (first|with_reducible exact Up.refl _|with_reducible assumption|with_reducible refine Up.alloc ?_ _|refine Up.trans ?_ (by with_reducible assumption)))))).mono ?_);rintro e w1 ⟨rfl,U1⟩;have B1:=bcell U1;have Z1:=U1.size;(try simp at Z1);(try rw [Nat.add_one_le_iff] at Z1))|(go_at_call 44;(with_reducible refine (cF _).mono ?_);rintro e w2 ⟨rfl,U2⟩;have B2:=bcell U2;have Z2:=U2.size;(try simp at Z2);(try rw [Nat.add_one_le_iff] at Z2))|(go_at_call 101;(with_reducible refine (cB _).mono ?_);rintro e w' ⟨rfl,rfl⟩)|fail)
     go_ret
     refine ⟨rfl,?_⟩
     (repeat (first|with_reducible exact Up.refl _|with_reducible assumption|with_reducible refine Up.alloc ?_ _|refine Up.trans ?_ (by with_reducible assumption)))
   ·have HBE:=isEmpty_bs hbe
    cases beg
    ·have HW:Hid (wrsB (⟨k,[],bits,false⟩:WrD)=false):=by unfold Hid wrsB;simp [hbe]
     rw [HW.out]
     clear h1 h2 h3 hr hk hv f3 hbe
     simp only [kV,setV] at *
     go_enter Tryz.func43,Tryz.ntmps43
     go_wp2_with (first|(go_at_call 100;(with_reducible refine (cV _ (hrt _ (by (repeat (first|with_reducible exact Up.refl _|with_reducible assumption|with_reducible refine Up.alloc ?_ _|refine Up.trans ?_ (by with_reducible assumption)))))).mono ?_);rintro e w1 ⟨rfl,U1⟩;have B1:=bcell U1;have Z1:=U1.size;(try simp at Z1);(try rw [Nat.add_one_le_iff] at Z1))|(go_at_call 44;(with_reducible refine (cF _).mono ?_);rintro e w2 ⟨rfl,U2⟩;have B2:=bcell U2;have Z2:=U2.size;(try simp at Z2);(try rw [Nat.add_one_le_iff] at Z2))|(go_at_call 101;(with_reducible refine (cB _).mono ?_);rintro e w' ⟨rfl,rfl⟩)|fail)
     go_ret
     refine ⟨rfl,?_⟩
     (repeat (first|with_reducible exact Up.refl _|with_reducible assumption|with_reducible refine Up.alloc ?_ _|refine Up.trans ?_ (by with_reducible assumption)))
    ·have HW:Hid (wrsB (⟨k,[],bits,true⟩:WrD)=true):=by unfold Hid wrsB;simp
     rw [HW.out]
     clear h1 h2 h3 hr hk hv f3 hbe
     simp only [kV,setV] at *
     go_enter Tryz.func43,Tryz.ntmps43
     go_wp2_with (first|(go_at_call 100;(with_reducible refine (cV _ (hrt _ (by (repeat (first|with_reducible exact Up.refl _|with_reducible assumption|with_reducible refine Up.alloc ?_ _|refine Up.trans ?_ (by with_reducible assumption)))))).mono ?_);rintro e w1 ⟨rfl,U1⟩;have B1:=bcell U1;have Z1:=U1.size;(try simp at Z1);(try rw [Nat.add_one_le_iff] at Z1))|(go_at_call 44;(with_reducible refine (cF _).mono ?_);rintro e w2 ⟨rfl,U2⟩;have B2:=bcell U2;have Z2:=U2.size;(try simp at Z2);(try rw [Nat.add_one_le_iff] at Z2))|(go_at_call 101;(with_reducible refine (cB _).mono ?_);rintro e w' ⟨rfl,rfl⟩)|fail)
     go_ret
     refine ⟨rfl,?_⟩
     (repeat (first|with_reducible exact Up.refl _|with_reducible assumption|with_reducible refine Up.alloc ?_ _|refine Up.trans ?_ (by with_reducible assumption)))
  ·have HPE:=isEmpty_bs hpe
   have hpos:=List.length_pos_iff.2 hpe
   cases beg
   ·have HW:Hid (wrsB (⟨k,pend,bits,false⟩:WrD)=false):=by unfold Hid wrsB;simp [hpe]
    rw [HW.out]
    clear h1 h2 h3 hr hk hv f3 hpe
    simp only [kV,setV] at *
    go_enter Tryz.func43,Tryz.ntmps43
    go_wp2_with (first|(go_at_call 100;(with_reducible refine (cV _ (hrt _ (by (repeat (first|with_reducible exact Up.refl _|with_reducible assumption|with_reducible refine Up.alloc ?_ _|refine Up.trans ?_ (by with_reducible assumption)))))).mono ?_);rintro e w1 ⟨rfl,U1⟩;have B1:=bcell U1;have Z1:=U1.size;(try simp at Z1);(try rw [Nat.add_one_le_iff] at Z1))|(go_at_call 44;(with_reducible refine (cF _).mono ?_);rintro e w2 ⟨rfl,U2⟩;have B2:=bcell U2;have Z2:=U2.size;(try simp at Z2);(try rw [Nat.add_one_le_iff] at Z2))|(go_at_call 101;(with_reducible refine (cB _).mono ?_);rintro e w' ⟨rfl,rfl⟩)|fail)
    go_ret
    refine ⟨rfl,?_⟩
    (repeat (first|with_reducible exact Up.refl _|with_reducible assumption|with_reducible refine Up.alloc ?_ _|refine Up.trans ?_ (by with_reducible assumption)))
   ·have cC:=fun wq hr=>l2Find_any k (.slice a k.ps.length cap) lo (bs pend) wq hk hr (by omega)
    rw [bs_data] at cC
    have HW:Hid (wrsB (⟨k,pend,bits,true⟩:WrD)=decide (k.find pend≥0)):=by
     unfold Hid wrsB
     have:(k.longest pend=pend)↔k.find pend≥0:=⟨KnD.word_find hk hpe f3,KnD.find_word hpe⟩
     simp [hpe,this]
    rw [HW.out]
    generalize k.find pend=cd at *
    clear h1 h2 h3 hr hk hv f3 hpe HW
    simp only [kV,setV] at *
    go_enter Tryz.func43,Tryz.ntmps43
    go_wp2_with (first|(go_at_call 100;(with_reducible refine (cV _ (hrt _ (by (repeat (first|with_reducible exact Up.refl _|with_reducible assumption|with_reducible refine Up.alloc ?_ _|refine Up.trans ?_ (by with_reducible assumption)))))).mono ?_);rintro e w1 ⟨rfl,U1⟩;have B1:=bcell U1;have Z1:=U1.size;(try simp at Z1);(try rw [Nat.add_one_le_iff] at Z1))|(go_at_call 44;(with_reducible refine (cF _).mono ?_);rintro e w2 ⟨rfl,U2⟩;have B2:=bcell U2;have Z2:=U2.size;(try simp at Z2);(try rw [Nat.add_one_le_iff] at Z2))|(go_at_call 101;(with_reducible refine (cB _).mono ?_);rintro e w' ⟨rfl,rfl⟩)|(go_at_call 102;(with_reducible refine (cC _ (hrt _ (by (repeat (first|with_reducible exact Up.refl _|with_reducible assumption|with_reducible refine Up.alloc ?_ _|refine Up.trans ?_ (by with_reducible assumption)))))).mono ?_);rintro e w4 ⟨rfl,U4⟩;have B4:=bcell U4;have Z4:=U4.size;(try simp at Z4);(try rw [Nat.add_one_le_iff] at Z4))|fail)
    go_ret
    refine ⟨rfl,?_⟩
    (repeat (first|with_reducible exact Up.refl _|with_reducible assumption|with_reducible refine Up.alloc ?_ _|refine Up.trans ?_ (by with_reducible assumption)))
set_option maxRecDepth 100000 in
set_option maxHeartbeats 8000000 in
theorem nwS_any (k:KnD) (v:Value) (lo:Nat) (w:World) (hr:RdP lo w v k.ps) (hps:k.ps.length≤1048576) :
  Calls Tryz.prog 77  #[kV k v] w (NwPost k w):=by
 have cV:=fun wq hr=>kvS_gen k v lo wq hr (by omega)
 have cY:=fun wx hr=>copyS_any k v lo wx hr (by omega)
 have hrt:=fun (wq:World) (hu:Up w wq)=>hr.up hu
 obtain ⟨a,cap,rfl,-,-,-,-⟩:=id hr
 unfold NwPost
 cases h1:validK k
 ·simp only [Bool.false_eq_true,if_false]
  rw [h1] at cV
  clear h1 hr
  simp only [kV] at *
  go_enter Tryz.func77,Tryz.ntmps77
  go_wp2_with (first|((go_at_call 100;(with_reducible refine (cV _ (hrt _ (by (repeat (first|with_reducible exact Up.refl _|with_reducible assumption|with_reducible refine Up.set ?_ (by first|exact Nat.le_refl _|(simp only [];omega)|(simp;omega)) _|with_reducible refine Up.alloc ?_ _|refine Up.trans ?_ (by with_reducible assumption)))))).mono ?_);rintro e w1 ⟨rfl,U1⟩;have B1:=bcell U1;have Z1:=U1.size;(try simp at Z1);(try rw [Nat.add_one_le_iff] at Z1));obtain ⟨hbz,q0,q1,q2,q3,q4,q5,q6,q7,q8⟩:=WrAt.cells (WrAt.zero (box_up U1 (alloc2 w _ _)));simp only [wr0] at q0 q1 q2 q3 q4 q5 q6 q7 q8;have hfz:=box_free (box_up U1 (alloc2 w _ _)))|fail)
  obtain ⟨hbz,q0,q1,q2,q3,q4,q5,q6,q7,q8⟩:=WrAt.cells (WrAt.zero (box_up U1 (alloc2 w _ _)))
  simp only [wr0] at q0 q1 q2 q3 q4 q5 q6 q7 q8
  refine bodyPost_ret (v:= .tuple #[noWr,.bool false]) (by simp [results,Tryz.results77,go_sem,q0,q1,q2,q3,q4,q5,q6,q7,q8];rfl) rfl ⟨rfl,?_⟩
  (repeat (first|with_reducible exact Up.refl _|with_reducible assumption|with_reducible refine Up.set ?_ (by first|exact Nat.le_refl _|(simp only [];omega)|(simp;omega)) _|with_reducible refine Up.alloc ?_ _|refine Up.trans ?_ (by with_reducible assumption)))
 ·simp only [if_true]
  rw [h1] at cV
  clear h1 hr
  simp only [kV] at *
  go_enter Tryz.func77,Tryz.ntmps77
  go_wp2_with (first|((go_at_call 100;(with_reducible refine (cV _ (hrt _ (by (repeat (first|with_reducible exact Up.refl _|with_reducible assumption|with_reducible refine Up.set ?_ (by first|exact Nat.le_refl _|(simp only [];omega)|(simp;omega)) _|with_reducible refine Up.alloc ?_ _|refine Up.trans ?_ (by with_reducible assumption)))))).mono ?_);rintro e w1 ⟨rfl,U1⟩;have B1:=bcell U1;have Z1:=U1.size;(try simp at Z1);(try rw [Nat.add_one_le_iff] at Z1)))|(go_at_call 45;(with_reducible refine (cY _ (hrt _ (by (repeat (first|with_reducible exact Up.refl _|with_reducible assumption|with_reducible refine Up.set ?_ (by first|exact Nat.le_refl _|(simp only [];omega)|(simp;omega)) _|with_reducible refine Up.alloc ?_ _|refine Up.trans ?_ (by with_reducible assumption)))))).mono ?_);rintro e w2 ⟨v2,rfl,ho2,U2⟩;obtain ⟨a2,c2,rfl⟩:=ownsRow_shape ho2;simp only [kV];have HZ:=Lib.hid (WrAt.zero (box_up (U1.trans U2) (alloc2 w _ _)));obtain ⟨hbz,q0,q1,q2,q3,q4,q5,q6,q7,q8⟩:=WrAt.cells HZ.out;simp only [wr0] at q0 q1 q2 q3 q4 q5 q6 q7 q8;have hfz:=box_free HZ.out;have HO:=Lib.hid ho2;have hs1:=U1.size;simp at hs1;have HU:=Lib.hid (show Up w w2 by (repeat (first|with_reducible exact Up.refl _|with_reducible assumption|with_reducible refine Up.set ?_ (by first|exact Nat.le_refl _|(simp only [];omega)|(simp;omega)) _|with_reducible refine Up.alloc ?_ _|refine Up.trans ?_ (by with_reducible assumption))));clear ho2)|fail)
  refine bodyPost_ret (v:= .tuple #[wrV ⟨k,[],[],false⟩ (.slice a2 k.ps.length c2),.bool true]) (by simp [results,Tryz.results77,go_sem,q0,q1,q2,q3,q4,q5,q6,q7,q8];rfl) rfl ⟨_,rfl,?_,?_⟩
  ·exact WrW.own (b:=w.heap.size+1) (x:=⟨k,[],[],false⟩) (ownsRow_base HO.out (by omega)) (fun e=>by have:=(HO.out.lt _ e.symm).1;omega) _
  ·exact WrW.up HU.out (Nat.le_succ _) ⟨k,[],[],false⟩ (.slice a2 k.ps.length c2)
end Go.Proofs.YtekogcjdaolcbaaGreatDoor

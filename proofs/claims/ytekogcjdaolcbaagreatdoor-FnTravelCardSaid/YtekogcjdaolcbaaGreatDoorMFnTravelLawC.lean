/- Texts joined into one: the walks and laws that the last text leans on. Conditions: as each says. -/
import Derived.Test.YtekogcjdaolcbaaGreatDoorMFnTravelLawB
import Derived.Test.YtekogcjdaolcbaaGreatDoorMFnTravelLawA

set_option linter.unusedVariables false
set_option linter.unusedSimpArgs false
/- Texts joined into one: Kn1, Kn2, Pr. Conditions: as each says. -/
/- Walks of the reference's small functions on what is known. Conditions: what is known is valid (KnD.Ok) and can be read. -/
namespace Go.Proofs.YtekogcjdaolcbaaGreatDoor
open Go.RowKit
def RdP (lo:Nat) (w:World) (v:Value) (ps:List PairD):Prop:= ∃ a cap,v= .slice a ps.length cap∧ps.length≤cap∧cap≤maxLen∧(a=none→ps.length=0∧cap=0) ∧
 (0<ps.length→ ∃ b off,a=some ⟨b,off,none⟩∧lo≤b∧b<w.heap.size∧ ∀ i p,ps[i]? =some p→w.cell? ⟨b,off+i * 2,none⟩=some (.int .i64 p.pre)∧w.cell? ⟨b,off+i * 2+1,none⟩=some (.int .i64 p.byt))
theorem RdP.up {lo:Nat} {w w':World} {v:Value} {ps:List PairD} (h:RdP lo w v ps) (hu:Up w w'):RdP lo w' v ps:=by
 obtain ⟨a,cap,h1,h2,h2',h2'',h3⟩:=h
 refine ⟨a,cap,h1,h2,h2',h2'',fun hp=>?_⟩
 obtain ⟨b,off,e1,e2,e4,e5⟩:=h3 hp
 exact ⟨b,off,e1,e2,Nat.lt_of_lt_of_le e4 hu.size,fun i p hi=>⟨(hu.cell (p:=⟨b,_,none⟩) e4).trans (e5 i p hi).1,(hu.cell (p:=⟨b,_,none⟩) e4).trans (e5 i p hi).2⟩⟩
theorem RdP.low {lo lo':Nat} {w:World} {v:Value} {ps:List PairD} (h:RdP lo w v ps) (hl:lo'≤lo):RdP lo' w v ps:=by
 obtain ⟨a,cap,h1,h2,h2',h2'',h3⟩:=h
 refine ⟨a,cap,h1,h2,h2',h2'',fun hp=>?_⟩
 obtain ⟨b,off,e1,e2,e4,e5⟩:=h3 hp
 exact ⟨b,off,e1,Nat.le_trans hl e2,e4,e5⟩
abbrev kV (k:KnD) (v:Value):Value:= .agg #[.int .i64 k.set.ord,.int .i64 k.set.lit,.int .i64 k.set.most,v,.int .i64 k.base,.int .i64 k.last]
def KnAt (b:Nat) (k:KnD) (v:Value) (w:World):Prop:=w.heap[b]? =some (.cells #[.int .i64 k.set.ord,.int .i64 k.set.lit,.int .i64 k.set.most,v,.int .i64 k.base,.int .i64 k.last] 27)
theorem KnAt.cells {b:Nat} {k:KnD} {v:Value} {w:World} (h:KnAt b k v w):b<w.heap.size∧w.cell? ⟨b,0,none⟩=some (.int .i64 k.set.ord)∧w.cell? ⟨b,1,none⟩=some (.int .i64 k.set.lit)∧w.cell? ⟨b,2,none⟩=some (.int .i64 k.set.most)∧w.cell? ⟨b,3,none⟩=some v∧w.cell? ⟨b,4,none⟩=some (.int .i64 k.base)∧w.cell? ⟨b,5,none⟩=some (.int .i64 k.last) :=
 ⟨(Array.getElem?_eq_some_iff.1 h).1,box_cell h 0,box_cell h 1,box_cell h 2,box_cell h 3,box_cell h 4,box_cell h 5⟩
theorem KnD.Ok.nums {k:KnD} (h:k.Ok):2≤clr k.set∧clr k.set≤256∧lastC k.set≤1023∧k.ps.length≤1022∧k.ps.length+clr k.set+1≤lastC k.set:=by
 have h1:=h.c_bd
 have h2:=h.len
 unfold KnD.c at *
 omega
set_option maxRecDepth 100000 in
set_option maxHeartbeats 1000000 in
theorem l2Next_any (k:KnD) (v:Value) (lo:Nat) (w:World) (h:k.Ok) (hr:RdP lo w v k.ps) :
  Calls Tryz.prog 108  #[kV k v] w (Same (.int .i64 (k.next:Nat)) w):=by
 obtain ⟨hb1,hb2,hb3,hb4,hb5⟩:=h.nums
 have cE:=fun w=>l1End_any k.set w h.set
 have e:Hid ((k.next:Int)=clr k.set+1+1+k.ps.length):=by unfold Hid KnD.next KnD.c;omega
 rw [e.out]
 obtain ⟨⟨o,l,m⟩,ps,ba,la⟩:=k
 simp only at *
 obtain ⟨a,cap,rfl,-,-,-,-⟩:=hr
 generalize clr ⟨o,l,m⟩=c at *
 generalize lastC ⟨o,l,m⟩=lc at *
 clear h
 simp only [kV]
 go_enter Tryz.func108,Tryz.ntmps108
 go_wp2
 refine wp_region_up 8 (by kernel_rfl) (by kernel_rfl) ?_
 simp only [List.take,List.drop]
 repeat (refine wpUp_step (fun K hK=>?_);go_simp;(try simp only [↓IntWalk.iteOmega]);first
  |(refine hK _ _ ?_;clear hK K)
  |(apply stepU_c
    ·intro wq hwq;(have hbq:=bcell hwq;(repeat (first|refine fills_no (by rfl) ?_|refine fills_yes (by rfl) (fun vq hvq=>?_)));simp only [List.filter_nil,fills];unfold upAt;go_simp;(try go_bits);(try simp only [↓IntWalk.iteOmega]);first|exact upOut_value|(apply upOut_call;(go_at_call 131;exact cE _)))
    go_simp;refine hK _ _ ?_;clear hK K))
 refine wpUp_nil (fun wq hwq=>?_)
 simp only [fills]
 go_wp2
 go_ret
 refine ⟨rfl,?_⟩
 (repeat (first|exact Up.refl _|refine Up.alloc ?_ _|refine Up.trans ?_ (by with_reducible assumption)))
theorem KnD.grow_off {k:KnD} (h:k.last= -1):k.grow=false:=by unfold KnD.grow;rw [h];rfl
theorem KnD.grow_on {k:KnD} (h:k.last≠ -1):k.grow=decide (k.next≤lastC k.set):=by unfold KnD.grow;rw [decide_eq_true h,Bool.true_and]
theorem KnD.Ok.last0 {k:KnD} (h:k.Ok) (hl:k.last≠ -1):0≤k.last∧k.last≤1023:=by
 have h1:=h.last.resolve_left hl
 have h2:=h.c_bd
 have h3:=h.len
 rw [codeOk_iff] at h1
 omega
set_option maxRecDepth 100000 in
set_option maxHeartbeats 1000000 in
theorem l2Grows_any (k:KnD) (v:Value) (lo:Nat) (w:World) (h:k.Ok) (hr:RdP lo w v k.ps) :
  Calls Tryz.prog 159  #[kV k v] w (Same (.bool k.grow) w):=by
 obtain ⟨hb1,hb2,hb3,hb4,hb5⟩:=h.nums
 by_cases hla:k.last= -1
 ·rw [KnD.grow_off hla]
  obtain ⟨⟨o,l,m⟩,ps,ba,la⟩:=k
  simp only at hla
  subst hla
  obtain ⟨a,cap,rfl,-,-,-,-⟩:=hr
  clear h
  simp only [kV]
  go_enter Tryz.func159,Tryz.ntmps159
  go_wp2
  refine wp_region_up 12 (by kernel_rfl) (by kernel_rfl) ?_
  simp only [List.take,List.drop]
  repeat (refine wpUp_step (fun K hK=>?_);go_simp;(try simp only [↓IntWalk.iteOmega]);first
   |(refine hK _ _ ?_;clear hK K)
   |(apply stepU_c
     ·intro wq hwq;(have hbq:=bcell hwq;(repeat (first|refine fills_no (by rfl) ?_|refine fills_yes (by rfl) (fun vq hvq=>?_)));simp only [List.filter_nil,fills];unfold upAt;go_simp;(try go_bits);(try simp only [↓IntWalk.iteOmega]);first|exact upOut_value)
     go_simp;refine hK _ _ ?_;clear hK K))
  refine wpUp_nil (fun wq hwq=>?_)
  simp only [fills]
  go_wp2
  go_ret
  refine ⟨rfl,?_⟩
  (repeat (first|exact Up.refl _|refine Up.alloc ?_ _|refine Up.trans ?_ (by with_reducible assumption)))
 ·have e:=Lib.hid (KnD.grow_on hla)
  have cN:=fun w hr=>l2Next_any k v lo w h hr
  have cL:=fun w=>l1Last_any k.set w h.set
  have hl0:=(h.last0 hla).1
  have hnb:=KnD.next_bd h
  rw [e.out]
  generalize k.next=nx at *
  generalize lastC k.set=lc at *
  have hr':=hr
  obtain ⟨⟨o,l,m⟩,ps,ba,la⟩:=k
  simp only at *
  obtain ⟨a,cap,rfl,-,-,-,-⟩:=hr
  clear h e
  simp only [kV] at *
  go_enter Tryz.func159,Tryz.ntmps159
  go_wp2
  refine wp_region_up 12 (by kernel_rfl) (by kernel_rfl) ?_
  simp only [List.take,List.drop]
  repeat (refine wpUp_step (fun K hK=>?_);go_simp;(try simp only [↓IntWalk.iteOmega]);first
   |(refine hK _ _ ?_;clear hK K)
   |(apply stepU_c
     ·intro wq hwq;(have hbq:=bcell hwq;(repeat (first|refine fills_no (by rfl) ?_|refine fills_yes (by rfl) (fun vq hvq=>?_)));simp only [List.filter_nil,fills];unfold upAt;go_simp;(try go_bits);(try simp only [↓IntWalk.iteOmega]);first|exact upOut_value|(apply upOut_call;(go_at_call 108;exact cN _ (hr'.up ((Up.alloc (Up.refl _) _).trans hwq))))|(apply upOut_call;(go_at_call 109;exact cL _)))
     go_simp;refine hK _ _ ?_;clear hK K))
  refine wpUp_nil (fun wq hwq=>?_)
  simp only [fills]
  go_wp2
  go_ret
  refine ⟨ret_bool (by first|rfl|simp),?_⟩
  (repeat (first|exact Up.refl _|refine Up.alloc ?_ _|refine Up.trans ?_ (by with_reducible assumption)))
set_option maxRecDepth 100000 in
set_option maxHeartbeats 1000000 in
theorem l2Greatest_any (k:KnD) (v:Value) (lo:Nat) (w:World) (h:k.Ok) (hr:RdP lo w v k.ps) :
  Calls Tryz.prog 147  #[kV k v] w (Same (.int .i64 (k.top:Nat)) w):=by
 have cN:=fun w hr=>l2Next_any k v lo w h hr
 have cG:=fun w hr=>l2Grows_any k v lo w h hr
 have hnb:=KnD.next_bd h
 have hn2:2≤k.next:=by unfold KnD.next;omega
 cases hg:k.grow
 ·have e:Hid (((k.top:Nat):Int)=(k.next:Int) - 1):=by unfold Hid KnD.top;rw [hg];simp;omega
  rw [e.out]
  rw [hg] at cG
  generalize k.next=nx at *
  have hr':=hr
  obtain ⟨⟨o,l,m⟩,ps,ba,la⟩:=k
  simp only at *
  obtain ⟨a,cap,rfl,-,-,-,-⟩:=hr
  clear h e hg
  simp only [kV] at *
  go_enter Tryz.func147,Tryz.ntmps147
  go_wp2_with (first|(go_at_call 159;(with_reducible refine (cG _ (hr'.up (Up.alloc (Up.refl _) _))).mono ?_);rintro e w1 ⟨rfl,U1⟩;have B1:=bcell U1;have Z1:=U1.size;(try simp at Z1);(try rw [Nat.add_one_le_iff] at Z1))|(go_at_call 108;(with_reducible refine (cN _ (hr'.up ((Up.alloc (Up.refl _) _).trans U1))).mono ?_);rintro e w2 ⟨rfl,U2⟩;have B2:=bcell U2;have Z2:=U2.size;(try simp at Z2);(try rw [Nat.add_one_le_iff] at Z2)))
  go_ret
  refine ⟨rfl,?_⟩
  (repeat (first|exact Up.refl _|refine Up.alloc ?_ _|refine Up.trans ?_ (by with_reducible assumption)))
 ·have e:Hid (((k.top:Nat):Int)=(k.next:Int)):=by unfold Hid KnD.top;rw [hg];simp
  rw [e.out]
  rw [hg] at cG
  generalize k.next=nx at *
  have hr':=hr
  obtain ⟨⟨o,l,m⟩,ps,ba,la⟩:=k
  simp only at *
  obtain ⟨a,cap,rfl,-,-,-,-⟩:=hr
  clear h e hg
  simp only [kV] at *
  go_enter Tryz.func147,Tryz.ntmps147
  go_wp2_with (first|(go_at_call 159;(with_reducible refine (cG _ (hr'.up (Up.alloc (Up.refl _) _))).mono ?_);rintro e w1 ⟨rfl,U1⟩;have B1:=bcell U1;have Z1:=U1.size;(try simp at Z1);(try rw [Nat.add_one_le_iff] at Z1))|(go_at_call 108;(with_reducible refine (cN _ (hr'.up ((Up.alloc (Up.refl _) _).trans U1))).mono ?_);rintro e w2 ⟨rfl,U2⟩;have B2:=bcell U2;have Z2:=U2.size;(try simp at Z2);(try rw [Nat.add_one_le_iff] at Z2)))
  go_ret
  refine ⟨rfl,?_⟩
  (repeat (first|exact Up.refl _|refine Up.alloc ?_ _|refine Up.trans ?_ (by with_reducible assumption)))
end Go.Proofs.YtekogcjdaolcbaaGreatDoor
/- Walks of the reference's functions on widths and on codes that can follow. Conditions: what is known is valid (KnD.Ok) and can be read. -/
namespace Go.Proofs.YtekogcjdaolcbaaGreatDoor
open Go.RowKit
def needed (n:Nat):Nat:=if h:1<n then needed (n / 2)+1 else 1
 termination_by n
 decreasing_by omega
theorem needed_step {n:Nat} (h:1<n):needed n=needed (n / 2)+1:=by rw [needed,dif_pos h]
theorem needed_end {n:Nat} (h: ¬ 1<n):needed n=1:=by rw [needed,dif_neg h]
theorem needed_bd (n:Nat):1≤needed n∧needed n≤n+1:=by
 induction n using Nat.strongRecOn with
 |ind n ih =>
  by_cases h:1<n
  ·rw [needed_step h];have:=ih (n / 2) (by omega);omega
  ·rw [needed_end h];omega
def RelN (n0:Nat) (m o:Value):Prop:= ∃ a b:Nat,m= .int .i64 a∧o= .int .i64 b∧a≤n0∧1≤b∧b+needed a=needed n0+1
set_option maxRecDepth 100000 in
set_option maxHeartbeats 1000000 in
theorem l1Needed_any (n:Nat) (w:World) (hn:n≤1048576) :
  Calls Tryz.prog 167  #[.int .i64 n] w fun e w'=>e= .returned (.int .i64 (needed n:Nat))∧w=w':=by
 have hnb:=(needed_bd n).2
 go_enter Tryz.func167,Tryz.ntmps167
 go_wp2
 go_loop [0,3] (fun m o=>RelN n m o) (fun m _=>(intOf m).toNat)
 case atStart=>exact ⟨n,1,rfl,rfl,Nat.le_refl _,Nat.le_refl _,by omega⟩
 case round =>
  obtain ⟨a,b,rfl,rfl,han,hb,he⟩:=hrel
  have hab:=(needed_bd a).1
  have HE:=Lib.hid he
  have hb2:b≤1048577:=by omega
  clear he
  by_cases ha:1<a
  ·have HS:=Lib.hid (needed_step ha)
   go_wp2
   go_round
   case rel=>exact ⟨a / 2,b+1,by go_num,by go_num,by omega,by omega,by have:=HE.out;have:=HS.out;omega⟩
   case measure=>simp [intOf];omega
  ·have HS:=Lib.hid (needed_end ha)
   go_wp2
   go_ret
   exact ⟨ret_int (by have:=HE.out;have:=HS.out;omega),rfl⟩
def KnD.width (k:KnD):Nat:=max (k.set.lit.toNat+1) (needed k.top)
theorem pow_needed (n:Nat):n<2 ^ needed n:=by
 induction n using Nat.strongRecOn with
 |ind n ih =>
  by_cases h:1<n
  ·rw [needed_step h,Nat.pow_succ];have:=ih (n / 2) (by omega);omega
  ·rw [needed_end h];omega
theorem needed_le {n m:Nat} (h:n<2 ^ m) (hm:1≤m):needed n≤m:=by
 induction n using Nat.strongRecOn generalizing m with
 |ind n ih =>
  by_cases h1:1<n
  ·rw [needed_step h1]
   obtain ⟨m',rfl⟩: ∃ m',m=m'+1:=⟨m - 1,by omega⟩
   rw [Nat.pow_succ] at h
   have hm':1≤m':=by
    rcases Nat.eq_zero_or_pos m' with rfl|hp
    ·simp at h;omega
    ·exact hp
   have:= @ih (n / 2) (by omega) m' (by omega) hm'
   omega
  ·rw [needed_end h1];exact hm
theorem KnD.width_bd {k:KnD} (h:k.Ok):2≤k.width∧k.width≤10:=by
 obtain ⟨-,⟨h1,h2⟩,h3,h4⟩:=setOk_bd h.set
 have ht:=(KnD.top_bd h).2
 have:=h.nums
 have hn:needed k.top≤10:=needed_le (by have:(2:Nat) ^ 10=1024:=rfl;omega) (by omega)
 unfold KnD.width
 omega
set_option maxRecDepth 100000 in
set_option maxHeartbeats 1000000 in
theorem l2Width_any (k:KnD) (v:Value) (lo:Nat) (w:World) (h:k.Ok) (hr:RdP lo w v k.ps) :
  Calls Tryz.prog 151  #[kV k v] w (Same (.int .i64 (k.width:Nat)) w):=by
 have cG:=fun w hr=>l2Greatest_any k v lo w h hr
 have cN:=fun w hn=>l1Needed_any k.top w hn
 obtain ⟨-,⟨h1,h2⟩,-,-⟩:=setOk_bd h.set
 have hnum:=h.nums
 have ht:=KnD.top_bd h
 have hnd:=needed_bd k.top
 have ht1:=ht.1
 have ht2:=ht.2
 have ht3:=hnum.2.2.1
 obtain ⟨hn1,hn2⟩:=hnd
 clear ht hnum
 have e:Hid (((k.width:Nat):Int)=max (k.set.lit+1) ((needed k.top:Nat):Int)):=by unfold Hid KnD.width;omega
 rw [e.out]
 generalize needed k.top=nd at *
 generalize k.top=tp at *
 have hr':=hr
 obtain ⟨⟨o,l,m⟩,ps,ba,la⟩:=k
 simp only at *
 obtain ⟨a,cap,rfl,-,-,-,-⟩:=hr
 clear h e
 simp only [kV] at *
 go_enter Tryz.func151,Tryz.ntmps151
 go_wp2
 refine wp_region_up 9 (by kernel_rfl) (by kernel_rfl) ?_
 simp only [List.take,List.drop]
 repeat (refine wpUp_step (fun K hK=>?_);go_simp;(try simp only [↓IntWalk.iteOmega]);first
  |(refine hK _ _ ?_;clear hK K)
  |(apply stepU_c
    ·intro wq hwq;(have hbq:=bcell hwq;(repeat (first|refine fills_no (by rfl) ?_|refine fills_yes (by rfl) (fun vq hvq=>?_)));simp only [List.filter_nil,fills];unfold upAt;go_simp;(try go_bits);(try simp only [↓IntWalk.iteOmega]);first|exact upOut_value|(apply upOut_call;(go_at_call 147;exact cG _ (hr'.up ((Up.alloc (Up.refl _) _).trans hwq))))|(apply upOut_eq;(go_at_call 147;exact cG _ (hr'.up ((Up.alloc (Up.refl _) _).trans hwq))))|(apply upOut_call;(go_at_call 167;exact cN _ (by omega)))|(apply upOut_eq;(go_at_call 167;exact cN _ (by omega))))
    go_simp;refine hK _ _ ?_;clear hK K))
 refine wpUp_nil (fun wq hwq=>?_)
 simp only [fills]
 go_wp2
 all_goals
  go_ret
  refine ⟨ret_int (by first|rfl|omega),?_⟩
  (repeat (first|exact Up.refl _|refine Up.alloc ?_ _|refine Up.trans ?_ (by with_reducible assumption)))
theorem codeOk_inB (c n:Nat) (x:Int):codeOk c n x=(inB x 0 ((c:Int) - 1) || inB x ((c:Int)+2) ((c:Int)+1+n)):=by
 rw [Bool.eq_iff_iff,codeOk_iff,Bool.or_eq_true,inB_iff,inB_iff];omega
set_option maxRecDepth 100000 in
set_option maxHeartbeats 1000000 in
theorem l2Code_any (s:SetD) (x:Int) (n:Nat) (w:World) (h:setOk s=true) (hn:n≤1073741824) :
  Calls Tryz.prog 146  #[setV s,.int .i64 x,.int .i64 n] w (Same (.bool (codeOk (clr s) n x)) w):=by
 have cC:=fun w=>l1Clear_any s w h
 have cE:=fun w=>l1End_any s w h
 obtain ⟨hb1,hb2,-,-⟩:=clr_bd h
 have e:=Lib.hid (codeOk_inB (clr s) n x)
 rw [e.out]
 generalize clr s=c at *
 clear h e
 obtain ⟨o,l,m⟩:=s
 simp only [setV] at *
 cases h1:inB x 0 ((c:Int) - 1)
 all_goals
  go_enter Tryz.func146,Tryz.ntmps146
  go_wp2
  refine wp_region_up 17 (by kernel_rfl) (by kernel_rfl) ?_
  simp only [List.take,List.drop]
  repeat (refine wpUp_step (fun K hK=>?_);go_simp;(try simp only [↓IntWalk.iteOmega]);first
   |(refine hK _ _ ?_;clear hK K)
   |(apply stepU_c
     ·intro wq hwq;(have hbq:=bcell hwq;(repeat (first|refine fills_no (by rfl) ?_|refine fills_yes (by rfl) (fun vq hvq=>?_)));simp only [List.filter_nil,fills];unfold upAt;go_simp;(try go_bits);(try simp only [↓IntWalk.iteOmega]);first|exact upOut_value|(apply upOut_call;(go_at_call 86;exact cC _))|(apply upOut_eq;(go_at_call 86;exact cC _))|(apply upOut_call;(go_at_call 131;exact cE _))|(apply upOut_eq;(go_at_call 131;exact cE _))|(apply upOut_call;(go_at_call 145;exact l1In_any _ _ _ _))|(apply upOut_eq;(go_at_call 145;exact l1In_any _ _ _ _)))
     go_simp;refine hK _ _ ?_;clear hK K))
  refine wpUp_nil (fun wq hwq=>?_)
  simp only [fills]
  go_wp2
  go_ret
  refine ⟨ret_bool (by first|rfl|simp|(simp only [h1];first|rfl|(congr 1 <;> omega))),?_⟩
  (repeat (first|exact Up.refl _|refine Up.alloc ?_ _|refine Up.trans ?_ (by with_reducible assumption)))
end Go.Proofs.YtekogcjdaolcbaaGreatDoor
/- Rows of pairs: copies of them, and the reference's l2Cleared. Conditions: what is known is valid (KnD.Ok) and can be read. -/
namespace Go.Proofs.YtekogcjdaolcbaaGreatDoor
open Go Go.RowKit
theorem infoPair:(Tryz.prog.info? 133).map (fun i=>(i.zero,i.size,i.bytes))=some (some (.agg #[.int .i64 0,.int .i64 0]),2,16):=by kernel_rfl
def prC (p:PairD):List Value:= [.int .i64 p.pre,.int .i64 p.byt]
def cellsPr (l:List PairD):List Value:=l.flatMap prC
theorem cellsPr_length (l:List PairD):(cellsPr l).length=l.length * 2:=by
 induction l with
 |nil=>rfl
 |cons b l ih=>simp only [cellsPr,List.flatMap_cons,List.length_append,List.length_cons] at ih ⊢;simp only [prC,List.length_cons,List.length_nil];omega
theorem cellsPr_snoc (l:List PairD) (b:PairD):cellsPr (l++ [b])=cellsPr l++prC b:=by simp [cellsPr]
theorem cellsPr_get (l:List PairD) (i j:Nat) (b:PairD) (hb:l[i]? =some b) (hj:j<2):(cellsPr l)[i * 2+j]? =(prC b)[j]? :=by
 induction l generalizing i with
 |nil=>simp at hb
 |cons a l ih =>
  have e:cellsPr (a :: l)=prC a++cellsPr l:=rfl
  rw [e]
  cases i with
  |zero =>
   simp at hb;subst hb
   rw [List.getElem?_append_left (by simp [prC];omega)]
   simp
  |succ i =>
   rw [List.getElem?_append_right (by simp [prC];omega)]
   rw [← ih i (by simpa using hb)]
   congr 1
   simp [prC];omega
theorem prC_one (b:PairD): ∀ u∈prC b,u.oneCell'=true:=by
 intro u hu
 simp only [prC,List.mem_cons,List.not_mem_nil,or_false] at hu
 rcases hu with rfl|rfl <;> rfl
theorem cellsPr_one (l:List PairD): ∀ u∈cellsPr l,u.oneCell'=true:=by
 intro u hu
 obtain ⟨p,-,hp⟩:=List.mem_flatMap.1 hu
 exact prC_one p u hp
abbrev ownPr (w:World) (base:Nat) (v:Value) (ps:List PairD):Prop:=w.ownsRow base 133 2 v ps.length (cellsPr ps)
theorem RdP.of_own {w:World} {base:Nat} {v:Value} {ps:List PairD} (h:ownPr w base v ps):RdP base w v ps:=by
 rcases ownsRow_read h with ⟨rfl,h2⟩|⟨g,cap,rfl,h1,h2,h3,h4,h5⟩
 ·exact ⟨none,0,by rw [h2],by omega,by unfold maxLen;omega,fun _=>⟨h2,rfl⟩,fun h=>by omega⟩
 ·refine ⟨some ⟨g,0,none⟩,cap,rfl,h1,h2,(fun e=>by cases e),fun _=>⟨g,0,rfl,h3,h4,fun i p hi=>⟨?_,?_⟩⟩⟩
  ·rw [Nat.zero_add];exact h5 _ _ (cellsPr_get ps i 0 p hi (by omega))
  ·rw [Nat.zero_add];exact h5 _ _ (cellsPr_get ps i 1 p hi (by omega))
theorem RdP.news {lo:Nat} {w:World} {b off n cap:Nat} {ps:List PairD} (h: ∀ i p,ps[i]? =some p→w.cell? ⟨b,off+i * 2,none⟩=some (.int .i64 p.pre)∧w.cell? ⟨b,off+i * 2+1,none⟩=some (.int .i64 p.byt)) :
  ∀ j u,(cellsPr ps)[j]? =some u→w.cell? ((⟨b,off,none⟩:Addr).add j)=some u:=by
 intro j u hu
 have hadd:(⟨b,off,none⟩:Addr).add j=⟨b,off+j,none⟩:=by unfold Addr.add;split <;> simp_all
 rw [hadd]
 have hj:j<ps.length * 2:=by rw [← cellsPr_length];exact (List.getElem?_eq_some_iff.1 hu).1
 obtain ⟨i,r,rfl,hr⟩: ∃ i r,j=i * 2+r∧r<2:=⟨j / 2,j % 2,by omega,by omega⟩
 have hi:i<ps.length:=by omega
 rw [cellsPr_get ps i r ps[i] (List.getElem?_eq_getElem hi) hr] at hu
 obtain ⟨h1,h2⟩:=h i _ (List.getElem?_eq_getElem hi)
 rcases (by omega:r=0∨r=1) with rfl|rfl
 ·simp only [prC,List.getElem?_cons_zero,Option.some.injEq] at hu
  subst hu;exact h1
 ·simp only [prC,List.getElem?_cons_succ,List.getElem?_cons_zero,Option.some.injEq] at hu
  subst hu;exact h2
section
variable {P:Program}
theorem upAt_run {o:Oper} {a:Act} {w:World} {D:Value→World→Prop} (s x:Operand) (t:TypeId) (ho:o.op= .call { callee:= .builtin .append,args:= #[s,x],argTypes:= #[t,t]}) {vs vx:Value} (hs:a.eval s=vs) (hx:a.eval x=vx) {v':Value} {w':World}
  (hr:(Builtin.append_ #[t,t] o.type #[vs,vx]).run P w= .ok v' w') (hu:Up w w') (hD:D v' w'):upAt P o a w D:=by
 unfold upAt execOp
 simp only [ho,resolve,invoke,builtin,Sem.run_bind,Sem.run_pure,Result.andThen_ok,List.map_toArray,List.map_cons,List.map_nil,hs,hx,hr]
 exact ⟨hu,hD⟩
theorem run_append_zero (w:World) (t ty e:TypeId) (i:TypeInfo) (ht:P.underlying t=some (.slice e)) (hi:P.info? e=some i) (g n cap:Nat) (hn:n≤cap) (ad:Addr) (c:Nat) :
  (Builtin.append_ #[t,t] ty #[.slice (some ⟨g,0,none⟩) n cap,.slice (some ad) 0 c]).run P w= .ok (.slice (some ⟨g,0,none⟩) n cap) w:=by
 simp [Builtin.append_,run_underlying ht,sizeOf,typeInfo,hi,Builtin.lenOf,Builtin.firstCells,loadCells,loadCellsFrom,hn,storeCells]
end
theorem upAt_copy {o:Oper} {a:Act} {w:World} (s x:Operand) (ho:o.op= .call { callee:= .builtin .append,args:= #[s,x],argTypes:= #[25,25]})
  (base lo:Nat) {vs vx:Value} (hs:a.eval s=vs) (hx:a.eval x=vx) {g:Nat} (hvs:vs= .slice (some ⟨g,0,none⟩) 0 0) (hown:w.ownsRow base 133 2 vs 0 []) (ps:List PairD) (hr:RdP lo w vx ps) (hl:ps.length≤1048576) (hbase:base≤w.heap.size) :
  upAt Tryz.prog o a w (fun v' w'=>ownPr w' base v' ps):=by
 obtain ⟨i0,hi,hz0,hz1,hz2⟩:=info_parts infoPair
 subst hvs
 obtain ⟨ad,cap,rfl,hc1,hc2,hc3,hsome⟩:=hr
 cases ad with
 |none =>
  obtain ⟨h1,h2⟩:=hc3 rfl
  have hps:ps= []:=List.length_eq_zero_iff.1 h1
  subst hps
  have hrun:=run_append_owned_none (P:=Tryz.prog) (w:=w) base 25 o.type 133 i0 2 Tryz.underlying25 hi _ 0 [] hown
  rw [h2] at hx
  exact upAt_run s x _ ho hs hx hrun (Up.refl _) hown
 |some ad =>
  by_cases hp:0<ps.length
  ·obtain ⟨b,off,e1,e2,e3,e4⟩:=hsome hp
   cases e1
   obtain ⟨v',w',hrun,h1,h2⟩:=run_append_new (P:=Tryz.prog) base 25 o.type 133 i0 (.agg #[.int .i64 0,.int .i64 0]) 2 16 Tryz.underlying25 hi hz0 hz1 hz2 rfl (by decide) w g 0 0 [] hown ⟨b,off,none⟩ ps.length cap (cellsPr ps) (cellsPr_length ps)
    (RdP.news (lo:=lo) (n:=0) (cap:=0) e4) (cellsPr_one ps) (by unfold maxLen;omega) (by omega) hbase (by omega)
   rw [Nat.zero_add,List.nil_append] at h1
   exact upAt_run s x _ ho hs hx hrun h2 h1
  ·have hps:ps= []:=List.length_eq_zero_iff.1 (by omega)
   subst hps
   have hrun:=run_append_zero (P:=Tryz.prog) w 25 o.type 133 i0 Tryz.underlying25 hi g 0 0 (Nat.le_refl _) ad cap
   exact upAt_run s x _ ho hs hx hrun (Up.refl _) hown
def MtP (base:Nat) (v:Value) (w:World):Prop:= ∃ g,v= .slice (some ⟨g,0,none⟩) 0 0∧w.ownsRow base 133 2 v 0 []
theorem mtP_closed (base:Nat) (v:Value):UpClosed (MtP base v):=fun w w' ⟨g,h1,h2⟩ hu=>⟨g,h1,ownsRow_up h2 hu⟩
theorem mtP_new {base:Nat} {w:World} (h:base≤w.heap.size):MtP base (.slice (some ⟨w.heap.size,0,none⟩) 0 0) (w.alloc (.cells #[] 133)):=⟨_,rfl,World.ownsRow_made _ _ _ h (by unfold maxLen;omega) (by simp)⟩
theorem ownPr_closed (base:Nat) (ps:List PairD) (v:Value):UpClosed (fun w=>ownPr w base v ps):=fun w w' h hu=>ownsRow_up h hu
def KnO (base:Nat) (k:KnD) (u:Value) (w:World):Prop:= ∃ v,u=kV k v∧ownPr w base v k.ps
theorem knO_closed (base:Nat) (k:KnD) (u:Value):UpClosed (KnO base k u):=fun w w' ⟨v,h1,h2⟩ hu=>⟨v,h1,ownsRow_up h2 hu⟩
end Go.Proofs.YtekogcjdaolcbaaGreatDoor
/- Walk of the reference's l2Cleared. Conditions: what is known is valid (KnD.Ok) and can be read. -/
namespace Go.Proofs.YtekogcjdaolcbaaGreatDoor
open Go Go.RowKit
theorem RdP.take {lo:Nat} {w:World} {a:Option Addr} {n cap:Nat} {ps:List PairD} (h:RdP lo w (.slice a n cap) ps) (m:Nat) (hm:m≤ps.length):RdP lo w (.slice a m cap) (ps.take m):=by
 obtain ⟨a',cap',e,hc1,hc2,hc3,hsome⟩:=h
 cases e
 have hl:(ps.take m).length=m:=by rw [List.length_take];omega
 refine ⟨a,cap,by rw [hl],by rw [hl];omega,hc2,fun e=>by obtain ⟨h1,h2⟩:=hc3 e;exact ⟨by rw [hl];omega,h2⟩,fun hp=>?_⟩
 rw [hl] at hp
 obtain ⟨b,off,e1,e2,e3,e4⟩:=hsome (by omega)
 refine ⟨b,off,e1,e2,e3,fun i p hi=>e4 i p ?_⟩
 have hil:=(List.getElem?_eq_some_iff.1 hi).1
 rw [List.getElem?_take,if_pos (by omega)] at hi
 exact hi
theorem ownsRow_setne {w:World} {base:Nat} {e:TypeId} {size n:Nat} {v:Value} {xs:List Value} (h:w.ownsRow base e size v n xs) {b:Nat} (hb:b<base) (i:Nat) (u:Value):(w.setCell ⟨b,i,none⟩ u).ownsRow base e size v n xs :=
 h.kept (grownBy_set (grownBy_refl w (some b)) i u) (by
  cases hv:v.ownBlock with
  |none=>exact .inl rfl
  |some g=>exact .inr fun e=>by have:=(h.lt g hv).1;cases e;omega)
def KnPost (k:KnD) (w:World) (e:Ending) (w':World):Prop:= ∃ v,e= .returned (kV k v)∧ownPr w' w.heap.size v k.ps∧Up w w'
set_option maxRecDepth 100000 in
set_option maxHeartbeats 2000000 in
theorem l2Cleared_any (k:KnD) (v:Value) (lo:Nat) (w:World) (h:k.Ok) (hr:RdP lo w v k.ps) :
  Calls Tryz.prog 129  #[kV k v] w (KnPost k.cleared w):=by
 obtain ⟨hb1,hb2,hb3,hb4,hb5⟩:=h.nums
 have h0:=h.base0
 have h1:=h.base1
 obtain ⟨m,hm⟩: ∃ m:Nat,k.base=m:=⟨k.base.toNat,by omega⟩
 have hml:m≤k.ps.length:=by omega
 have hr':=hr
 obtain ⟨a,cap,rfl,hc1,hc2,hc3,-⟩:=hr
 have hrt:=fun (wq:World) (hu:Up w wq)=>(hr'.up hu).take m hml
 have e:Hid (k.cleared=⟨k.set,k.ps.take m,m,-1⟩):=by unfold Hid KnD.cleared;rw [hm];rfl
 rw [e.out]
 unfold maxLen at hc2
 have hlt:(k.ps.take m).length=m:=by rw [List.length_take];omega
 simp only [kV,hm]
 clear h h0 h1 e
 have hql:(k.ps.take m).length≤1022:=by omega
 clear hlt
 generalize k.ps.take m=qs at *
 cases a with
 |none =>
  obtain ⟨z1,z2⟩:=hc3 rfl
  have hm0:m=0:=by omega
  subst hm0
  subst z2
  rw [z1]
  go_enter Tryz.func129,Tryz.ntmps129
  go_wp2
  refine wp_region_up 12 (by kernel_rfl) (by kernel_rfl) ?_
  simp only [List.take,List.drop]
  repeat (refine wpUp_step (fun K hK=>?_);go_simp;(try simp only [↓IntWalk.iteOmega]);first
   |(refine hK _ _ ?_;clear hK K)
   |(refine stepU_m (by kernel_rfl) ((fun v w'=>ownPr w' (w.heap.size+2) v (qs))) (ownPr_closed _ _) (fun wq hwq=>?_) ?_
     ·(have hbq:=bcell hwq;(repeat (first|refine fills_no (by rfl) ?_|refine fills_yes (by rfl) (fun vq hvq=>?_)));simp only [List.filter_nil,fills];(obtain ⟨gq,eq1,hq1⟩:=hvq;exact upAt_copy (vs:=vq) (.tmp 5) (.tmp 10) (by rfl) (w.heap.size+2) lo (by rfl) (by rfl) eq1 hq1 (qs) (hrt _ (by (repeat (first|exact Up.refl _|refine Up.alloc ?_ _|refine Up.set ?_ (by first|exact Nat.le_refl _|(simp;done)|(simp;omega)) _|refine Up.trans ?_ (by with_reducible assumption))))) (by omega) (by have:=hwq.size;simp at this;omega)))
     refine hK _ _ ?_;clear hK K)
   |(apply stepU_c
     ·intro wq hwq;(have hbq:=bcell hwq;(repeat (first|refine fills_no (by rfl) ?_|refine fills_yes (by rfl) (fun vq hvq=>?_)));simp only [List.filter_nil,fills];unfold upAt;(try (obtain ⟨aq,cq,rfl⟩:=ownsRow_shape hvq));go_simp;(try go_bits);(try simp only [↓IntWalk.iteOmega]);first|exact upOut_value)
     go_simp;refine hK _ _ ?_;clear hK K)
   |(refine stepU_m (by kernel_rfl) (MtP (w.heap.size+2)) (mtP_closed _) (fun wq hwq=>?_) ?_
     ·(have hbq:=bcell hwq;(repeat (first|refine fills_no (by rfl) ?_|refine fills_yes (by rfl) (fun vq hvq=>?_)));simp only [List.filter_nil,fills];unfold upAt;(try (obtain ⟨aq,cq,rfl⟩:=ownsRow_shape hvq));go_simp;(try go_bits);(try simp only [↓IntWalk.iteOmega]);exact upOut_make ((Up.refl _).alloc _) (mtP_new (by have:=hwq.size;simp at this;omega)))
     refine hK _ _ ?_;clear hK K)
   |(refine stepU_m (by kernel_rfl) (KnO (w.heap.size+2) ⟨k.set,qs,(0:Nat),-1⟩) (knO_closed _ _) (fun wq hwq=>?_) ?_
     ·(have hbq:=bcell hwq;(repeat (first|refine fills_no (by rfl) ?_|refine fills_yes (by rfl) (fun vq hvq=>?_)));simp only [List.filter_nil,fills];unfold upAt;(try (obtain ⟨aq,cq,rfl⟩:=ownsRow_shape hvq));go_simp;(try go_bits);(try simp only [↓IntWalk.iteOmega]);exact upOut_make (Up.refl _) ⟨_,rfl,by assumption⟩)
     refine hK _ _ ?_;clear hK K))
  refine wpUp_nil (fun wq hwq=>?_)
  simp only [fills]
  rintro u ⟨v',rfl,hv'⟩ v1 - v2 -
  obtain ⟨a',c',rfl⟩:=ownsRow_shape hv'
  have BQ:=bcell hwq
  have HV:=Lib.hid hv'
  clear hv'
  have hsz:=hwq.size
  simp at hsz
  obtain ⟨-,q0,q1,q2,q3,q4,q5⟩:=KnAt.cells (b:=w.heap.size+1) (k:=⟨⟨0,0,0⟩,[],0,0⟩) (v:= .slice none 0 0) (box_up hwq (by rw [← size_alloc w _];exact (MapKept.heap_alloc _ _).1))
  go_wp2
  refine bodyPost_ret (v:=kV ⟨k.set,qs,(0:Nat),-1⟩ (.slice a' (qs).length c')) (by simp [results,Tryz.results129,go_sem,q0,q1,q2,q3,q4,q5]) rfl ⟨_,rfl,?_,?_⟩
  ·refine ownsRow_base (base:=w.heap.size+2) ?_ (by omega)
   repeat (with_reducible refine ownsRow_setne ?_ (by omega) _ _)
   exact HV.out
  ·(repeat (first|with_reducible exact Up.refl _|with_reducible assumption|with_reducible refine Up.set ?_ (by first|exact Nat.le_refl _|(simp only [];omega)|(simp;omega)) _|with_reducible refine Up.alloc ?_ _|refine Up.trans ?_ (by with_reducible assumption)))
 |some ad =>
  go_enter Tryz.func129,Tryz.ntmps129
  go_wp2
  refine wp_region_up 12 (by kernel_rfl) (by kernel_rfl) ?_
  simp only [List.take,List.drop]
  repeat (refine wpUp_step (fun K hK=>?_);go_simp;(try simp only [↓IntWalk.iteOmega]);first
   |(refine hK _ _ ?_;clear hK K)
   |(refine stepU_m (by kernel_rfl) ((fun v w'=>ownPr w' (w.heap.size+2) v qs)) (ownPr_closed _ _) (fun wq hwq=>?_) ?_
     ·(have hbq:=bcell hwq;(repeat (first|refine fills_no (by rfl) ?_|refine fills_yes (by rfl) (fun vq hvq=>?_)));simp only [List.filter_nil,fills];(obtain ⟨gq,eq1,hq1⟩:=hvq;exact upAt_copy (vs:=vq) (.tmp 5) (.tmp 10) (by rfl) (w.heap.size+2) lo (by rfl) (by rfl) eq1 hq1 qs (hrt _ (by (repeat (first|exact Up.refl _|refine Up.alloc ?_ _|refine Up.set ?_ (by first|exact Nat.le_refl _|(simp;done)|(simp;omega)) _|refine Up.trans ?_ (by with_reducible assumption))))) (by omega) (by have:=hwq.size;simp at this;omega)))
     refine hK _ _ ?_;clear hK K)
   |(apply stepU_c
     ·intro wq hwq;(have hbq:=bcell hwq;(repeat (first|refine fills_no (by rfl) ?_|refine fills_yes (by rfl) (fun vq hvq=>?_)));simp only [List.filter_nil,fills];unfold upAt;(try (obtain ⟨aq,cq,rfl⟩:=ownsRow_shape hvq));go_simp;(try go_bits);(try simp only [↓IntWalk.iteOmega]);first|exact upOut_value)
     go_simp;refine hK _ _ ?_;clear hK K)
   |(refine stepU_m (by kernel_rfl) (MtP (w.heap.size+2)) (mtP_closed _) (fun wq hwq=>?_) ?_
     ·(have hbq:=bcell hwq;(repeat (first|refine fills_no (by rfl) ?_|refine fills_yes (by rfl) (fun vq hvq=>?_)));simp only [List.filter_nil,fills];unfold upAt;(try (obtain ⟨aq,cq,rfl⟩:=ownsRow_shape hvq));go_simp;(try go_bits);(try simp only [↓IntWalk.iteOmega]);exact upOut_make ((Up.refl _).alloc _) (mtP_new (by have:=hwq.size;simp at this;omega)))
     refine hK _ _ ?_;clear hK K)
   |(refine stepU_m (by kernel_rfl) (KnO (w.heap.size+2) ⟨k.set,qs,(m:Nat),-1⟩) (knO_closed _ _) (fun wq hwq=>?_) ?_
     ·(have hbq:=bcell hwq;(repeat (first|refine fills_no (by rfl) ?_|refine fills_yes (by rfl) (fun vq hvq=>?_)));simp only [List.filter_nil,fills];unfold upAt;(try (obtain ⟨aq,cq,rfl⟩:=ownsRow_shape hvq));go_simp;(try go_bits);(try simp only [↓IntWalk.iteOmega]);exact upOut_make (Up.refl _) ⟨_,rfl,by assumption⟩)
     refine hK _ _ ?_;clear hK K))
  refine wpUp_nil (fun wq hwq=>?_)
  simp only [fills]
  rintro u ⟨v',rfl,hv'⟩ v1 - v2 -
  obtain ⟨a',c',rfl⟩:=ownsRow_shape hv'
  have BQ:=bcell hwq
  have HV:=Lib.hid hv'
  clear hv'
  have hsz:=hwq.size
  simp at hsz
  obtain ⟨-,q0,q1,q2,q3,q4,q5⟩:=KnAt.cells (b:=w.heap.size+1) (k:=⟨⟨0,0,0⟩,[],0,0⟩) (v:= .slice none 0 0) (box_up hwq (by rw [← size_alloc w _];exact (MapKept.heap_alloc _ _).1))
  go_wp2
  refine bodyPost_ret (v:=kV ⟨k.set,qs,(m:Nat),-1⟩ (.slice a' qs.length c')) (by simp [results,Tryz.results129,go_sem,q0,q1,q2,q3,q4,q5]) rfl ⟨_,rfl,?_,?_⟩
  ·refine ownsRow_base (base:=w.heap.size+2) ?_ (by omega)
   repeat (with_reducible refine ownsRow_setne ?_ (by omega) _ _)
   exact HV.out
  ·(repeat (first|with_reducible exact Up.refl _|with_reducible assumption|with_reducible refine Up.set ?_ (by first|exact Nat.le_refl _|(simp only [];omega)|(simp;omega)) _|with_reducible refine Up.alloc ?_ _|refine Up.trans ?_ (by with_reducible assumption)))
end Go.Proofs.YtekogcjdaolcbaaGreatDoor
/- Walk of the reference's l2Word. Conditions: what is known is valid (KnD.Ok) and can be read; the code has a word. -/
namespace Go.Proofs.YtekogcjdaolcbaaGreatDoor
open Go.RowKit
theorem ownsRow_pos {w:World} {base:Nat} {e:TypeId} {size n:Nat} {v:Value} {xs:List Value} (h:w.ownsRow base e size v n xs) (hn:0<n): ∃ g cap,v= .slice (some ⟨g,0,none⟩) n cap∧n≤cap∧cap≤maxLen∧base≤g∧g<w.heap.size:=by
 rcases ownsRow_read h with ⟨h1,h2⟩|⟨g,c,h1,h2,h3,h4,h5,_⟩
 ·omega
 ·exact ⟨g,c,h1,h2,h3,h4,h5⟩
theorem size_set2 (w:World) (a b:Addr) (u v:Value):w.heap.size=((w.setCell a u).setCell b v).heap.size:=by simp [World.setCell]
theorem infoByte:(Tryz.prog.info? 5).map (fun i=>(i.zero,i.size,i.bytes))=some (some (.int .u8 0),1,1):=by kernel_rfl
def cellsU (l:List UInt8):List Value:=l.map fun b=> .int .u8 (b.toNat:Int)
theorem cellsU_snoc (l:List UInt8) (b:UInt8):cellsU (l++ [b])=cellsU l++ [.int .u8 (b.toNat:Int)]:=by simp [cellsU]
theorem cellsU_app (l m:List UInt8):cellsU (l++m)=cellsU l++cellsU m:=by simp [cellsU]
theorem cellsU_get {l:List UInt8} {i:Nat} (h:i<l.length):(cellsU l)[i]? =some (.int .u8 (l[i].toNat:Int)):=by simp [cellsU,h]
theorem cellsU_at {l:List UInt8} {i:Nat} {b:UInt8} (h:l[i]? =some b):(cellsU l)[i]? =some (.int .u8 (b.toNat:Int)):=by simp [cellsU,h]
theorem cellsU_set (l:List UInt8) (i:Nat) (b:UInt8):(cellsU l).set i (.int .u8 (b.toNat:Int))=cellsU (l.set i b):=by simp [cellsU,List.map_set]
abbrev ownU (w:World) (base:Nat) (v:Value) (l:List UInt8):Prop:=w.ownsRow base 5 1 v l.length (cellsU l)
theorem conv_row {w:World} {base g cap:Nat} {l:List UInt8} {n:Nat} (h:w.ownsRow base 5 1 (.slice (some ⟨g,0,none⟩) n cap) n (cellsU l)) (hn:n=l.length) :
  (convert 22 9 (.slice (some ⟨g,0,none⟩) n cap)).run Tryz.prog w= .ok (.string (bs l)) w:=by
 have:=run_convert_bytes_arg (P:=Tryz.prog) w 22 5 Tryz.underlying22 Tryz.underlying5 g 0 n cap (l.map fun b=>(b.toNat:Int)) (by simp [hn]) (fun i hi=>by
  have hi':i<l.length:=by omega
  rw [Nat.zero_add,ownsRow_cell h (cellsU_get hi')]
  simp [List.getD_eq_getElem?_getD,hi']) 9 Tryz.underlying9
 rw [this,bs_num]
def revK (l:List UInt8) (k:Nat):List UInt8:=(List.range l.length).map fun j=>if j<k∨l.length - k≤j then l.getD (l.length - 1 - j) 0 else l.getD j 0
theorem revK_length (l:List UInt8) (k:Nat):(revK l k).length=l.length:=by simp [revK]
theorem revK_get (l:List UInt8) (k j:Nat) (h:j<l.length):(revK l k)[j]'(by rw [revK_length];exact h)=if j<k∨l.length - k≤j then l.getD (l.length - 1 - j) 0 else l.getD j 0:=by simp [revK]
theorem revK_zero (l:List UInt8):revK l 0=l:=by
 apply List.ext_getElem (revK_length l 0)
 intro j h1 h2
 rw [revK_get l 0 j h2,if_neg (by omega),List.getD_eq_getElem?_getD,List.getElem?_eq_getElem h2];rfl
theorem revK_end (l:List UInt8) (k:Nat) (hk:l.length / 2≤k):revK l k=l.reverse:=by
 apply List.ext_getElem (by rw [revK_length,List.length_reverse])
 intro j h1 h2
 rw [List.length_reverse] at h2
 rw [revK_get l k j h2,List.getElem_reverse]
 by_cases h:j<k∨l.length - k≤j
 ·rw [if_pos h,List.getD_eq_getElem?_getD,List.getElem?_eq_getElem (by omega)];rfl
 ·rw [if_neg h,List.getD_eq_getElem?_getD,List.getElem?_eq_getElem h2]
  have:l.length - 1 - j=j:=by omega
  simp only [this,Option.getD_some]
theorem revK_set (l:List UInt8) (k:Nat) (hk:k<l.length / 2):((revK l k).set k (l.getD (l.length - 1 - k) 0)).set (l.length - 1 - k) (l.getD k 0)=revK l (k+1):=by
 apply List.ext_getElem (by simp [revK_length])
 intro j h1 h2
 rw [revK_length] at h2
 rw [revK_get l (k+1) j h2,List.getElem_set,List.getElem_set]
 by_cases e1:l.length - 1 - k=j
 ·rw [if_pos e1,if_pos (by omega)]
  congr 1;omega
 ·rw [if_neg e1]
  by_cases e2:k=j
  ·rw [if_pos e2,if_pos (by omega)];subst e2;rfl
  ·rw [if_neg e2,revK_get l k j h2]
   by_cases h:j<k∨l.length - k≤j
   ·rw [if_pos h,if_pos (by omega)]
   ·rw [if_neg h,if_neg (by omega)]
theorem revK_at (l:List UInt8) (k j:Nat) (hj:j<l.length) (h:k≤j) (h':j<l.length - k):(revK l k)[j]? =some (l.getD j 0):=by
 rw [List.getElem?_eq_getElem (by rw [revK_length];exact hj),revK_get l k j hj,if_neg (by omega)]
theorem own_mt {T:TypeId} {size base g:Nat} {w':World} (hg:g=w'.heap.size) (h:base≤w'.heap.size):(w'.alloc (.cells #[] T)).ownsRow base T size (.slice (some ⟨g,0,none⟩) 0 0) 0 [] :=
 hg▸World.ownsRow_made _ _ _ h (by unfold maxLen;omega) (by simp)
def RelW1 (k:KnD) (v:Value) (x0:Int) (w:World) (x out:Value) (wr:World):Prop:= ∃ (y:Int) (rev:List UInt8),x= .int .i64 y∧codeOk k.c k.ps.length y=true∧k.word x0=k.word y++rev.reverse∧rev.length+y≤x0 ∧
 wr.ownsRow (w.heap.size+1) 5 1 out rev.length (cellsU rev)∧Up w wr∧KnAt w.heap.size k v wr
def RelW2 (l:List UInt8) (n g cap:Nat) (w:World) (i:Value) (wr:World):Prop:= ∃ j:Nat,j≤l.length / 2∧i= .int .i64 j∧wr.ownsRow (w.heap.size+1) 5 1 (.slice (some ⟨g,0,none⟩) n cap) n (cellsU (revK l j))∧Up w wr
theorem pair_at {w:World} {b off:Nat} {ps:List PairD} (h: ∀ i p,ps[i]? =some p→w.cell? ⟨b,off+i * 2,none⟩=some (.int .i64 p.pre)∧w.cell? ⟨b,off+i * 2+1,none⟩=some (.int .i64 p.byt)) {i:Nat} (hi:i<ps.length) :
  w.cell? ⟨b,off+i * 2,none⟩=some (.int .i64 ps[i].pre)∧w.cell? ⟨b,off+i * 2+1,none⟩=some (.int .i64 ps[i].byt):=h i _ (List.getElem?_eq_getElem hi)
set_option maxRecDepth 100000 in
set_option maxHeartbeats 4000000 in
theorem l2Word_any (k:KnD) (v:Value) (lo:Nat) (x0:Int) (w:World) (h:k.Ok) (hr:RdP lo w v k.ps) (hx:codeOk k.c k.ps.length x0=true) :
  Calls Tryz.prog 166  #[kV k v,.int .i64 x0] w (Same (.string (bs (k.word x0))) w):=by
 obtain ⟨i0,hi,hz0,hz1,hz2⟩:=info_parts infoByte
 obtain ⟨hb1,hb2,hb3,hb4,hb5⟩:=h.nums
 have cE:=fun w=>l1End_any k.set w h.set
 have ec:k.c=clr k.set:=rfl
 have hx0:x0≤1023:=by rw [codeOk_iff] at hx;omega
 have hr0:=hr
 obtain ⟨a,cap,rfl,hc1,hc2,hc3,hsome⟩:=hr
 simp only [kV]
 have HK:=Lib.hid h
 have HX:=Lib.hid hx
 clear h hx
 go_enter Tryz.func166,Tryz.ntmps166
 go_wp2
 go_loopw [1,5] (fun x out wr=>RelW1 k (.slice a k.ps.length cap) x0 w x out wr) (fun x _ _=>(intOf x).toNat)
 case atStart=>exact ⟨x0,[],rfl,HX.out,by simp,by simp,own_mt (size_alloc _ _).symm (by rw [size_alloc];exact Nat.le_refl _),by (repeat (first|exact Up.refl _|refine Up.alloc ?_ _|refine Up.set ?_ (by first|exact Nat.le_refl _|(simp;done)|(simp;omega)) _|refine Up.trans ?_ (by with_reducible assumption))),box_up ((Up.refl _).alloc _) (MapKept.heap_alloc w _).1⟩
 case round =>
  obtain ⟨y,rev,rfl,hy,hw,hlen,hown,hup,hkn⟩:=hrel
  obtain ⟨b0,b1,b2,b3,b4,b5,b6⟩:=hkn.cells
  have HKN:=Lib.hid hkn
  have HW:=Lib.hid hw
  have HY:=Lib.hid hy
  clear hkn hw
  have hsz:=hup.size
  by_cases hyc:y<clr k.set
  ·have hy0:0≤y:=by rw [codeOk_iff] at hy;omega
   clear hy
   have HWL:Hid (k.word y= [ub y]):=wordP_lit hyc
   have hub:=ub_nat hy0 (by omega:y<256)
   obtain ⟨a4,c4,rfl⟩:=ownsRow_shape hown
   have HL:Hid (cellsU (rev++ [ub y])=cellsU rev++ [.int .u8 y]):=by unfold Hid;rw [cellsU_snoc,hub]
   have hLl:(rev++ [ub y]).length=rev.length+1:=by simp
   have HR:Hid (k.word x0=(rev++ [ub y]).reverse):=by unfold Hid;rw [HW.out,HWL.out];simp
   clear hub
   go_wp2_with (first|(go_at_call 131;(with_reducible refine (cE _).mono ?_);rintro e w1 ⟨rfl,U1⟩;have B1:=bcell U1;have Z1:=U1.size;(try simp at Z1);(try rw [Nat.add_one_le_iff] at Z1))|(at_builtin;refine wpList_append_own _ rfl _ _ 22 rfl (w.heap.size+1) 5 i0 (.int .u8 0) 1 1 Tryz.underlying22 hi hz0 hz1 hz2 rfl (by decide) _ _ _ rfl ((ownsRow_up hown U1).alloc _) ⟨w1.heap.size,0,none⟩ 1 1 [.int .u8 y] rfl rfl (new_cells [.int .u8 y] _ rfl) (by intro u hu;simp at hu;subst hu;rfl) (by unfold maxLen;omega) (by omega) (by have:=U1.size;simp;omega) ?_;rintro v2 w2 hown2 hgr2 -;rw [← HL.out] at hown2;obtain ⟨g,c2,rfl,g1,g2,g3,g4⟩:=ownsRow_pos hown2 (Nat.succ_pos _)))
   have hnb:rev.length+1≤1024:=by omega
   generalize hLg:rev++ [ub y]=L at *
   generalize rev.length+1=n at *
   have hup2:Up w w2:=((hup.trans U1).alloc _).grown hgr2 (fun x hx=>Nat.le_trans (by omega) (hown.lt x hx).1)
   go_loopw [7] (fun i wr2=>RelW2 L n g c2 w i wr2) (fun i _=>n - (intOf i).toNat)
   case atStart=>exact ⟨0,Nat.zero_le _,rfl,by rw [revK_zero];exact hown2,hup2⟩
   case round =>
    obtain ⟨j,hj,rfl,hown3,hup3⟩:=hrel
    by_cases hlt:j<L.length / 2
    ·have x0:=ownsRow_cell hown3 (cellsU_at (revK_at L j j (by omega) (Nat.le_refl _) (by omega)))
     have x1:=ownsRow_cell hown3 (cellsU_at (revK_at L j (n - 1 - j) (by omega) (by omega) (by omega)))
     have f0:=ownsRow_free hown3 j
     have f1:=ownsRow_free hown3 (n - 1 - j)
     have HS:=Lib.hid (revK_set L j hlt)
     go_wp2
     go_roundw
     case rel=>exact ⟨j+1,by omega,by go_num,by rw [← HS.out,hLl,←cellsU_set,←cellsU_set];exact ownsRow_set (ownsRow_set hown3 j _) (n - 1 - j) _,(hup3.set (p:=⟨g,j,none⟩) (by simp;omega) _).set (p:=⟨g,n - 1 - j,none⟩) (by simp;omega) _⟩
     case measure=>simp [intOf];omega
    ·have hJ:Hid (revK L j=L.reverse):=revK_end L j (by omega)
     rw [hJ.out] at hown3
     have hconv:=conv_row hown3 (by rw [List.length_reverse];omega)
     go_wp2
     go_ret
     refine ⟨ret_str (by rw [HR.out]),hup3⟩
  ·obtain ⟨i,rfl⟩: ∃ i:Nat,y=(clr k.set:Int)+2+i:=⟨(y - clr k.set - 2).toNat,by rw [codeOk_iff] at hy;omega⟩
   have hil:i<k.ps.length:=by rw [codeOk_iff] at hy;omega
   clear hy
   obtain ⟨p1,p2,p3⟩:=pre_lt HK.out.ps hil
   have hby:=HK.out.ps.get hil
   have HWP:=Lib.hid (wordP_pair HK.out.ps hil)
   obtain ⟨b,off,rfl,hlo,hbl,hcells⟩:=hsome (by omega)
   obtain ⟨q0,q1⟩:=pair_at hcells hil
   clear hcells
   obtain ⟨a4,c4,rfl⟩:=ownsRow_shape hown
   have ei:clr k.set+2+i - (clr k.set+1) - 1=i:=by omega
   go_wp2_with (first|(go_at_call 131;(with_reducible refine (cE _).mono ?_);rintro e w1 ⟨rfl,U1⟩;have B1:=bcell U1;have Z1:=U1.size;(try simp at Z1);(try rw [Nat.add_one_le_iff] at Z1))|fail)
   refine wp_region_up 11 (by kernel_rfl) (by kernel_rfl) ?_
   simp only [List.take,List.drop]
   repeat (refine wpUp_step (fun K hK=>?_);go_simp;(try simp only [↓IntWalk.iteOmega]);first
    |(refine hK _ _ ?_;clear hK K)
    |(apply stepU_c
      ·intro wq hwq;(have hbq:=bcell hwq;(repeat (first|refine fills_no (by rfl) ?_|refine fills_yes (by rfl) (fun vq hvq=>?_)));simp only [List.filter_nil,fills];unfold upAt;(try ((obtain ⟨-,r0,r1,r2,r3,r4,r5⟩:=KnAt.cells (box_up (U1.trans hwq) HKN.out);have e0:=((hup.trans (U1.trans hwq)).cell (p:=⟨b,off+i * 2,none⟩) hbl).trans q0;have e1:=((hup.trans (U1.trans hwq)).cell (p:=⟨b,off+i * 2+1,none⟩) hbl).trans q1)));go_simp;(try go_bits);(try simp only [↓IntWalk.iteOmega]);first|exact upOut_value|(apply upOut_call;(go_at_call 131;exact cE _)))
      go_simp;refine hK _ _ ?_;clear hK K)
    |(refine stepU_m (by kernel_rfl) (Boxed w1.heap.size #[.int .i64 0,.int .i64 0] 133) (boxed_closed _ _ _) (fun wq hwq=>?_) ?_
      ·(have hbq:=bcell hwq;(repeat (first|refine fills_no (by rfl) ?_|refine fills_yes (by rfl) (fun vq hvq=>?_)));simp only [List.filter_nil,fills];unfold upAt;(try ((obtain ⟨-,r0,r1,r2,r3,r4,r5⟩:=KnAt.cells (box_up (U1.trans hwq) HKN.out);have e0:=((hup.trans (U1.trans hwq)).cell (p:=⟨b,off+i * 2,none⟩) hbl).trans q0;have e1:=((hup.trans (U1.trans hwq)).cell (p:=⟨b,off+i * 2+1,none⟩) hbl).trans q1)));go_simp;(try go_bits);(try simp only [↓IntWalk.iteOmega]);exact upOut_make ((Up.refl _).alloc _) (boxed_new hwq.size))
      refine hK _ _ ?_;clear hK K))
   refine wpUp_nil (fun wq hwq=>?_)
   simp only [fills]
   rintro v2 ⟨pb,rfl,hpb,hbox⟩
   have d0:=box_cell hbox 0
   have d1:=box_cell hbox 1
   have f0:=box_free hbox 0
   have f1:=box_free hbox 1
   obtain ⟨-,by1,by2⟩:=hby
   rw [ec] at by2 p2
   generalize k.ps[i].byt=yb at *
   generalize k.ps[i].pre=yp at *
   have hpl:pb<wq.heap.size:=(Array.getElem?_eq_some_iff.1 hbox).1
   have hub:=ub_nat by1 (by omega:yb<256)
   have HL:Hid (cellsU (rev++ [ub yb])=cellsU rev++ [.int .u8 yb]):=by unfold Hid;rw [cellsU_snoc,hub]
   have HNX:Hid (k.word x0=k.word yp++(rev++ [ub yb]).reverse):=by
    unfold Hid
    rw [HW.out]
    have:=HWP.out
    rw [ec] at this
    unfold KnD.word
    rw [ec,this];simp
   clear hub
   have U2:Up w1 ((wq.setCell ⟨pb,0,none⟩ (.int .i64 yp)).setCell ⟨pb,1,none⟩ (.int .i64 yb)):=(hwq.set (p:=⟨pb,0,none⟩) hpb _).set (p:=⟨pb,1,none⟩) hpb _
   have hsz2:=U1.size
   have hbox2:=box_set (box_set hbox 0 (.int .i64 yp)) 1 (.int .i64 yb)
   have hD0:Hid (((wq.setCell ⟨pb,0,none⟩ (.int .i64 yp)).setCell ⟨pb,1,none⟩ (.int .i64 yb)).cell? ⟨pb,0,none⟩=some (.int .i64 yp)):=box_cell hbox2 0
   have hpS:=(Array.getElem?_eq_some_iff.1 hbox2).1
   clear hbox2
   go_wp2_with (at_builtin;refine wpList_append_own _ rfl _ _ 22 rfl (w.heap.size+1) 5 i0 (.int .u8 0) 1 1 Tryz.underlying22 hi hz0 hz1 hz2 rfl (by decide) _ _ _ rfl ((ownsRow_up (ownsRow_up hown U1) U2).alloc _) ⟨wq.heap.size,0,none⟩ 1 1 [.int .u8 yb] rfl rfl (new_cells [.int .u8 yb] _ (size_set2 _ _ _ _ _)) (by intro u hu;simp at hu;subst hu;rfl) (by unfold maxLen;omega) (by omega) (by simp;omega) ?_;rintro v2 w2 hown2 hgr2 -;have D0:=hgr2.cell (a:=⟨pb,0,none⟩) (v:= .int .i64 yp) ((((Up.refl _).alloc _).cell (p:=⟨pb,0,none⟩) hpS).trans hD0.out) (own_ne (ownsRow_up hown U1) hpb))
   go_roundw
   case rel =>
    have hne: ∀ x,Value.ownBlock (.slice a4 rev.length c4)=some x→w.heap.size+1≤x:=fun x hx=>(hown.lt x hx).1
    refine ⟨yp,rev++ [ub yb],rfl,p3,HNX.out,by simp;omega,?_,((hup.trans (U1.trans U2)).alloc _).grown hgr2 (fun x hx=>by have:=hne x hx;omega),gbox hgr2 (box_up ((U1.trans U2).alloc _) HKN.out) (fun e=>by have:=hne _ e.symm;omega)⟩
    rw [HL.out];simpa using hown2
   case measure=>simp [intOf];omega
end Go.Proofs.YtekogcjdaolcbaaGreatDoor
/- Walks of the reference's functions that look for words. Conditions: what is known is valid (KnD.Ok) and can be read. -/
namespace Go.Proofs.YtekogcjdaolcbaaGreatDoor
open Go.RowKit
theorem bs_twice (l:List UInt8):bs (l++l.take 1)=bs l++(bs l).extract 0 1:=by rw [bs_ext,List.drop_zero,bs_app]
set_option maxRecDepth 100000 in
set_option maxHeartbeats 1000000 in
theorem l2Any_any (k:KnD) (v:Value) (lo:Nat) (x:Int) (w:World) (h:k.Ok) (hr:RdP lo w v k.ps) (hf:k.follows x=true) :
  Calls Tryz.prog 148  #[kV k v,.int .i64 x] w (Same (.string (bs (k.any x))) w):=by
 have cN:=fun w hr=>l2Next_any k v lo w h hr
 have cW:=fun x w hr hx=>l2Word_any k v lo x w h hr hx
 have hnb:=KnD.next_bd h
 have hr':=hr
 obtain ⟨a,cap,rfl,-,-,-,-⟩:=hr
 by_cases hx:x=k.next
 ·have hl:codeOk k.c k.ps.length k.last=true:=by
   rcases KnD.follows_cases h hf with hc|⟨_,_,hl⟩
   ·rw [codeOk_iff,hx] at hc;unfold KnD.next at hc;omega
   ·exact hl
  have e:Hid (bs (k.any x)=bs (k.word k.last)++(bs (k.word k.last)).extract 0 1):=by
   unfold Hid;rw [← bs_twice];unfold KnD.any;rw [if_pos hx]
  have hp:1≤(k.word k.last).length:=wordP_pos h.ps hl
  have hp2:(k.word k.last).length≤k.ps.length+1:=wordP_len h.ps hl
  have hp3:=h.nums.2.2.2.1
  have hbl:=bs_size (k.word k.last)
  have HL:=Lib.hid hl
  have cW':=fun w hr=>cW k.last w hr HL.out
  rw [e.out]
  clear h hf hl cW e
  subst hx
  simp only [kV] at *
  generalize k.word k.last=wl at *
  go_enter Tryz.func148,Tryz.ntmps148
  go_wp2_with (first|(go_at_call 108;(with_reducible refine (cN _ (hr'.up (Up.alloc (Up.refl _) _))).mono ?_);rintro e w1 ⟨rfl,U1⟩;have B1:=bcell U1;have Z1:=U1.size;(try simp at Z1);(try rw [Nat.add_one_le_iff] at Z1))|(go_at_call 166;(with_reducible refine (cW' _ (hr'.up ((Up.alloc (Up.refl _) _).trans U1))).mono ?_);rintro e w2 ⟨rfl,U2⟩;have B2:=bcell U2;have Z2:=U2.size;(try simp at Z2);(try rw [Nat.add_one_le_iff] at Z2)))
  go_ret
  refine ⟨rfl,?_⟩
  (repeat (first|exact Up.refl _|refine Up.alloc ?_ _|refine Up.trans ?_ (by with_reducible assumption)))
 ·have e:Hid (k.any x=k.word x):=by unfold Hid KnD.any;rw [if_neg hx]
  have hl:Hid (codeOk k.c k.ps.length x=true):=by
   rcases KnD.follows_cases h hf with hc|⟨_,hx',_⟩
   ·exact hc
   ·exact absurd hx' hx
  rw [e.out]
  clear h hf
  simp only [kV] at *
  go_enter Tryz.func148,Tryz.ntmps148
  go_wp2_with (first|(go_at_call 108;(with_reducible refine (cN _ (hr'.up (Up.alloc (Up.refl _) _))).mono ?_);rintro e w1 ⟨rfl,U1⟩;have B1:=bcell U1;have Z1:=U1.size;(try simp at Z1);(try rw [Nat.add_one_le_iff] at Z1))|(go_at_call 166;(with_reducible refine (cW _ _ (hr'.up ((Up.alloc (Up.refl _) _).trans U1)) hl.out).mono ?_);rintro e w2 ⟨rfl,U2⟩;have B2:=bcell U2;have Z2:=U2.size;(try simp at Z2);(try rw [Nat.add_one_le_iff] at Z2)))
  go_ret
  refine ⟨rfl,?_⟩
  (repeat (first|exact Up.refl _|refine Up.alloc ?_ _|refine Up.trans ?_ (by with_reducible assumption)))
def KnD.cnt (k:KnD):Nat:=k.top - (k.c+1)
theorem KnD.cnt_eq (k:KnD):k.cnt=k.ps.length+if k.grow then 1 else 0:=by
 unfold KnD.cnt KnD.top KnD.next
 split <;> omega
theorem KnD.fol {k:KnD} {i:Nat} (h:i<k.cnt):k.follows ((k.c:Int)+2+i)=true:=by
 rw [KnD.cnt_eq] at h
 unfold KnD.follows
 rw [Bool.or_eq_true]
 by_cases hi:i<k.ps.length
 ·left;rw [codeOk_iff];omega
 ·right
  cases hg:k.grow
  ·rw [hg] at h;simp at h;omega
  ·rw [hg] at h
   simp only [if_true] at h
   simp only [Bool.true_and,decide_eq_true_eq]
   unfold KnD.next;omega
def KnD.find (k:KnD) (w:List UInt8):Int:=if w.length=1∧(w.getD 0 0).toNat<k.c then (w.getD 0 0).toNat else match (List.range k.cnt).find? (fun (i:Nat)=>k.any ((k.c:Int)+2+i) == w) with
 |some i=>(k.c:Int)+2+i
 |none=> -1
theorem KnD.find_lit {k:KnD} {w:List UInt8} (h:w.length=1∧(w.getD 0 0).toNat<k.c):k.find w=(w.getD 0 0).toNat:=by unfold KnD.find;rw [if_pos h]
theorem KnD.find_hit {k:KnD} {w:List UInt8} (h: ¬ (w.length=1∧(w.getD 0 0).toNat<k.c)) {i:Nat} (hi:i<k.cnt) (he:k.any ((k.c:Int)+2+i)=w) (hn: ∀ j,j<i→k.any ((k.c:Int)+2+j)≠w):k.find w=(k.c:Int)+2+i:=by
 unfold KnD.find
 rw [if_neg h]
 have:(List.range k.cnt).find? (fun (i:Nat)=>k.any ((k.c:Int)+2+i) == w)=some i:=by
  rw [List.find?_range_eq_some]
  exact ⟨by simpa using he,by simpa using hi,fun j hj=>by simpa using hn j hj⟩
 rw [this]
theorem KnD.find_none {k:KnD} {w:List UInt8} (h: ¬ (w.length=1∧(w.getD 0 0).toNat<k.c)) (hn: ∀ j,j<k.cnt→k.any ((k.c:Int)+2+j)≠w):k.find w= -1:=by
 unfold KnD.find
 rw [if_neg h]
 have:(List.range k.cnt).find? (fun (i:Nat)=>k.any ((k.c:Int)+2+i) == w)=none:=by
  rw [List.find?_range_eq_none]
  intro j hj;simpa using hn j hj
 rw [this]
def KnD.longN (k:KnD) (d:List UInt8):Nat→List UInt8
 |0=>d.take 1
 |i+1=>if (k.longN d i).length<(k.any ((k.c:Int)+2+i)).length∧(k.any ((k.c:Int)+2+i)).length≤d.length∧d.take (k.any ((k.c:Int)+2+i)).length=k.any ((k.c:Int)+2+i) then k.any ((k.c:Int)+2+i) else k.longN d i
def KnD.longest (k:KnD) (d:List UInt8):List UInt8:=k.longN d k.cnt
theorem KnD.longN_len {k:KnD} (d:List UInt8) (i:Nat):(k.longN d i).length≤d.length:=by
 induction i with
 |zero=>unfold KnD.longN;rw [List.length_take];omega
 |succ i ih =>
  unfold KnD.longN
  split
  ·next h=>exact h.2.1
  ·exact ih
def RelF (k:KnD) (v:Value) (s:List UInt8) (w:World) (x:Value) (wr:World):Prop:= ∃ i:Nat,i≤k.cnt∧x= .int .i64 ((k.c:Int)+2+i)∧Up w wr∧KnAt w.heap.size k v wr∧ ∀ j,j<i→k.any ((k.c:Int)+2+j)≠s
theorem str_ne {l:List UInt8} {s:ByteArray} (h:l≠s.data.toList):((bs l).toList == s.toList)=false:=ba_ne fun e=>h (by rw [← e,bs_data])
set_option maxRecDepth 100000 in
set_option maxHeartbeats 2000000 in
theorem l2Find_any (k:KnD) (v:Value) (lo:Nat) (s:ByteArray) (w:World) (h:k.Ok) (hr:RdP lo w v k.ps) (hs:s.size≤1073741824) :
  Calls Tryz.prog 102  #[kV k v,.string s] w (Same (.int .i64 (k.find s.data.toList)) w):=by
 have cC:=fun w=>l1Clear_any k.set w h.set
 have cE:=fun w=>l1End_any k.set w h.set
 have cG:=fun w hr=>l2Greatest_any k v lo w h hr
 have cA:=fun x w hr hx=>l2Any_any k v lo x w h hr hx
 have hcnt:k.top=k.cnt+clr k.set+1:=by have:=(KnD.top_bd h).1;unfold KnD.cnt;have:k.c=clr k.set:=rfl;omega
 have htop:=(KnD.top_bd h).2
 obtain ⟨hb1,hb2,hb3,hb4,hb5⟩:=h.nums
 have ec:k.c=clr k.set:=rfl
 have hr':=hr
 have hlen:=ba_len s
 obtain ⟨a,cap,rfl,-,-,-,-⟩:=hr
 by_cases h1:s.size=1
 ·have hu:=u8_bd s[0]
  have hg0:s.data.toList.getD 0 0=s[0]:=by
   rw [List.getD_eq_getElem?_getD,List.getElem?_eq_getElem (by omega)];rfl
  by_cases h2:(s[0].toNat:Int)<clr k.set
  ·have e:Hid (k.find s.data.toList=s[0].toNat):=by
    unfold Hid
    rw [KnD.find_lit (by rw [hg0,ec];omega),hg0]
   rw [e.out]
   clear hg0 h e
   simp only [kV] at *
   go_enter Tryz.func102,Tryz.ntmps102
   go_wp2
   refine wp_region_up 12 (by kernel_rfl) (by kernel_rfl) ?_
   simp only [List.take,List.drop]
   repeat (refine wpUp_step (fun K hK=>?_);go_simp;(try simp only [↓IntWalk.iteOmega]);first
    |(refine hK _ _ ?_;clear hK K)
    |(apply stepU_c
      ·intro wq hwq;(have hbq:=bcell hwq;(repeat (first|refine fills_no (by rfl) ?_|refine fills_yes (by rfl) (fun vq hvq=>?_)));simp only [List.filter_nil,fills];unfold upAt;go_simp;(try go_bits);(try simp only [↓IntWalk.iteOmega]);first|exact upOut_value|(apply upOut_call;(go_at_call 86;exact cC _)))
      go_simp;refine hK _ _ ?_;clear hK K))
   refine wpUp_nil (fun wq hwq=>?_)
   simp only [fills]
   go_wp2
   go_ret
   refine ⟨rfl,?_⟩
   (repeat (first|exact Up.refl _|refine Up.alloc ?_ _|refine Up.trans ?_ (by with_reducible assumption)))
  ·have HN:Hid (¬ (s.data.toList.length=1∧(s.data.toList.getD 0 0).toNat<k.c)):=by
    unfold Hid;rw [hg0,ec];omega
   clear hg0
   clear h
   simp only [kV] at *
   go_enter Tryz.func102,Tryz.ntmps102
   go_wp2
   refine wp_region_up 12 (by kernel_rfl) (by kernel_rfl) ?_
   simp only [List.take,List.drop]
   repeat (refine wpUp_step (fun K hK=>?_);go_simp;(try simp only [↓IntWalk.iteOmega]);first
    |(refine hK _ _ ?_;clear hK K)
    |(apply stepU_c
      ·intro wq hwq;(have hbq:=bcell hwq;(repeat (first|refine fills_no (by rfl) ?_|refine fills_yes (by rfl) (fun vq hvq=>?_)));simp only [List.filter_nil,fills];unfold upAt;go_simp;(try go_bits);(try simp only [↓IntWalk.iteOmega]);first|exact upOut_value|(apply upOut_call;(go_at_call 86;exact cC _)))
      go_simp;refine hK _ _ ?_;clear hK K))
   refine wpUp_nil (fun wq hwq=>?_)
   simp only [fills]
   have BQ:=bcell hwq
   go_wp2_with ((go_at_call 131;(with_reducible refine (cE _).mono ?_);rintro e w1 ⟨rfl,U1⟩;have B1:=bcell U1;have Z1:=U1.size;(try simp at Z1);(try rw [Nat.add_one_le_iff] at Z1)))
   go_loopw [5] (fun x wr=>RelF k (.slice a k.ps.length cap) s.data.toList w x wr) (fun x _=>k.top+1 - (intOf x).toNat)
   case atStart=>exact ⟨0,Nat.zero_le _,by rw [ec];go_num,by (repeat (first|exact Up.refl _|refine Up.alloc ?_ _|refine Up.trans ?_ (by with_reducible assumption))),box_up (hwq.trans U1) (MapKept.heap_alloc w _).1,fun j hj=>absurd hj (Nat.not_lt_zero _)⟩
   case round =>
    obtain ⟨i,hi,rfl,hup,hkn,hall⟩:=hrel
    obtain ⟨b0,b1,b2,b3,b4,b5,b6⟩:=hkn.cells
    have HKN:=Lib.hid hkn
    have HA:=Lib.hid hall
    clear hkn hall
    by_cases hlt:i<k.cnt
    ·have HF:=Lib.hid (KnD.fol hlt)
     by_cases he:k.any ((k.c:Int)+2+i)=s.data.toList
     ·have e:Hid (k.find s.data.toList=(k.c:Int)+2+i):=KnD.find_hit HN.out hlt he HA.out
      have cA':=fun w hr=>cA _ w hr HF.out
      rw [he,bs_self] at cA'
      rw [e.out]
      simp only [ec] at cA'
      rw [ec]
      clear he e
      go_wp2_with (first|(go_at_call 147;(with_reducible refine (cG _ (hr'.up hup)).mono ?_);rintro e w2 ⟨rfl,U2⟩;have B2:=bcell U2;have Z2:=U2.size;(try simp at Z2);(try rw [Nat.add_one_le_iff] at Z2))|(go_at_call 148;(with_reducible refine (cA' _ (hr'.up (hup.trans U2))).mono ?_);rintro e w3 ⟨rfl,U3⟩;have B3:=bcell U3;have Z3:=U3.size;(try simp at Z3);(try rw [Nat.add_one_le_iff] at Z3)))
      go_ret
      refine ⟨rfl,?_⟩
      (repeat (first|exact Up.refl _|refine Up.alloc ?_ _|refine Up.trans ?_ (by with_reducible assumption)))
     ·have HE:=str_ne he
      have HA2:Hid (∀ j,j<i+1→k.any ((k.c:Int)+2+j)≠s.data.toList):=fun j hj=>by
       rcases Nat.lt_or_ge j i with hl|hl
       ·exact HA.out j hl
       ·have:j=i:=by omega
        subst this;exact he
      have cA':=fun w hr=>cA _ w hr HF.out
      generalize k.any ((k.c:Int)+2+i)=wd at cA' HE
      simp only [ec] at cA'
      clear he
      go_wp2_with (first|(go_at_call 147;(with_reducible refine (cG _ (hr'.up hup)).mono ?_);rintro e w2 ⟨rfl,U2⟩;have B2:=bcell U2;have Z2:=U2.size;(try simp at Z2);(try rw [Nat.add_one_le_iff] at Z2))|(go_at_call 148;(with_reducible refine (cA' _ (hr'.up (hup.trans U2))).mono ?_);rintro e w3 ⟨rfl,U3⟩;have B3:=bcell U3;have Z3:=U3.size;(try simp at Z3);(try rw [Nat.add_one_le_iff] at Z3)))
      go_roundw
      case rel=>exact ⟨i+1,by omega,by go_num,by (repeat (first|exact Up.refl _|refine Up.alloc ?_ _|refine Up.trans ?_ (by with_reducible assumption))),box_up (U2.trans U3) HKN.out,HA2.out⟩
      case measure=>simp [intOf];omega
    ·have e:Hid (k.find s.data.toList= -1):=KnD.find_none HN.out fun j hj=>HA.out j (by omega)
     rw [e.out]
     go_wp2_with ((go_at_call 147;(with_reducible refine (cG _ (hr'.up hup)).mono ?_);rintro e w2 ⟨rfl,U2⟩;have B2:=bcell U2;have Z2:=U2.size;(try simp at Z2);(try rw [Nat.add_one_le_iff] at Z2)))
     go_ret
     refine ⟨by first|exact ret_int (by rw [e.out])|exact ret_int rfl|exact ret_int (by decide)|exact ret_int (by simp)|(simp;done),?_⟩
     (repeat (first|exact Up.refl _|refine Up.alloc ?_ _|refine Up.trans ?_ (by with_reducible assumption)))
 ·have HN:Hid (¬ (s.data.toList.length=1∧(s.data.toList.getD 0 0).toNat<k.c)):=by
   unfold Hid;omega
  clear h
  simp only [kV] at *
  have h1':((s.size:Int) == 1)=false:=by simp;omega
  go_enter Tryz.func102,Tryz.ntmps102
  go_wp2
  refine wp_region_up 12 (by kernel_rfl) (by kernel_rfl) ?_
  simp only [List.take,List.drop]
  repeat (refine wpUp_step (fun K hK=>?_);go_simp;(try simp only [↓IntWalk.iteOmega]);first
   |(refine hK _ _ ?_;clear hK K)
   |(apply stepU_c
     ·intro wq hwq;(have hbq:=bcell hwq;(repeat (first|refine fills_no (by rfl) ?_|refine fills_yes (by rfl) (fun vq hvq=>?_)));simp only [List.filter_nil,fills];unfold upAt;go_simp;(try go_bits);(try simp only [↓IntWalk.iteOmega]);first|exact upOut_value)
     go_simp;refine hK _ _ ?_;clear hK K))
  refine wpUp_nil (fun wq hwq=>?_)
  simp only [fills]
  have BQ:=bcell hwq
  go_wp2_with ((go_at_call 131;(with_reducible refine (cE _).mono ?_);rintro e w1 ⟨rfl,U1⟩;have B1:=bcell U1;have Z1:=U1.size;(try simp at Z1);(try rw [Nat.add_one_le_iff] at Z1)))
  go_loopw [5] (fun x wr=>RelF k (.slice a k.ps.length cap) s.data.toList w x wr) (fun x _=>k.top+1 - (intOf x).toNat)
  case atStart=>exact ⟨0,Nat.zero_le _,by rw [ec];go_num,by (repeat (first|exact Up.refl _|refine Up.alloc ?_ _|refine Up.trans ?_ (by with_reducible assumption))),box_up (hwq.trans U1) (MapKept.heap_alloc w _).1,fun j hj=>absurd hj (Nat.not_lt_zero _)⟩
  case round =>
   obtain ⟨i,hi,rfl,hup,hkn,hall⟩:=hrel
   obtain ⟨b0,b1,b2,b3,b4,b5,b6⟩:=hkn.cells
   have HKN:=Lib.hid hkn
   have HA:=Lib.hid hall
   clear hkn hall
   by_cases hlt:i<k.cnt
   ·have HF:=Lib.hid (KnD.fol hlt)
    by_cases he:k.any ((k.c:Int)+2+i)=s.data.toList
    ·have e:Hid (k.find s.data.toList=(k.c:Int)+2+i):=KnD.find_hit HN.out hlt he HA.out
     have cA':=fun w hr=>cA _ w hr HF.out
     rw [he,bs_self] at cA'
     rw [e.out]
     simp only [ec] at cA'
     rw [ec]
     clear he e
     go_wp2_with (first|(go_at_call 147;(with_reducible refine (cG _ (hr'.up hup)).mono ?_);rintro e w2 ⟨rfl,U2⟩;have B2:=bcell U2;have Z2:=U2.size;(try simp at Z2);(try rw [Nat.add_one_le_iff] at Z2))|(go_at_call 148;(with_reducible refine (cA' _ (hr'.up (hup.trans U2))).mono ?_);rintro e w3 ⟨rfl,U3⟩;have B3:=bcell U3;have Z3:=U3.size;(try simp at Z3);(try rw [Nat.add_one_le_iff] at Z3)))
     go_ret
     refine ⟨rfl,?_⟩
     (repeat (first|exact Up.refl _|refine Up.alloc ?_ _|refine Up.trans ?_ (by with_reducible assumption)))
    ·have HE:=str_ne he
     have HA2:Hid (∀ j,j<i+1→k.any ((k.c:Int)+2+j)≠s.data.toList):=fun j hj=>by
      rcases Nat.lt_or_ge j i with hl|hl
      ·exact HA.out j hl
      ·have:j=i:=by omega
       subst this;exact he
     have cA':=fun w hr=>cA _ w hr HF.out
     generalize k.any ((k.c:Int)+2+i)=wd at cA' HE
     simp only [ec] at cA'
     clear he
     go_wp2_with (first|(go_at_call 147;(with_reducible refine (cG _ (hr'.up hup)).mono ?_);rintro e w2 ⟨rfl,U2⟩;have B2:=bcell U2;have Z2:=U2.size;(try simp at Z2);(try rw [Nat.add_one_le_iff] at Z2))|(go_at_call 148;(with_reducible refine (cA' _ (hr'.up (hup.trans U2))).mono ?_);rintro e w3 ⟨rfl,U3⟩;have B3:=bcell U3;have Z3:=U3.size;(try simp at Z3);(try rw [Nat.add_one_le_iff] at Z3)))
     go_roundw
     case rel=>exact ⟨i+1,by omega,by go_num,by (repeat (first|exact Up.refl _|refine Up.alloc ?_ _|refine Up.trans ?_ (by with_reducible assumption))),box_up (U2.trans U3) HKN.out,HA2.out⟩
     case measure=>simp [intOf];omega
   ·have e:Hid (k.find s.data.toList= -1):=KnD.find_none HN.out fun j hj=>HA.out j (by omega)
    rw [e.out]
    go_wp2_with ((go_at_call 147;(with_reducible refine (cG _ (hr'.up hup)).mono ?_);rintro e w2 ⟨rfl,U2⟩;have B2:=bcell U2;have Z2:=U2.size;(try simp at Z2);(try rw [Nat.add_one_le_iff] at Z2)))
    go_ret
    refine ⟨by first|exact ret_int (by rw [e.out])|exact ret_int rfl|exact ret_int (by decide)|exact ret_int (by simp)|(simp;done),?_⟩
    (repeat (first|exact Up.refl _|refine Up.alloc ?_ _|refine Up.trans ?_ (by with_reducible assumption)))
def RelG (k:KnD) (v:Value) (d:List UInt8) (w:World) (b x:Value) (wr:World):Prop:= ∃ i:Nat,i≤k.cnt∧x= .int .i64 ((k.c:Int)+2+i)∧b= .string (bs (k.longN d i))∧Up w wr∧KnAt w.heap.size k v wr
theorem KnD.longN_hit {k:KnD} {d w:List UInt8} {i:Nat} (h1:k.any ((k.c:Int)+2+i)=w) (h2:(k.longN d i).length<w.length) (h3:w.length≤d.length) (h4:d.take w.length=w):k.longN d (i+1)=w:=by
 conv=>lhs;unfold KnD.longN
 rw [h1,if_pos ⟨h2,h3,h4⟩]
theorem KnD.longN_miss {k:KnD} {d w:List UInt8} {i:Nat} (h1:k.any ((k.c:Int)+2+i)=w) (h: ¬ ((k.longN d i).length<w.length∧w.length≤d.length∧d.take w.length=w)):k.longN d (i+1)=k.longN d i:=by
 conv=>lhs;unfold KnD.longN
 rw [h1,if_neg h]
theorem ext_take (s:ByteArray) (n:Nat):s.extract 0 n=bs (s.data.toList.take n):=ba_ext (by rw [Lib.extract_data,bs_data,List.drop_zero,Nat.sub_zero])
set_option maxRecDepth 100000 in
set_option maxHeartbeats 2000000 in
theorem l2Longest_any (k:KnD) (v:Value) (lo:Nat) (s:ByteArray) (w:World) (h:k.Ok) (hr:RdP lo w v k.ps) (hs0:0<s.size) (hs:s.size≤1073741824) :
  Calls Tryz.prog 106  #[kV k v,.string s] w (Same (.string (bs (k.longest s.data.toList))) w):=by
 have cE:=fun w=>l1End_any k.set w h.set
 have cG:=fun w hr=>l2Greatest_any k v lo w h hr
 have cA:=fun x w hr hx=>l2Any_any k v lo x w h hr hx
 have hal:=fun x hx=>KnD.any_len (x:=x) h hx
 have hcnt:k.top=k.cnt+clr k.set+1:=by have:=(KnD.top_bd h).1;unfold KnD.cnt;have:k.c=clr k.set:=rfl;omega
 have htop:=(KnD.top_bd h).2
 obtain ⟨hb1,hb2,hb3,hb4,hb5⟩:=h.nums
 have ec:k.c=clr k.set:=rfl
 have hr':=hr
 have hlen:=ba_len s
 obtain ⟨a,cap,rfl,-,-,-,-⟩:=hr
 clear h
 simp only [kV] at *
 have HAL:=Lib.hid hal
 clear hal
 go_enter Tryz.func106,Tryz.ntmps106
 go_wp2_with ((go_at_call 131;(with_reducible refine (cE _).mono ?_);rintro e w1 ⟨rfl,U1⟩;have B1:=bcell U1;have Z1:=U1.size;(try simp at Z1);(try rw [Nat.add_one_le_iff] at Z1)))
 go_loopw [5,6] (fun b x wr=>RelG k (.slice a k.ps.length cap) s.data.toList w b x wr) (fun _ x _=>k.top+1 - (intOf x).toNat)
 case atStart=>exact ⟨0,Nat.zero_le _,by rw [ec];go_num,by rw [ext_take];rfl,by (repeat (first|exact Up.refl _|refine Up.alloc ?_ _|refine Up.trans ?_ (by with_reducible assumption))),box_up U1 (MapKept.heap_alloc w _).1⟩
 case round =>
  obtain ⟨i,hi,rfl,rfl,hup,hkn⟩:=hrel
  obtain ⟨b0,b1,b2,b3,b4,b5,b6⟩:=hkn.cells
  have HKN:=Lib.hid hkn
  clear hkn
  by_cases hlt:i<k.cnt
  ·have HF:=Lib.hid (KnD.fol hlt)
   have hwl:=HAL.out _ HF.out
   have cA':=fun w hr=>cA _ w hr HF.out
   have hbl:=KnD.longN_len (k:=k) s.data.toList i
   have HMISS:=fun h=>Lib.hid (KnD.longN_miss (k:=k) (d:=s.data.toList) (i:=i) rfl h)
   have HHIT:=fun h2 h3 h4=>Lib.hid (KnD.longN_hit (k:=k) (d:=s.data.toList) (i:=i) rfl h2 h3 h4)
   generalize k.any ((k.c:Int)+2+i)=wd at cA' HMISS HHIT hwl
   generalize hbest:k.longN s.data.toList i=best at *
   simp only [ec] at cA'
   have z1:=bs_size wd
   have z2:=bs_size best
   rw [hlen] at hbl HMISS HHIT
   by_cases e1:best.length<wd.length
   ·by_cases e2:wd.length≤s.size
    ·by_cases e3:s.data.toList.take wd.length=wd
     ·have HS:=HHIT e1 e2 e3
      have HE:Hid (s.extract 0 wd.length=bs wd):=by unfold Hid;rw [ext_take,e3]
      have HE':=HE.out
      clear e3 HHIT HMISS hbest
      go_wp2_with (first|(go_at_call 147;(with_reducible refine (cG _ (hr'.up hup)).mono ?_);rintro e w2 ⟨rfl,U2⟩;have B2:=bcell U2;have Z2:=U2.size;(try simp at Z2);(try rw [Nat.add_one_le_iff] at Z2))|(go_at_call 148;(with_reducible refine (cA' _ (hr'.up (hup.trans U2))).mono ?_);rintro e w3 ⟨rfl,U3⟩;have B3:=bcell U3;have Z3:=U3.size;(try simp at Z3);(try rw [Nat.add_one_le_iff] at Z3)))
      go_roundw
      case rel=>exact ⟨i+1,by omega,by go_num,by rw [HS.out],by (repeat (first|exact Up.refl _|refine Up.alloc ?_ _|refine Up.trans ?_ (by with_reducible assumption))),box_up (U2.trans U3) HKN.out⟩
      case measure=>simp [intOf];omega
     ·have HS:=HMISS (fun h=>e3 h.2.2)
      have HE:((s.extract 0 wd.length).toList == (bs wd).toList)=false:=ba_ne fun e=>e3 (by rw [ext_take] at e;exact bs_inj e)
      clear e3 HHIT HMISS
      go_wp2_with (first|(go_at_call 147;(with_reducible refine (cG _ (hr'.up hup)).mono ?_);rintro e w2 ⟨rfl,U2⟩;have B2:=bcell U2;have Z2:=U2.size;(try simp at Z2);(try rw [Nat.add_one_le_iff] at Z2))|(go_at_call 148;(with_reducible refine (cA' _ (hr'.up (hup.trans U2))).mono ?_);rintro e w3 ⟨rfl,U3⟩;have B3:=bcell U3;have Z3:=U3.size;(try simp at Z3);(try rw [Nat.add_one_le_iff] at Z3)))
      go_roundw
      case rel=>exact ⟨i+1,by omega,by go_num,by rw [HS.out],by (repeat (first|exact Up.refl _|refine Up.alloc ?_ _|refine Up.trans ?_ (by with_reducible assumption))),box_up (U2.trans U3) HKN.out⟩
      case measure=>simp [intOf];omega
    ·have HS:=HMISS (fun h=>e2 h.2.1)
     clear HHIT HMISS
     go_wp2_with (first|(go_at_call 147;(with_reducible refine (cG _ (hr'.up hup)).mono ?_);rintro e w2 ⟨rfl,U2⟩;have B2:=bcell U2;have Z2:=U2.size;(try simp at Z2);(try rw [Nat.add_one_le_iff] at Z2))|(go_at_call 148;(with_reducible refine (cA' _ (hr'.up (hup.trans U2))).mono ?_);rintro e w3 ⟨rfl,U3⟩;have B3:=bcell U3;have Z3:=U3.size;(try simp at Z3);(try rw [Nat.add_one_le_iff] at Z3)))
     go_roundw
     case rel=>exact ⟨i+1,by omega,by go_num,by rw [HS.out],by (repeat (first|exact Up.refl _|refine Up.alloc ?_ _|refine Up.trans ?_ (by with_reducible assumption))),box_up (U2.trans U3) HKN.out⟩
     case measure=>simp [intOf];omega
   ·have HS:=HMISS (fun h=>e1 h.1)
    clear HHIT HMISS
    go_wp2_with (first|(go_at_call 147;(with_reducible refine (cG _ (hr'.up hup)).mono ?_);rintro e w2 ⟨rfl,U2⟩;have B2:=bcell U2;have Z2:=U2.size;(try simp at Z2);(try rw [Nat.add_one_le_iff] at Z2))|(go_at_call 148;(with_reducible refine (cA' _ (hr'.up (hup.trans U2))).mono ?_);rintro e w3 ⟨rfl,U3⟩;have B3:=bcell U3;have Z3:=U3.size;(try simp at Z3);(try rw [Nat.add_one_le_iff] at Z3)))
    go_roundw
    case rel=>exact ⟨i+1,by omega,by go_num,by rw [HS.out],by (repeat (first|exact Up.refl _|refine Up.alloc ?_ _|refine Up.trans ?_ (by with_reducible assumption))),box_up (U2.trans U3) HKN.out⟩
    case measure=>simp [intOf];omega
  ·have e:i=k.cnt:=by omega
   have HE:Hid (k.longest s.data.toList=k.longN s.data.toList i):=by unfold Hid KnD.longest;rw [e]
   rw [HE.out]
   go_wp2_with ((go_at_call 147;(with_reducible refine (cG _ (hr'.up hup)).mono ?_);rintro e w2 ⟨rfl,U2⟩;have B2:=bcell U2;have Z2:=U2.size;(try simp at Z2);(try rw [Nat.add_one_le_iff] at Z2)))
   go_ret
   refine ⟨rfl,?_⟩
   (repeat (first|exact Up.refl _|refine Up.alloc ?_ _|refine Up.trans ?_ (by with_reducible assumption)))
end Go.Proofs.YtekogcjdaolcbaaGreatDoor
/- Walk of the reference's l2After. Conditions: what is known is valid (KnD.Ok) and can be read; the code can follow. -/
namespace Go.Proofs.YtekogcjdaolcbaaGreatDoor
open Go Go.RowKit
theorem box_ne {w:World} {b:Nat} {cs:Array Value} {T:TypeId} (hb:w.heap[b]? =some (.cells cs T)) {base:Nat} {e:TypeId} {size n:Nat} {v:Value} {xs:List Value} (h:w.ownsRow base e size v n xs) (hne:T≠e):some b≠v.ownBlock:=by
 intro e1
 rcases h.2 with ⟨rfl,_⟩|⟨g,cap,cur,rfl,_,hg,_⟩
 ·cases e1
 ·simp only [Value.ownBlock,Option.some.injEq] at e1
  subst e1
  rw [hb] at hg
  cases hg
  exact hne rfl
theorem KnAt.up {b:Nat} {k:KnD} {v:Value} {w w':World} (h:KnAt b k v w) (hu:Up w w'):KnAt b k v w':=box_up hu h
theorem KnAt.gr {b:Nat} {k:KnD} {v:Value} {w w':World} {row:Option Nat} (h:KnAt b k v w) (hg:w.grownBy w' row) (hne:some b≠row):KnAt b k v w':=gbox hg h hne
def KnW (w:World) (b:Nat) (k:KnD) (v:Value):World:=(((((w.setCell ⟨b,0,none⟩ (.int .i64 k.set.ord)).setCell ⟨b,1,none⟩ (.int .i64 k.set.lit)).setCell ⟨b,2,none⟩ (.int .i64 k.set.most)).setCell ⟨b,3,none⟩ v).setCell ⟨b,4,none⟩ (.int .i64 k.base)).setCell ⟨b,5,none⟩ (.int .i64 k.last)
theorem KnAt.store {w:World} {b:Nat} {k0:KnD} {v0:Value} (h:KnAt b k0 v0 w) (k:KnD) (v:Value):KnAt b k v (KnW w b k v) :=
 box_set (box_set (box_set (box_set (box_set (box_set h 0 (.int .i64 k.set.ord)) 1 (.int .i64 k.set.lit)) 2 (.int .i64 k.set.most)) 3 v) 4 (.int .i64 k.base)) 5 (.int .i64 k.last)
theorem KnW.up {a w:World} (h:Up a w) {b:Nat} (hb:a.heap.size≤b) (k:KnD) (v:Value):Up a (KnW w b k v):=by
 unfold KnW
 exact (((((h.set (p:=⟨b,0,none⟩) hb _).set (p:=⟨b,1,none⟩) hb _).set (p:=⟨b,2,none⟩) hb _).set (p:=⟨b,3,none⟩) hb _).set (p:=⟨b,4,none⟩) hb _).set (p:=⟨b,5,none⟩) hb _
theorem KnW.own {w:World} {base:Nat} {e:TypeId} {size n:Nat} {v:Value} {xs:List Value} (h:w.ownsRow base e size v n xs) {b:Nat} (hb:some b≠v.ownBlock) (k:KnD) (u:Value):(KnW w b k u).ownsRow base e size v n xs:=by
 unfold KnW
 have hs: ∀ (w:World) (i:Nat) (x:Value),w.ownsRow base e size v n xs→(w.setCell ⟨b,i,none⟩ x).ownsRow base e size v n xs:=fun w i x h=>h.kept (grownBy_set (grownBy_refl w (some b)) i x) (by
  cases hv:v.ownBlock with
  |none=>exact .inl rfl
  |some g=>exact .inr fun e=>hb (by rw [hv,e]))
 exact hs _ _ _ (hs _ _ _ (hs _ _ _ (hs _ _ _ (hs _ _ _ (hs _ _ _ h)))))
theorem KnW.other {w:World} {b b':Nat} (hb:b'≠b) (k:KnD) (v:Value):(KnW w b k v).heap[b']? =w.heap[b']? :=by
 unfold KnW
 have hs: ∀ (w:World) (i:Nat) (x:Value),(w.setCell ⟨b,i,none⟩ x).heap[b']? =w.heap[b']? :=fun w i x=>Below.heap_setCell _ _ _ _ hb
 rw [hs,hs,hs,hs,hs,hs]
theorem ownsRow_setb {w:World} {base:Nat} {e:TypeId} {size n:Nat} {v:Value} {xs:List Value} (h:w.ownsRow base e size v n xs) {b:Nat} (hb:some b≠v.ownBlock) (i:Nat) (u:Value):(w.setCell ⟨b,i,none⟩ u).ownsRow base e size v n xs :=
 h.kept (grownBy_set (grownBy_refl w (some b)) i u) (by
  cases hv:v.ownBlock with
  |none=>exact .inl rfl
  |some g=>exact .inr fun e=>hb (by rw [hv,e]))
def NewP (row:Option Nat) (p:PairD) (v:Value) (w:World):Prop:= ∃ b,v= .slice (some ⟨b,0,none⟩) 1 1∧some b≠row∧w.heap[b]? =some (.cells #[.int .i64 p.pre,.int .i64 p.byt] 133)
theorem newP_closed {row:Option Nat} {p:PairD} : ∀ (v:Value) (w w':World),NewP row p v w→w.grownBy w' row→NewP row p v w':=fun v w w' ⟨b,h1,h2,h3⟩ hg=>⟨b,h1,h2,gbox hg h3 h2⟩
theorem newP_cells {w:World} {b:Nat} {p:PairD} (h:w.heap[b]? =some (.cells #[.int .i64 p.pre,.int .i64 p.byt] 133)): ∀ j u,(prC p)[j]? =some u→w.cell? ((⟨b,0,none⟩:Addr).add j)=some u:=by
 intro j u hu
 have hadd:(⟨b,0,none⟩:Addr).add j=⟨b,j,none⟩:=by unfold Addr.add;split <;> simp_all
 rw [hadd,box_cell h]
 simpa [prC] using hu
theorem bs_get0 (l:List UInt8) (h:0<(bs l).size):((bs l)[0]'h)=l.getD 0 0:=by
 have h':0<l.length:=by rw [bs_size] at h;exact h
 rw [List.getD_eq_getElem?_getD,List.getElem?_eq_getElem h']
 rfl
set_option maxRecDepth 100000 in
set_option maxHeartbeats 4000000 in
theorem l2After_any (k:KnD) (v:Value) (lo:Nat) (x:Int) (w:World) (h:k.Ok) (hr:RdP lo w v k.ps) (hf:k.follows x=true) :
  Calls Tryz.prog 127  #[kV k v,.int .i64 x] w (KnPost (k.after x) w):=by
 obtain ⟨hb1,hb2,hb3,hb4,hb5⟩:=h.nums
 have cG:=fun w hr=>l2Grows_any k v lo w h hr
 have cA:=fun w hr=>l2Any_any k v lo x w h hr hf
 have hr':=hr
 have hrt:=fun (wq:World) (hu:Up w wq)=>hr'.up hu
 obtain ⟨a,cap,rfl,hc1,hc2,hc3,-⟩:=hr
 unfold maxLen at hc2
 cases hg:k.grow
 ·have e:Hid (k.after x=⟨k.set,k.ps,k.base,x⟩):=by unfold Hid KnD.after;rw [hg];simp
  rw [e.out]
  rw [hg] at cG
  clear h e hg cA hf
  simp only [kV] at *
  go_enter Tryz.func127,Tryz.ntmps127
  go_wp2
  refine wp_region_up 11 (by kernel_rfl) (by kernel_rfl) ?_
  simp only [List.take,List.drop]
  repeat (refine wpUp_step (fun K hK=>?_);go_simp;(try simp only [↓IntWalk.iteOmega]);first
   |(refine hK _ _ ?_;clear hK K)
   |(refine stepU_m (by kernel_rfl) ((fun v w'=>ownPr w' (w.heap.size+2) v k.ps)) (ownPr_closed _ _) (fun wq hwq=>?_) ?_
     ·(have hbq:=bcell hwq;(repeat (first|refine fills_no (by rfl) ?_|refine fills_yes (by rfl) (fun vq hvq=>?_)));simp only [List.filter_nil,fills];(obtain ⟨gq,eq1,hq1⟩:=hvq;exact upAt_copy (vs:=vq) (.tmp 8) (.tmp 10) (by rfl) (w.heap.size+2) lo (by rfl) (by rfl) eq1 hq1 k.ps (hrt _ (by (repeat (first|exact Up.refl _|refine Up.alloc ?_ _|refine Up.set ?_ (by first|exact Nat.le_refl _|(simp;done)|(simp;omega)) _|refine Up.trans ?_ (by with_reducible assumption))))) (by omega) (by have:=hwq.size;simp at this;omega)))
     refine hK _ _ ?_;clear hK K)
   |(apply stepU_c
     ·intro wq hwq;(have hbq:=bcell hwq;(repeat (first|refine fills_no (by rfl) ?_|refine fills_yes (by rfl) (fun vq hvq=>?_)));simp only [List.filter_nil,fills];unfold upAt;(try (obtain ⟨aq,cq,rfl⟩:=ownsRow_shape hvq));go_simp;(try go_bits);(try simp only [↓IntWalk.iteOmega]);first|exact upOut_value)
     go_simp;refine hK _ _ ?_;clear hK K)
   |(refine stepU_m (by kernel_rfl) (MtP (w.heap.size+2)) (mtP_closed _) (fun wq hwq=>?_) ?_
     ·(have hbq:=bcell hwq;(repeat (first|refine fills_no (by rfl) ?_|refine fills_yes (by rfl) (fun vq hvq=>?_)));simp only [List.filter_nil,fills];unfold upAt;(try (obtain ⟨aq,cq,rfl⟩:=ownsRow_shape hvq));go_simp;(try go_bits);(try simp only [↓IntWalk.iteOmega]);exact upOut_make ((Up.refl _).alloc _) (mtP_new (by have:=hwq.size;simp at this;omega)))
     refine hK _ _ ?_;clear hK K)
   |(refine stepU_m (by kernel_rfl) (KnO (w.heap.size+2) ⟨k.set,k.ps,k.base,x⟩) (knO_closed _ _) (fun wq hwq=>?_) ?_
     ·(have hbq:=bcell hwq;(repeat (first|refine fills_no (by rfl) ?_|refine fills_yes (by rfl) (fun vq hvq=>?_)));simp only [List.filter_nil,fills];unfold upAt;(try (obtain ⟨aq,cq,rfl⟩:=ownsRow_shape hvq));go_simp;(try go_bits);(try simp only [↓IntWalk.iteOmega]);exact upOut_make (Up.refl _) ⟨_,rfl,by assumption⟩)
     refine hK _ _ ?_;clear hK K)
   |(refine stepU_m (by kernel_rfl) (Boxed (w.heap.size+2) #[.int .i64 0,.int .i64 0,.int .i64 0,.slice none 0 0,.int .i64 0,.int .i64 0] 27) (boxed_closed _ _ _) (fun wq hwq=>?_) ?_
     ·(have hbq:=bcell hwq;(repeat (first|refine fills_no (by rfl) ?_|refine fills_yes (by rfl) (fun vq hvq=>?_)));simp only [List.filter_nil,fills];unfold upAt;(try (obtain ⟨aq,cq,rfl⟩:=ownsRow_shape hvq));go_simp;(try go_bits);(try simp only [↓IntWalk.iteOmega]);exact upOut_make ((Up.refl _).alloc _) (boxed_new (by have:=hwq.size;simp at this;omega)))
     refine hK _ _ ?_;clear hK K))
  refine wpUp_nil (fun wq hwq=>?_)
  simp only [fills]
  rintro v10 ⟨pb,rfl,hpb,hbox⟩ u ⟨v',rfl,hv'⟩ v1 - v2 -
  obtain ⟨a',c',rfl⟩:=ownsRow_shape hv'
  have hsz:=hwq.size
  simp at hsz
  have hpl:pb<wq.heap.size:=(Array.getElem?_eq_some_iff.1 hbox).1
  have hK0:KnAt w.heap.size k (.slice a k.ps.length cap) wq:=box_up hwq (box_up ((Up.refl _).alloc _) (MapKept.heap_alloc w _).1)
  have hR0:KnAt (w.heap.size+1) ⟨⟨0,0,0⟩,[],0,0⟩ (.slice none 0 0) wq:=box_up hwq (by rw [← size_alloc w _];exact (MapKept.heap_alloc _ _).1)
  have hK1:=KnAt.store (k0:=⟨⟨0,0,0⟩,[],0,0⟩) (v0:= .slice none 0 0) hbox ⟨k.set,k.ps,k.base,x⟩ (.slice a' k.ps.length c')
  have hO1:=KnW.own hv' (box_ne hbox hv' (by decide)) ⟨k.set,k.ps,k.base,x⟩ (.slice a' k.ps.length c')
  have hU1:Up w (KnW wq pb ⟨k.set,k.ps,k.base,x⟩ (.slice a' k.ps.length c')):=KnW.up (by (repeat (first|with_reducible exact Up.refl _|with_reducible assumption|with_reducible refine Up.set ?_ (by first|exact Nat.le_refl _|(simp only [];omega)|(simp;omega)) _|with_reducible refine Up.alloc ?_ _|refine Up.trans ?_ (by with_reducible assumption)))) (by omega) _ _
  have hK0':KnAt w.heap.size k (.slice a k.ps.length cap) (KnW wq pb ⟨k.set,k.ps,k.base,x⟩ (.slice a' k.ps.length c')):=(KnW.other (by omega) _ _).trans hK0
  have hR0':KnAt (w.heap.size+1) ⟨⟨0,0,0⟩,[],0,0⟩ (.slice none 0 0) (KnW wq pb ⟨k.set,k.ps,k.base,x⟩ (.slice a' k.ps.length c')):=(KnW.other (by omega) _ _).trans hR0
  have HH:=Lib.hid (And.intro hK1 (And.intro hO1 (And.intro hU1 (And.intro hK0' hR0'))))
  clear hK1 hO1 hU1 hK0' hR0' hK0 hR0
  obtain ⟨-,q0,q1,q2,q3,q4,q5⟩:=KnAt.cells (k:=⟨⟨0,0,0⟩,[],0,0⟩) (v:= .slice none 0 0) hbox
  have hfr:=box_free hbox
  have BQ:=bcell hwq
  clear hv' hbox
  go_wp2_with fail
  rw [show (World.setCell (World.setCell (World.setCell (World.setCell (World.setCell (World.setCell wq ⟨pb,0,none⟩ (.int .i64 k.set.ord)) ⟨pb,1,none⟩ (.int .i64 k.set.lit)) ⟨pb,2,none⟩ (.int .i64 k.set.most)) ⟨pb,3,none⟩ (.slice a' k.ps.length c')) ⟨pb,4,none⟩ (.int .i64 k.base)) ⟨pb,5,none⟩ (.int .i64 x))=KnW wq pb ⟨k.set,k.ps,k.base,x⟩ (.slice a' k.ps.length c') from rfl]
  clear q0 q1 q2 q3 q4 q5 hfr BQ
  generalize KnW wq pb ⟨k.set,k.ps,k.base,x⟩ (.slice a' k.ps.length c')=W1 at HH ⊢
  obtain ⟨hK1,hO1,hU1,hK0,hR0⟩:=HH.out
  clear HH hwq hsz hpl
  refine (cG _ (hrt _ hU1)).mono ?_
  rintro e w2 ⟨rfl,U2⟩
  obtain ⟨-,r0,r1,r2,r3,r4,r5⟩:=KnAt.cells (box_up U2 hK1)
  obtain ⟨hRl,q0,q1,q2,q3,q4,q5⟩:=KnAt.cells (k:=⟨⟨0,0,0⟩,[],0,0⟩) (v:= .slice none 0 0) (box_up U2 hR0)
  have hfr:=box_free (box_up U2 hR0)
  have HO:=Lib.hid (ownsRow_up hO1 U2)
  have HU:=Lib.hid (hU1.trans U2)
  clear hK1 hO1 hU1 hK0 hR0 U2
  go_wp2
  refine bodyPost_ret (v:=kV ⟨k.set,k.ps,k.base,x⟩ (.slice a' k.ps.length c')) (by simp [results,Tryz.results127,go_sem,q0,q1,q2,q3,q4,q5]) rfl ⟨_,rfl,?_,?_⟩
  ·refine ownsRow_base (base:=w.heap.size+2) ?_ (by omega)
   repeat (with_reducible refine ownsRow_setne ?_ (by omega) _ _)
   exact HO.out
  ·have hUU:=HU.out
   (repeat (first|with_reducible exact Up.refl _|with_reducible assumption|with_reducible refine Up.set ?_ (by first|exact Nat.le_refl _|(simp only [];omega)|(simp;omega)) _|with_reducible refine Up.alloc ?_ _|refine Up.trans ?_ (by with_reducible assumption)))
 ·have e:Hid (k.after x=⟨k.set,k.ps++ [⟨k.last,k.first x⟩],k.base,x⟩):=by unfold Hid KnD.after;rw [hg];rfl
  rw [e.out]
  rw [hg] at cG
  obtain ⟨i0,hi,hz0,hz1,hz2⟩:=info_parts infoPair
  have hap:=KnD.any_pos h hf
  have hal:=KnD.any_len h hf
  have hbl:=bs_size (k.any x)
  have HFX:Hid (∀ h,(((bs (k.any x))[0]'h).toNat:Int)=k.first x):=fun h=>by rw [bs_get0];rfl
  have hfb:=KnD.first_bd h hf
  have hfb3:k.first x<256:=by have:=h.c_bd.2.1;omega
  have hfb1:=hfb.1
  clear hfb
  generalize hwd:k.any x=wd at *
  generalize k.first x=fx at *
  clear h e hg hf hwd
  simp only [kV] at *
  go_enter Tryz.func127,Tryz.ntmps127
  go_wp2
  refine wp_region_up 11 (by kernel_rfl) (by kernel_rfl) ?_
  simp only [List.take,List.drop]
  repeat (refine wpUp_step (fun K hK=>?_);go_simp;(try simp only [↓IntWalk.iteOmega]);first
   |(refine hK _ _ ?_;clear hK K)
   |(refine stepU_m (by kernel_rfl) ((fun v w'=>ownPr w' (w.heap.size+2) v k.ps)) (ownPr_closed _ _) (fun wq hwq=>?_) ?_
     ·(have hbq:=bcell hwq;(repeat (first|refine fills_no (by rfl) ?_|refine fills_yes (by rfl) (fun vq hvq=>?_)));simp only [List.filter_nil,fills];(obtain ⟨gq,eq1,hq1⟩:=hvq;exact upAt_copy (vs:=vq) (.tmp 8) (.tmp 10) (by rfl) (w.heap.size+2) lo (by rfl) (by rfl) eq1 hq1 k.ps (hrt _ (by (repeat (first|exact Up.refl _|refine Up.alloc ?_ _|refine Up.set ?_ (by first|exact Nat.le_refl _|(simp;done)|(simp;omega)) _|refine Up.trans ?_ (by with_reducible assumption))))) (by omega) (by have:=hwq.size;simp at this;omega)))
     refine hK _ _ ?_;clear hK K)
   |(apply stepU_c
     ·intro wq hwq;(have hbq:=bcell hwq;(repeat (first|refine fills_no (by rfl) ?_|refine fills_yes (by rfl) (fun vq hvq=>?_)));simp only [List.filter_nil,fills];unfold upAt;(try (obtain ⟨aq,cq,rfl⟩:=ownsRow_shape hvq));go_simp;(try go_bits);(try simp only [↓IntWalk.iteOmega]);first|exact upOut_value)
     go_simp;refine hK _ _ ?_;clear hK K)
   |(refine stepU_m (by kernel_rfl) (MtP (w.heap.size+2)) (mtP_closed _) (fun wq hwq=>?_) ?_
     ·(have hbq:=bcell hwq;(repeat (first|refine fills_no (by rfl) ?_|refine fills_yes (by rfl) (fun vq hvq=>?_)));simp only [List.filter_nil,fills];unfold upAt;(try (obtain ⟨aq,cq,rfl⟩:=ownsRow_shape hvq));go_simp;(try go_bits);(try simp only [↓IntWalk.iteOmega]);exact upOut_make ((Up.refl _).alloc _) (mtP_new (by have:=hwq.size;simp at this;omega)))
     refine hK _ _ ?_;clear hK K)
   |(refine stepU_m (by kernel_rfl) (KnO (w.heap.size+2) ⟨k.set,k.ps,k.base,x⟩) (knO_closed _ _) (fun wq hwq=>?_) ?_
     ·(have hbq:=bcell hwq;(repeat (first|refine fills_no (by rfl) ?_|refine fills_yes (by rfl) (fun vq hvq=>?_)));simp only [List.filter_nil,fills];unfold upAt;(try (obtain ⟨aq,cq,rfl⟩:=ownsRow_shape hvq));go_simp;(try go_bits);(try simp only [↓IntWalk.iteOmega]);exact upOut_make (Up.refl _) ⟨_,rfl,by assumption⟩)
     refine hK _ _ ?_;clear hK K)
   |(refine stepU_m (by kernel_rfl) (Boxed (w.heap.size+2) #[.int .i64 0,.int .i64 0,.int .i64 0,.slice none 0 0,.int .i64 0,.int .i64 0] 27) (boxed_closed _ _ _) (fun wq hwq=>?_) ?_
     ·(have hbq:=bcell hwq;(repeat (first|refine fills_no (by rfl) ?_|refine fills_yes (by rfl) (fun vq hvq=>?_)));simp only [List.filter_nil,fills];unfold upAt;(try (obtain ⟨aq,cq,rfl⟩:=ownsRow_shape hvq));go_simp;(try go_bits);(try simp only [↓IntWalk.iteOmega]);exact upOut_make ((Up.refl _).alloc _) (boxed_new (by have:=hwq.size;simp at this;omega)))
     refine hK _ _ ?_;clear hK K))
  refine wpUp_nil (fun wq hwq=>?_)
  simp only [fills]
  rintro v10 ⟨pb,rfl,hpb,hbox⟩ u ⟨v',rfl,hv'⟩ v1 - v2 -
  obtain ⟨a',c',rfl⟩:=ownsRow_shape hv'
  have hsz:=hwq.size
  simp at hsz
  have hpl:pb<wq.heap.size:=(Array.getElem?_eq_some_iff.1 hbox).1
  have hK0:KnAt w.heap.size k (.slice a k.ps.length cap) wq:=box_up hwq (box_up ((Up.refl _).alloc _) (MapKept.heap_alloc w _).1)
  have hR0:KnAt (w.heap.size+1) ⟨⟨0,0,0⟩,[],0,0⟩ (.slice none 0 0) wq:=box_up hwq (by rw [← size_alloc w _];exact (MapKept.heap_alloc _ _).1)
  have hK1:=KnAt.store (k0:=⟨⟨0,0,0⟩,[],0,0⟩) (v0:= .slice none 0 0) hbox ⟨k.set,k.ps,k.base,x⟩ (.slice a' k.ps.length c')
  have hO1:=KnW.own hv' (box_ne hbox hv' (by decide)) ⟨k.set,k.ps,k.base,x⟩ (.slice a' k.ps.length c')
  have hU1:Up w (KnW wq pb ⟨k.set,k.ps,k.base,x⟩ (.slice a' k.ps.length c')):=KnW.up (by (repeat (first|with_reducible exact Up.refl _|with_reducible assumption|with_reducible refine Up.set ?_ (by first|exact Nat.le_refl _|(simp only [];omega)|(simp;omega)) _|with_reducible refine Up.alloc ?_ _|refine Up.trans ?_ (by with_reducible assumption)))) (by omega) _ _
  have hK0':KnAt w.heap.size k (.slice a k.ps.length cap) (KnW wq pb ⟨k.set,k.ps,k.base,x⟩ (.slice a' k.ps.length c')):=(KnW.other (by omega) _ _).trans hK0
  have hR0':KnAt (w.heap.size+1) ⟨⟨0,0,0⟩,[],0,0⟩ (.slice none 0 0) (KnW wq pb ⟨k.set,k.ps,k.base,x⟩ (.slice a' k.ps.length c')):=(KnW.other (by omega) _ _).trans hR0
  have HH:=Lib.hid (And.intro hK1 (And.intro hO1 (And.intro hU1 (And.intro hK0' hR0'))))
  clear hK1 hO1 hU1 hK0' hR0' hK0 hR0
  obtain ⟨-,q0,q1,q2,q3,q4,q5⟩:=KnAt.cells (k:=⟨⟨0,0,0⟩,[],0,0⟩) (v:= .slice none 0 0) hbox
  have hfr:=box_free hbox
  have BQ:=bcell hwq
  clear hv' hbox
  go_wp2_with fail
  rw [show (World.setCell (World.setCell (World.setCell (World.setCell (World.setCell (World.setCell wq ⟨pb,0,none⟩ (.int .i64 k.set.ord)) ⟨pb,1,none⟩ (.int .i64 k.set.lit)) ⟨pb,2,none⟩ (.int .i64 k.set.most)) ⟨pb,3,none⟩ (.slice a' k.ps.length c')) ⟨pb,4,none⟩ (.int .i64 k.base)) ⟨pb,5,none⟩ (.int .i64 x))=KnW wq pb ⟨k.set,k.ps,k.base,x⟩ (.slice a' k.ps.length c') from rfl]
  clear q0 q1 q2 q3 q4 q5 hfr BQ
  generalize KnW wq pb ⟨k.set,k.ps,k.base,x⟩ (.slice a' k.ps.length c')=W1 at HH ⊢
  obtain ⟨hK1,hO1,hU1,hK0,hR0⟩:=HH.out
  clear HH hwq hsz hpl
  refine (cG _ (hrt _ hU1)).mono ?_
  rintro e w2 ⟨rfl,U2⟩
  have hK1':=KnAt.up hK1 U2
  have hK0':=KnAt.up hK0 U2
  have hR0':=KnAt.up hR0 U2
  have HO:=Lib.hid (ownsRow_up hO1 U2)
  have HU:=Lib.hid (hU1.trans U2)
  have HKS:=Lib.hid (And.intro hK1' (And.intro hK0' hR0'))
  obtain ⟨-,r0,r1,r2,r3,r4,r5⟩:=KnAt.cells hK1'
  obtain ⟨-,s0,s1,s2,s3,s4,s5⟩:=KnAt.cells hK0'
  have hne1:=Lib.hid (box_ne hK1' HO.out (by decide))
  have hne0:Hid (some w.heap.size≠Value.ownBlock (.slice a' k.ps.length c')):=fun e=>by have:=(HO.out.lt _ e.symm).1;omega
  have hneR:Hid (some (w.heap.size+1)≠Value.ownBlock (.slice a' k.ps.length c')):=fun e=>by have:=(HO.out.lt _ e.symm).1;omega
  have hrow:Hid (∀ y,Value.ownBlock (.slice a' k.ps.length c')=some y→w.heap.size≤y):=fun y hy=>by have:=(HO.out.lt y hy).1;omega
  have hfx:=HFX.out
  have hws:=(HU.out).size
  have hp1:=(Array.getElem?_eq_some_iff.1 hK1').1
  clear hK1 hO1 hU1 hK0 hR0 U2 hK1' hK0' hR0'
  go_wp2
  refine wp_region_own 13 11 (Value.ownBlock (.slice a' k.ps.length c')) (by kernel_rfl) (by kernel_rfl) ?_
  simp only [List.take,List.drop]
  repeat (refine wpG_step (fun K hK=>?_);go_simp;(try simp only [↓IntWalk.iteOmega]);first
   |(refine hK _ _ ?_;clear hK K)
   |(refine stepG_own (by rfl) (by kernel_rfl) ((fun v w'=>w'.ownsRow (w.heap.size+2) 133 2 v (k.ps.length+1) (cellsPr k.ps++prC ⟨k.last,fx⟩))) ((fun v w w' h hu=>ownsRow_up h hu)) (fun wq hwq=>?_) ?_
     ·((repeat (first|refine fills_no (by rfl) ?_|refine fills_yes (by rfl) (fun vq hvq=>?_)));simp only [List.filter_nil,fills];(obtain ⟨bq,eqb,nb,hcb⟩:=hvq;exact gAt_append (.tmp 19) (.tmp 28) 25 (by rfl) (w.heap.size+2) 133 i0 (.agg #[.int .i64 0,.int .i64 0]) 2 16 Tryz.underlying25 hi hz0 hz1 hz2 rfl (by decide) (.slice a' k.ps.length c') k.ps.length (cellsPr k.ps) (by rfl) (ownsRow_up HO.out hwq) ⟨bq,0,none⟩ 1 1 (prC ⟨k.last,fx⟩) (by exact eqb) rfl (newP_cells hcb) (prC_one _) (by unfold maxLen;omega) (by omega) (by have:=hwq.size;omega) _ rfl))
     refine hK _ _ ?_;clear hK K)
   |(refine stepG_c (by rfl) ?_ ?_ ?_
     rotate_left
     ·intro wq hwq;(have hbq:=gcell hwq;(repeat (first|refine fills_no (by rfl) ?_|refine fills_yes (by rfl) (fun vq hvq=>?_)));simp only [List.filter_nil,fills];unfold upAt;(try ((obtain ⟨-,r0,r1,r2,r3,r4,r5⟩:=KnAt.cells (HKS.out.1.gr hwq hne1.out);obtain ⟨-,s0,s1,s2,s3,s4,s5⟩:=KnAt.cells (HKS.out.2.1.gr hwq hne0.out))));go_simp;(try go_bits);(try simp only [↓IntWalk.iteOmega]);first|exact upOut_value|(apply upOut_call;(go_at_call 148;exact cA _ (hrt _ (Up.grown HU.out hwq hrow.out)))))
     go_simp;refine hK _ _ ?_;clear hK K)
   |(refine stepG_m (by rfl) (by kernel_rfl) (NewP (Value.ownBlock (.slice a' k.ps.length c')) ⟨k.last,fx⟩) (newP_closed) (fun wq hwq=>?_) ?_
     ·(have hbq:=gcell hwq;(repeat (first|refine fills_no (by rfl) ?_|refine fills_yes (by rfl) (fun vq hvq=>?_)));simp only [List.filter_nil,fills];unfold upAt;(try ((obtain ⟨-,r0,r1,r2,r3,r4,r5⟩:=KnAt.cells (HKS.out.1.gr hwq hne1.out);obtain ⟨-,s0,s1,s2,s3,s4,s5⟩:=KnAt.cells (HKS.out.2.1.gr hwq hne0.out))));go_simp;(try go_bits);(try simp only [↓IntWalk.iteOmega]);exact upOut_make ((Up.refl _).alloc _) ⟨_,rfl,own_ne HO.out hwq.size,(MapKept.heap_alloc _ _).1⟩)
     refine hK _ _ ?_;clear hK K))
  refine wpG_nil (by rfl) (fun wq hwq=>?_)
  simp only [fills]
  rintro v11 h11 v10 -
  obtain ⟨a3,c3,rfl⟩:=ownsRow_shape h11
  have hKp:=KnAt.gr HKS.out.1 hwq hne1.out
  have hRr:=KnAt.gr HKS.out.2.2 hwq hneR.out
  have HNB:=Lib.hid (box_ne hKp h11 (by decide))
  have HU3:=Lib.hid (Up.grown HU.out hwq hrow.out)
  have H11:=Lib.hid h11
  have hwz:=hwq.size
  obtain ⟨hpl,r0,r1,r2,r3,r4,r5⟩:=KnAt.cells hKp
  obtain ⟨hRl,q0,q1,q2,q3,q4,q5⟩:=KnAt.cells (k:=⟨⟨0,0,0⟩,[],0,0⟩) (v:= .slice none 0 0) hRr
  have hfr:=box_free hRr
  have hfp:=box_free hKp
  clear h11 hKp hRr hwq cA cG hrt hr'
  go_wp2
  refine bodyPost_ret (v:=kV ⟨k.set,k.ps++ [⟨k.last,fx⟩],k.base,x⟩ (.slice a3 (k.ps.length+1) c3)) (by simp [results,Tryz.results127,go_sem,q0,q1,q2,q3,q4,q5]) rfl ⟨_,rfl,?_,?_⟩
  ·refine ownsRow_base (base:=w.heap.size+2) ?_ (by omega)
   simp only [List.length_append,List.length_cons,List.length_nil,cellsPr_snoc,Nat.zero_add]
   repeat (with_reducible refine ownsRow_setne ?_ (by omega) _ _)
   with_reducible refine ownsRow_setb ?_ HNB.out _ _
   exact H11.out
  ·have hUU:=HU3.out
   (repeat (first|with_reducible exact Up.refl _|with_reducible assumption|with_reducible refine Up.set ?_ (by first|exact Nat.le_refl _|(simp only [];omega)|(simp;omega)) _|with_reducible refine Up.alloc ?_ _|refine Up.trans ?_ (by with_reducible assumption)))
end Go.Proofs.YtekogcjdaolcbaaGreatDoor

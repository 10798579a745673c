/- Texts joined into one: the walks and laws that the last text leans on. Conditions: as each says. -/
import Derived.Test.YtekogcjdaolcbaaGreatDoorMFnTravelLawC

set_option linter.unusedVariables false
set_option linter.unusedSimpArgs false
/- Walks of the reference's KnownValid and Start. Conditions: what is known is valid and can be read. -/
namespace Go.Proofs.YtekogcjdaolcbaaGreatDoor
open Go Go.RowKit
theorem alloc2 (w:World) (A B:Obj):((w.alloc A).alloc B).heap[w.heap.size+1]? =some B:=by
 have:=(MapKept.heap_alloc (w.alloc A) B).1
 rwa [size_alloc] at this
def RelKV (k:KnD) (v:Value) (w:World) (i:Value) (wr:World):Prop:= ∃ j:Nat,j≤k.ps.length∧i= .int .i64 j∧Up w wr∧KnAt w.heap.size k v wr∧SetAt (w.heap.size+1) k.set.ord k.set.lit k.set.most wr
theorem setD_eta (s:SetD):(⟨s.ord,s.lit,s.most⟩:SetD)=s:=rfl
set_option maxRecDepth 100000 in
set_option maxHeartbeats 1000000 in
theorem startS_any (s:SetD) (w:World) (h:setOk s=true) :
  Calls Tryz.prog 125  #[setV s] w (fun e w'=>e= .returned (.tuple #[kV ⟨s,[],0,-1⟩ (.slice none 0 0),.bool true])∧Up w w'):=by
 have cS:=fun w=>setS_any s.ord s.lit s.most w
 rw [setD_eta,h] at cS
 clear h
 simp only [setV]
 go_enter Tryz.func125,Tryz.ntmps125
 go_wp2_with ((go_at_call 103;(with_reducible refine (cS _).mono ?_);rintro e w1 ⟨rfl,U1⟩;have B1:=bcell U1;have Z1:=U1.size;(try simp at Z1);(try rw [Nat.add_one_le_iff] at Z1));obtain ⟨-,q0,q1,q2,q3,q4,q5⟩:=KnAt.cells (b:=w.heap.size+1) (k:=⟨⟨0,0,0⟩,[],0,0⟩) (v:= .slice none 0 0) (box_up U1 (alloc2 w _ _)))
 obtain ⟨-,q0,q1,q2,q3,q4,q5⟩:=KnAt.cells (b:=w.heap.size+1) (k:=⟨⟨0,0,0⟩,[],0,0⟩) (v:= .slice none 0 0) (box_up U1 (alloc2 w _ _))
 refine bodyPost_ret (v:= .tuple #[kV ⟨s,[],0,-1⟩ (.slice none 0 0),.bool true]) (by simp [results,Tryz.results125,go_sem,q0,q1,q2,q3,q4,q5]) rfl ⟨rfl,?_⟩
 (repeat (first|with_reducible exact Up.refl _|with_reducible assumption|with_reducible refine Up.set ?_ (by first|exact Nat.le_refl _|(simp only [];omega)|(simp;omega)) _|with_reducible refine Up.alloc ?_ _|refine Up.trans ?_ (by with_reducible assumption)))
end Go.Proofs.YtekogcjdaolcbaaGreatDoor
/- Walks of the reference's l2Follows and l2Step. Conditions: what is known is valid (KnD.Ok) and can be read. -/
namespace Go.Proofs.YtekogcjdaolcbaaGreatDoor
open Go Go.RowKit
def KnD.step (k:KnD) (x:Int):KnD:=if x=(k.c:Int) then k.cleared else k.after x
set_option maxRecDepth 100000 in
set_option maxHeartbeats 2000000 in
theorem l2Step_any (k:KnD) (v:Value) (lo:Nat) (x:Int) (w:World) (h:k.Ok) (hr:RdP lo w v k.ps) (hf:x≠(k.c:Int)→k.follows x=true) :
  Calls Tryz.prog 152  #[kV k v,.int .i64 x] w (KnPost (k.step x) w):=by
 have cK:=fun wx=>l1Clear_any k.set wx h.set
 have hrt:=fun (wq:World) (hu:Up w wq)=>hr.up hu
 have ec:k.c=clr k.set:=rfl
 by_cases hx:x=(k.c:Int)
 ·have cC:=fun wx hr=>l2Cleared_any k v lo wx h hr
  have e:Hid (k.step x=k.cleared):=by unfold Hid KnD.step;rw [if_pos hx]
  obtain ⟨a,cap,rfl,-,-,-,-⟩:=hr
  rw [e.out]
  subst hx
  clear h e hf
  generalize k.cleared=kk at *
  simp only [kV,ec] at *
  go_enter Tryz.func152,Tryz.ntmps152
  go_wp2_with (first|((go_at_call 86;(with_reducible refine (cK _).mono ?_);rintro e w1 ⟨rfl,U1⟩;have B1:=bcell U1;have Z1:=U1.size;(try simp at Z1);(try rw [Nat.add_one_le_iff] at Z1));have Y1:w.heap.size<w1.heap.size:=(by have:=U1.size;simp at this;omega))|(go_at_call 129;(with_reducible refine (cC _ (hrt _ (by (repeat (first|with_reducible exact Up.refl _|with_reducible assumption|with_reducible refine Up.set ?_ (by first|exact Nat.le_refl _|(simp only [];omega)|(simp;omega)) _|with_reducible refine Up.alloc ?_ _|refine Up.trans ?_ (by with_reducible assumption)))))).mono ?_);rintro e w2 ⟨v2,rfl,ho2,U2⟩;obtain ⟨a2,c2,rfl⟩:=ownsRow_shape ho2;obtain ⟨hRl,q0,q1,q2,q3,q4,q5⟩:=KnAt.cells (b:=w.heap.size+1) (k:=⟨⟨0,0,0⟩,[],0,0⟩) (v:= .slice none 0 0) (box_up (U1.trans U2) (alloc2 w _ _));have hfr:=box_free (box_up (U1.trans U2) (alloc2 w _ _));have HO:=Lib.hid ho2;clear ho2))
  obtain ⟨hRl,q0,q1,q2,q3,q4,q5⟩:=KnAt.cells (b:=w.heap.size+1) (k:=⟨⟨0,0,0⟩,[],0,0⟩) (v:= .slice none 0 0) (box_up (U1.trans U2) (alloc2 w _ _))
  refine bodyPost_ret (v:=kV kk (.slice a2 kk.ps.length c2)) (by simp [results,Tryz.results152,go_sem,hRl,q0,q1,q2,q3,q4,q5]) rfl ⟨_,rfl,?_,?_⟩
  ·have hs:=U1.size
   simp at hs
   refine ownsRow_base (base:=w.heap.size+2) ?_ (by omega)
   repeat (with_reducible refine ownsRow_setne ?_ (by omega) _ _)
   exact ownsRow_base HO.out (by omega)
  ·(repeat (first|with_reducible exact Up.refl _|with_reducible assumption|with_reducible refine Up.set ?_ (by first|exact Nat.le_refl _|(simp only [];omega)|(simp;omega)) _|with_reducible refine Up.alloc ?_ _|refine Up.trans ?_ (by with_reducible assumption)))
 ·have cC:=fun wx hr=>l2After_any k v lo x wx h hr (hf hx)
  have e:Hid (k.step x=k.after x):=by unfold Hid KnD.step;rw [if_neg hx]
  have hx':(x == ((clr k.set:Nat):Int))=false:=by rw [← ec];simpa using hx
  obtain ⟨a,cap,rfl,-,-,-,-⟩:=hr
  rw [e.out]
  clear h e hf hx
  generalize k.after x=kk at *
  simp only [kV] at *
  go_enter Tryz.func152,Tryz.ntmps152
  go_wp2_with (first|((go_at_call 86;(with_reducible refine (cK _).mono ?_);rintro e w1 ⟨rfl,U1⟩;have B1:=bcell U1;have Z1:=U1.size;(try simp at Z1);(try rw [Nat.add_one_le_iff] at Z1));have Y1:w.heap.size<w1.heap.size:=(by have:=U1.size;simp at this;omega))|(go_at_call 127;(with_reducible refine (cC _ (hrt _ (by (repeat (first|with_reducible exact Up.refl _|with_reducible assumption|with_reducible refine Up.set ?_ (by first|exact Nat.le_refl _|(simp only [];omega)|(simp;omega)) _|with_reducible refine Up.alloc ?_ _|refine Up.trans ?_ (by with_reducible assumption)))))).mono ?_);rintro e w2 ⟨v2,rfl,ho2,U2⟩;obtain ⟨a2,c2,rfl⟩:=ownsRow_shape ho2;obtain ⟨hRl,q0,q1,q2,q3,q4,q5⟩:=KnAt.cells (b:=w.heap.size+1) (k:=⟨⟨0,0,0⟩,[],0,0⟩) (v:= .slice none 0 0) (box_up (U1.trans U2) (alloc2 w _ _));have hfr:=box_free (box_up (U1.trans U2) (alloc2 w _ _));have HO:=Lib.hid ho2;clear ho2))
  obtain ⟨hRl,q0,q1,q2,q3,q4,q5⟩:=KnAt.cells (b:=w.heap.size+1) (k:=⟨⟨0,0,0⟩,[],0,0⟩) (v:= .slice none 0 0) (box_up (U1.trans U2) (alloc2 w _ _))
  refine bodyPost_ret (v:=kV kk (.slice a2 kk.ps.length c2)) (by simp [results,Tryz.results152,go_sem,hRl,q0,q1,q2,q3,q4,q5]) rfl ⟨_,rfl,?_,?_⟩
  ·have hs:=U1.size
   simp at hs
   refine ownsRow_base (base:=w.heap.size+2) ?_ (by omega)
   repeat (with_reducible refine ownsRow_setne ?_ (by omega) _ _)
   exact ownsRow_base HO.out (by omega)
  ·(repeat (first|with_reducible exact Up.refl _|with_reducible assumption|with_reducible refine Up.set ?_ (by first|exact Nat.le_refl _|(simp only [];omega)|(simp;omega)) _|with_reducible refine Up.alloc ?_ _|refine Up.trans ?_ (by with_reducible assumption)))
end Go.Proofs.YtekogcjdaolcbaaGreatDoor
/- Plain facts on the longest word and its code; what is known behind the words of a text. Conditions: as each says. -/
namespace Go.Proofs.YtekogcjdaolcbaaGreatDoor
open Go.RowKit
theorem KnD.longN_cases {k:KnD} {d:List UInt8} (i:Nat):k.longN d i=d.take 1∨ ∃ j,j<i∧k.longN d i=k.any ((k.c:Int)+2+j)∧(k.longN d i).length≤d.length∧d.take (k.longN d i).length=k.longN d i:=by
 induction i with
 |zero=>exact .inl rfl
 |succ i ih =>
  by_cases h:(k.longN d i).length<(k.any ((k.c:Int)+2+i)).length∧(k.any ((k.c:Int)+2+i)).length≤d.length∧d.take (k.any ((k.c:Int)+2+i)).length=k.any ((k.c:Int)+2+i)
  ·have e:k.longN d (i+1)=k.any ((k.c:Int)+2+i):=by rw [KnD.longN,if_pos h]
   rw [e]
   exact .inr ⟨i,by omega,rfl,h.2.1,h.2.2⟩
  ·have e:k.longN d (i+1)=k.longN d i:=by rw [KnD.longN,if_neg h]
   rw [e]
   rcases ih with ih|⟨j,h1,h2⟩
   ·exact .inl ih
   ·exact .inr ⟨j,by omega,h2⟩
theorem KnD.longest_take {k:KnD} (d:List UInt8):d.take (k.longest d).length=k.longest d:=by
 unfold KnD.longest
 rcases KnD.longN_cases (k:=k) (d:=d) k.cnt with h|⟨j,_,_,_,h⟩
 ·rw [h,List.length_take]
  cases d with
  |nil=>rfl
  |cons b l=>simp
 ·exact h
theorem KnD.longest_le {k:KnD} (d:List UInt8):(k.longest d).length≤d.length:=KnD.longN_len d _
theorem KnD.longN_pos {k:KnD} {d:List UInt8} (hd:d≠ []) (i:Nat):1≤(k.longN d i).length:=by
 induction i with
 |zero =>
  unfold KnD.longN
  cases d with
  |nil=>exact absurd rfl hd
  |cons b l=>simp
 |succ i ih =>
  rw [KnD.longN]
  split
  ·next h=>omega
  ·exact ih
theorem KnD.longest_pos {k:KnD} {d:List UInt8} (hd:d≠ []):1≤(k.longest d).length:=KnD.longN_pos hd _
theorem KnD.any_lit {k:KnD} (h:k.Ok) {x:Int} (h0:0≤x) (h1:x<k.c):k.any x= [ub x]:=by
 rw [KnD.any_word (by rw [codeOk_iff];omega)]
 exact wordP_lit h1
theorem ub_self (b:UInt8):ub (b.toNat:Int)=b:=by
 unfold ub
 simp
theorem KnD.find_any {k:KnD} (h:k.Ok) {d:List UInt8} (hd:d≠ []) (hl: ∀ b∈d,b.toNat<k.c):k.follows (k.find (k.longest d))=true∧k.any (k.find (k.longest d))=k.longest d:=by
 by_cases hc:(k.longest d).length=1∧((k.longest d).getD 0 0).toNat<k.c
 ·rw [KnD.find_lit hc]
  have h1:(((k.longest d).getD 0 0).toNat:Int)<k.c:=by omega
  refine ⟨?_,?_⟩
  ·unfold KnD.follows
   rw [Bool.or_eq_true]
   left;rw [codeOk_iff];omega
  ·rw [KnD.any_lit h (by omega) h1,ub_self]
   obtain ⟨b,hb⟩:=List.length_eq_one_iff.1 hc.1
   rw [hb];rfl
 ·have hex: ∃ j,j<k.cnt∧k.longest d=k.any ((k.c:Int)+2+j):=by
   rcases KnD.longN_cases (k:=k) (d:=d) k.cnt with h1|⟨j,h1,h2,_⟩
   ·exfalso
    apply hc
    unfold KnD.longest
    rw [h1]
    cases d with
    |nil=>exact absurd rfl hd
    |cons b l=>exact ⟨by simp,by simpa using hl b (List.mem_cons_self ..)⟩
   ·exact ⟨j,h1,h2⟩
  obtain ⟨j,hj,he⟩:=hex
  -- the least one
  have hleast: ∃ i:Nat,i<k.cnt∧k.any ((k.c:Int)+2+i)=k.longest d∧ ∀ m:Nat,m<i→k.any ((k.c:Int)+2+m)≠k.longest d:=by
   have: ∀ n:Nat,(∀ m:Nat,m<n→k.any ((k.c:Int)+2+m)≠k.longest d)∨ ∃ i:Nat,i<n∧k.any ((k.c:Int)+2+i)=k.longest d∧ ∀ m:Nat,m<i→k.any ((k.c:Int)+2+m)≠k.longest d:=by
    intro n
    induction n with
    |zero=>exact .inl fun m hm=>absurd hm (Nat.not_lt_zero _)
    |succ n ih =>
     rcases ih with ih|⟨i,h1,h2⟩
     ·by_cases hn:k.any ((k.c:Int)+2+n)=k.longest d
      ·exact .inr ⟨n,by omega,hn,ih⟩
      ·refine .inl fun m hm=>?_
       rcases Nat.lt_or_ge m n with hl|hl
       ·exact ih m hl
       ·have:m=n:=by omega
        subst this;exact hn
     ·exact .inr ⟨i,by omega,h2⟩
   rcases this k.cnt with h1|h1
   ·exact absurd he.symm (h1 j hj)
   ·exact h1
  obtain ⟨i,hi,h1,h2⟩:=hleast
  rw [KnD.find_hit hc hi h1 h2]
  exact ⟨KnD.fol hi,h1⟩
theorem KnD.find_bd {k:KnD} (h:k.Ok) {x:Int} (hf:k.follows x=true):0≤x∧x≤1024:=by
 have h1:=h.c_bd
 have h2:=h.len
 rcases KnD.follows_cases h hf with hc|⟨hg,rfl,hl⟩
 ·rw [codeOk_iff] at hc;omega
 ·have:=KnD.next_bd h;omega
def learnN:Nat→KnD→List UInt8→KnD
 |0,k,_=>k
 |n+1,k,d=>if d= [] then k else learnN n (k.after (k.find (k.longest d))) (d.drop (k.longest d).length)
def learnK (k:KnD) (d:List UInt8):KnD:=⟨k.set,(learnN d.length k.cleared d).ps,(learnN d.length k.cleared d).ps.length,-1⟩
def startK (s:SetD):KnD:=⟨s,[],0,-1⟩
theorem startK_ok {s:SetD} (h:setOk s=true):(startK s).Ok:=by
 have:=clr_bd h
 exact ⟨h,prsOk_nil _,by show 0+clr s+1≤lastC s;omega,Int.le_refl _,Int.le_refl _,.inl rfl⟩
end Go.Proofs.YtekogcjdaolcbaaGreatDoor
/- Walks of the reference's functions that learn a dictionary. Conditions: the settings are valid where it says so. -/
namespace Go.Proofs.YtekogcjdaolcbaaGreatDoor
open Go Go.RowKit
def fitsB (s:SetD) (d:List UInt8):Bool:=setOk s && decide (d.length≤2000) && litsL (clr s) d
set_option maxRecDepth 100000 in
set_option maxHeartbeats 1000000 in
theorem fitsS_any (s:SetD) (d:ByteArray) (w:World) (hd:d.size≤1073741824) :
  Calls Tryz.prog 44  #[setV s,.string d] w (Same (.bool (fitsB s d.data.toList)) w):=by
 have cS:=fun w=>setS_any s.ord s.lit s.most w
 rw [setD_eta] at cS
 have hlen:=ba_len d
 unfold fitsB
 rw [hlen]
 cases h:setOk s
 ·rw [h] at cS
  clear h
  simp only [setV]
  go_enter Tryz.func44,Tryz.ntmps44
  go_wp2_with ((go_at_call 103;(with_reducible refine (cS _).mono ?_);rintro e w1 ⟨rfl,U1⟩;have B1:=bcell U1;have Z1:=U1.size;(try simp at Z1);(try rw [Nat.add_one_le_iff] at Z1)))
  go_ret
  refine ⟨ret_bool (by first|rfl|simp),?_⟩
  (repeat (first|exact Up.refl _|refine Up.alloc ?_ _|refine Up.trans ?_ (by with_reducible assumption)))
 ·rw [h] at cS
  have cF:=fun w=>l1Fits_any s.ord s.lit s.most d w (by rw [setD_eta];exact h) hd
  rw [setD_eta] at cF
  generalize litsL (clr s) d.data.toList=lb at *
  clear h
  simp only [setV]
  by_cases h2:d.size≤2000
  all_goals
   go_enter Tryz.func44,Tryz.ntmps44
   go_wp2_with (first|(go_at_call 103;(with_reducible refine (cS _).mono ?_);rintro e w1 ⟨rfl,U1⟩;have B1:=bcell U1;have Z1:=U1.size;(try simp at Z1);(try rw [Nat.add_one_le_iff] at Z1))|(go_at_call 104;(with_reducible refine (cF _).mono ?_);rintro e w2 ⟨rfl,U2⟩;have B2:=bcell U2;have Z2:=U2.size;(try simp at Z2);(try rw [Nat.add_one_le_iff] at Z2)))
   go_ret
   refine ⟨ret_bool (by first|rfl|simp [h2]),?_⟩
   (repeat (first|exact Up.refl _|refine Up.alloc ?_ _|refine Up.trans ?_ (by with_reducible assumption)))
theorem upOut_known {f:FuncId} {args:Array Value} {w:World} {k:KnD} {base:Nat} (h:Calls Tryz.prog f args w (KnPost k w)) (hb:base≤w.heap.size):upOut Tryz.prog (KnO base k) w (.ok (.enter f args) w) :=
 ⟨rfl,h.mono fun e w' ⟨v,he,ho,hu⟩=>⟨kV k v,he,hu,v,rfl,ownsRow_base ho hb⟩⟩
theorem bs_drop (l:List UInt8) (i:Nat):(bs l).extract i (bs l).size=bs (l.drop i):=by
 rw [bs_ext,bs_size,List.take_of_length_le (by rw [List.length_drop];exact Nat.le_refl _)]
theorem bs_drop' (l:List UInt8) (i n:Nat) (hn:n=l.length):(bs l).extract i n=bs (l.drop i):=by
 subst hn;rw [← bs_size,bs_drop]
def slen:Value→Nat
 | .string s=>s.size
 |_=>0
end Go.Proofs.YtekogcjdaolcbaaGreatDoor
/- Rows of integers of the call's own, beside rows of other types. Conditions: as each says. -/
namespace Go.Proofs.YtekogcjdaolcbaaGreatDoor
open Go Go.RowKit
theorem infoIntG:(Tryz.prog.info? 3).map (fun i=>(i.zero,i.size,i.bytes))=some (some (.int .i64 0),1,8):=by kernel_rfl
theorem rows_ne {w:World} {b1 b2:Nat} {e1 e2:TypeId} {s1 s2 n1 n2:Nat} {v1 v2:Value} {x1 x2:List Value} (h1:w.ownsRow b1 e1 s1 v1 n1 x1) (h2:w.ownsRow b2 e2 s2 v2 n2 x2) (hne:e1≠e2):v1.ownBlock=none∨v1.ownBlock≠v2.ownBlock:=by
 rcases h1.2 with ⟨rfl,_⟩|⟨g,cap,cur,rfl,_,hg,_⟩
 ·exact .inl rfl
 ·refine .inr fun e=>?_
  rcases h2.2 with ⟨rfl,_⟩|⟨g',cap',cur',rfl,_,hg',_⟩
  ·cases e
  ·simp only [Value.ownBlock,Option.some.injEq] at e
   subst e
   rw [hg] at hg'
   cases hg'
   exact hne rfl
theorem cellsI_snoc (l:List Int) (x:Int):cellsI (l++ [x])=cellsI l++ [.int .i64 x]:=by simp [cellsI]
abbrev ownI (w:World) (base:Nat) (v:Value) (l:List Int):Prop:=w.ownsRow base 3 1 v l.length (cellsI l)
end Go.Proofs.YtekogcjdaolcbaaGreatDoor

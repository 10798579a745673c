/- Texts joined into one: the walks and laws that the last text leans on. Conditions: as each says. -/
import Derived.Test.YtekogcjdaolcbaaGreatDoorMFnTravelLawH
import Derived.Test.YtekogcjdaolcbaaGreatDoorMFnTravelLawE
import Derived.Test.YtekogcjdaolcbaaGreatDoorMFnTravelLawF
import Derived.Test.YtekogcjdaolcbaaGreatDoorMFnTravelLawC

set_option linter.unusedVariables false
set_option linter.unusedSimpArgs false
/- Walk of the reference's l2Draw. Conditions: the reader is one (Rdr), its place is bounded. -/
namespace Go.Proofs.YtekogcjdaolcbaaGreatDoor
open Go Go.RowKit
def kn0:KnD:=⟨⟨0,0,0⟩,[],0,0⟩
def RelDk (rb:Nat) (B:Value) (c:Nat) (w:World) (b:Nat) (i:Value) (wr:World):Prop:= ∃ (n:Nat) (k:KnD) (v:Value),i= .int .i64 n∧n≤13∧k.Ok∧KnAt b k v wr∧RdP (b+1) wr v k.ps∧RdUp rb B (c+40 * (13 - n)) w wr∧KnAt w.heap.size kn0 (.slice none 0 0) wr
theorem rdP_none (lo:Nat) (w:World):RdP lo w (.slice none 0 0) []:=⟨none,0,rfl,Nat.le_refl _,by unfold maxLen;omega,fun _=>⟨rfl,rfl⟩,fun h=>absurd h (Nat.lt_irrefl _)⟩
def AftP (lo:Nat) (k:KnD) (u:Value) (w:World):Prop:= ∃ x v,k.follows x=true∧u=kV (k.after x) v∧RdP lo w v (k.after x).ps
theorem aftP_closed {rb lo:Nat} {k:KnD} (hl:rb<lo): ∀ u w w',AftP lo k u w→w.grownBy w' (some rb)→AftP lo k u w':=fun u w w' ⟨x,v,h1,h2,h3⟩ hg=>⟨x,v,h1,h2,h3.gr hg hl⟩
theorem upOut_aft {lo:Nat} {k:KnD} {x:Int} {f:FuncId} {args:Array Value} {w:World} (h:Calls Tryz.prog f args w (KnPost (k.after x) w)) (hx:k.follows x=true) (hb:lo≤w.heap.size):upOut Tryz.prog (AftP lo k) w (.ok (.enter f args) w) :=
 ⟨rfl,h.mono fun e w' ⟨v,he,hp,hu⟩=>⟨_,he,hu,x,v,hx,rfl,(RdP.of_own hp).low hb⟩⟩
def DrawnK (rb:Nat) (B:Value) (c:Nat) (D:KnD→Prop) (w:World) (e:Ending) (w':World):Prop:= ∃ k v,e= .returned (kV k v)∧D k∧RdP (rb+1) w' v k.ps∧RdUp rb B c w w'
set_option maxRecDepth 100000 in
set_option maxHeartbeats 8000000 in
theorem l2Draw_any (rb:Nat) (B:Value) (w:World) (N:Nat) (h:Rdr rb B w N) (hN:N≤800000000) :
  Calls Tryz.prog 72  #[.pointer (some ⟨rb,0,none⟩)] w (DrawnK rb B 800 KnD.Ok w):=by
 obtain ⟨p,hp,h,HM⟩:=h.least
 have hlt:=h.lt
 have HR:=Lib.hid h
 have hne0: ¬ w.heap.size=rb:=by omega
 have hU:=RdUp.refl rb B 0 w
 have e1:w.heap.size<w.heap.size+1:=by omega
 have cS:=fun w N h hN=>l1Some_any rb B w N h hN
 have hRB:KnAt w.heap.size kn0 (.slice none 0 0) (w.alloc (.cells #[.int .i64 0,.int .i64 0,.int .i64 0,.slice none 0 0,.int .i64 0,.int .i64 0] 27)):=(MapKept.heap_alloc w _).1
 go_enter Tryz.func72,Tryz.ntmps72
 go_wp2_with (first|((go_at_call 126;((with_reducible refine (draw_at (cS) HR.out hU (by intro c hU;(repeat (first|with_reducible assumption|refine RdUp.ups ?_ (by with_reducible assumption)|with_reducible refine RdUp.set ?_ (by first|exact Nat.le_refl _|(simp only [];omega)|(simp;omega)) _|with_reducible refine RdUp.alloc ?_ _|with_reducible exact RdUp.of (Up.refl _)))) (by omega)).mono ?_);rintro e w' ⟨v,rfl,⟨s,rfl,hs⟩,hU,U⟩;have D:=gcell U.1;have Z:=U.1.size;(try simp at Z);(try have Y0:w.heap.size<w'.heap.size:=(by omega));(try have Y1:w.heap.size+1<w'.heap.size:=(by omega));(try have Y2:w.heap.size+1+1<w'.heap.size:=(by omega));(try have X0:w.heap.size<w'.heap.size+1:=(by omega));(try have X1:w.heap.size+1<w'.heap.size+1:=(by omega));(try have X2:w.heap.size+1+1<w'.heap.size+1:=(by omega))));have hRB:=gbox U.1 hRB (by simp;omega))|(go_at_call 125;(with_reducible refine (startS_any s _ hs).mono ?_);rintro e w2 ⟨rfl,U2⟩;have hU:=hU.ups U2;have hRB:=box_up U2 hRB;clear D U cS))
 have hKB:KnAt w2.heap.size ⟨s,[],0,-1⟩ (.slice none 0 0) (w2.alloc (.cells #[.int .i64 s.ord,.int .i64 s.lit,.int .i64 s.most,.slice none 0 0,.int .i64 0,.int .i64 (-1)] 27)):=(MapKept.heap_alloc w2 _).1
 have hRB:KnAt w.heap.size kn0 (.slice none 0 0) (w2.alloc (.cells #[.int .i64 s.ord,.int .i64 s.lit,.int .i64 s.most,.slice none 0 0,.int .i64 0,.int .i64 (-1)] 27)):=box_up ((Up.refl _).alloc _) hRB
 have hU:RdUp rb B 5 w (w2.alloc (.cells #[.int .i64 s.ord,.int .i64 s.lit,.int .i64 s.most,.slice none 0 0,.int .i64 0,.int .i64 (-1)] 27)):=by exact RdUp.fin hU (by intro c hU;(repeat (first|with_reducible assumption|refine RdUp.ups ?_ (by with_reducible assumption)|with_reducible refine RdUp.set ?_ (by first|exact Nat.le_refl _|(simp only [];omega)|(simp;omega)) _|with_reducible refine RdUp.alloc ?_ _|with_reducible exact RdUp.of (Up.refl _)))) (by omega)
 have hs2:w.heap.size<w2.heap.size:=by have:=U2.size;omega
 have hbr: ¬ w2.heap.size=rb:=by omega
 have hbr2:rb<w2.heap.size:=by omega
 have hbr3:rb<w2.heap.size+1:=by omega
 have hk0:(⟨s,[],0,-1⟩:KnD).Ok:=startK_ok hs
 generalize (w2.alloc (.cells #[.int .i64 s.ord,.int .i64 s.lit,.int .i64 s.most,.slice none 0 0,.int .i64 0,.int .i64 (-1)] 27))=W at *
 generalize w2.heap.size=b at *
 clear U2 Z Y0 X0 hs
 simp only [kV,setV]
 go_wp2_with ((go_at_call 31;((with_reducible refine (pick_at (n:=14) HR.out hU (by intro c hU;(repeat (first|with_reducible assumption|refine RdUp.ups ?_ (by with_reducible assumption)|with_reducible refine RdUp.set ?_ (by first|exact Nat.le_refl _|(simp only [];omega)|(simp;omega)) _|with_reducible refine RdUp.alloc ?_ _|with_reducible exact RdUp.of (Up.refl _)))) (by omega)).mono ?_);rintro e w' ⟨n,rfl,n0,n1,hU,U⟩;have D:=gcell U.1;have Z:=U.1.size;(try simp at Z);(try have Y0:w.heap.size<w'.heap.size:=(by omega));(try have Y1:w.heap.size+1<w'.heap.size:=(by omega));(try have Y2:w.heap.size+1+1<w'.heap.size:=(by omega));(try have X0:w.heap.size<w'.heap.size+1:=(by omega));(try have X1:w.heap.size+1<w'.heap.size+1:=(by omega));(try have X2:w.heap.size+1+1<w'.heap.size+1:=(by omega));((have hKB:=gbox U.1 hKB (by simp;omega);have hRB:=gbox U.1 hRB (by simp;omega))))))
 obtain ⟨n,rfl⟩:=Int.eq_ofNat_of_zero_le n0
 have hn14:n≤13:=by omega
 have hU0:=RdUp.mono hU (show 5+1≤6 by omega)
 clear hU U D
 go_loopw [5] (fun i wr=>RelDk rb B 6 w b i wr) (fun i _=>(intOf i).toNat)
 case atStart=>exact ⟨n,_,_,rfl,hn14,hk0,hKB,rdP_none _ _,hU0.mono (by omega),hRB⟩
 case round =>
  clear hKB hRB hU0 hk0
  obtain ⟨n,k,v,rfl,hn,hk,hKB,hr,hU,hRB⟩:=hrel
  have hwz:=hU.1.size
  obtain ⟨a,cap,rfl,hc1,hc2,hc3,-⟩:=id hr
  unfold maxLen at hc2
  have hpl:=hk.nums.2.2.2.1
  have hfw:=box_free hKB
  by_cases hp0:0<n
  ·go_wp2
   have hr2:=hU.2 _ h
   refine wp_region_rd 5 rb B 8 _ (by kernel_rfl) (by kernel_rfl) hr2 ?_
   simp only [List.take,List.drop]
   repeat (refine wpR_step (fun K hK=>?_);go_simp;(try simp only [↓IntWalk.iteOmega]);first
    |(refine hK _ _ ?_;clear hK K)
    |(refine stepR_c ?_ ?_ ?_
      rotate_left
      ·intro wq hwq hrq;(have hbq:=gcell hwq;(repeat (first|refine fills_no (by rfl) ?_|(refine fills_yes (by rfl) (fun vq hvq=>?_);(try ((obtain ⟨x,rfl,hx⟩:=hvq))))));simp only [List.filter_nil,fills];unfold upAt;(try ((obtain ⟨-,r0,r1,r2,r3,r4,r5⟩:=KnAt.cells (gbox hwq hKB (by simp;omega)))));go_simp;(try go_bits);(try simp only [↓IntWalk.iteOmega]);first|exact upOut_value)
      go_simp;refine hK _ _ ?_;clear hK K)
    |(refine stepR_m (by kernel_rfl) ?_ ?_ (fun wq hwq hrq=>?_) ?_
      rotate_left 2
      ·(have hbq:=gcell hwq;(repeat (first|refine fills_no (by rfl) ?_|(refine fills_yes (by rfl) (fun vq hvq=>?_);(try ((obtain ⟨x,rfl,hx⟩:=hvq))))));simp only [List.filter_nil,fills];unfold upAt;(try ((obtain ⟨-,r0,r1,r2,r3,r4,r5⟩:=KnAt.cells (gbox hwq hKB (by simp;omega)))));go_simp;(try go_bits);(try simp only [↓IntWalk.iteOmega]);first|((with_reducible refine upOut_D (AftP (b+1) k) ?_);(((with_reducible refine upOut_aft ?_ hx ?_);(go_at_call 127;exact l2After_any k _ (b+1) x wq hk (hr.gr hwq (by omega)) hx);(have:=(Array.getElem?_eq_some_iff.1 hKB).1;have:=hwq.size;omega)))))
      rotate_left
      ·(first|exact (fun _ _ _ h _=>h)|exact (aftP_closed (by omega)))
      refine hK _ _ ?_;clear hK K)
    |(refine stepR_d (by rfl) (by kernel_rfl) (fun v _=>IsFol k v) (fun _ _ _ h _=>h) (fun wq hwq hrq=>?_) ?_
      ·(have hbq:=gcell hwq;(repeat (first|refine fills_no (by rfl) ?_|(refine fills_yes (by rfl) (fun vq hvq=>?_);(try ((obtain ⟨x,rfl,hx⟩:=hvq))))));simp only [List.filter_nil,fills];unfold gAt;(try ((obtain ⟨-,r0,r1,r2,r3,r4,r5⟩:=KnAt.cells (gbox hwq hKB (by simp;omega)))));go_simp;(try go_bits);(try simp only [↓IntWalk.iteOmega]);(with_reducible refine gOut_drawn ((l2Pick_any k _ rb B wq _ hrq (by omega) hk ((hr.gr hwq (by omega)).low (by omega)))) ?_);decide)
      refine hK _ _ ?_;clear hK K))
   refine wpR_nil (fun wq hwq hrq=>?_)
   simp only [fills]
   rintro u ⟨x,v',hx,rfl,hr'⟩
   intros
   obtain ⟨a',c',rfl,-⟩:=id hr'
   generalize hvv:Value.slice a' (k.after x).ps.length c'=v' at *
   have hU:=RdUp.made (C:=6+40 * (13 - (n - 1))) HM (grownBy_trans hU.1 hwq) hrq (by omega)
   have hK2:=KnAt.store (gbox hwq hKB (by simp;omega)) (k.after x) v'
   have hR2:KnAt w.heap.size kn0 (.slice none 0 0) (KnW wq b (k.after x) v'):=(KnW.other (by omega) _ _).trans (gbox hwq hRB (by simp;omega))
   have hr2':RdP (b+1) (KnW wq b (k.after x) v') v' (k.after x).ps:=by unfold KnW;exact (((((hr'.set (Nat.lt_succ_self b) _ _).set (Nat.lt_succ_self b) _ _).set (Nat.lt_succ_self b) _ _).set (Nat.lt_succ_self b) _ _).set (Nat.lt_succ_self b) _ _).set (Nat.lt_succ_self b) _ _
   have hU2:RdUp rb B (6+40 * (13 - (n - 1))) w (KnW wq b (k.after x) v'):=by unfold KnW;(repeat (first|with_reducible assumption|refine RdUp.ups ?_ (by with_reducible assumption)|with_reducible refine RdUp.set ?_ (by first|exact Nat.le_refl _|(simp only [];omega)|(simp;omega)) _|with_reducible refine RdUp.alloc ?_ _|with_reducible exact RdUp.of (Up.refl _)))
   have hK:=KnD.after_ok hk hx
   have HH:=Lib.hid (And.intro hK (And.intro hK2 (And.intro hr2' (And.intro hU2 hR2))))
   obtain ⟨hb1,q0,q1,q2,q3,q4,q5⟩:=KnAt.cells (gbox hwq hKB (by simp;omega))
   have hfr:=box_free (gbox hwq hKB (by simp;omega))
   clear hK2 hR2 hr2' hU2 hK hr' hU hKB hRB hr
   generalize k.after x=k2 at *
   subst hvv
   simp only [kV]
   go_wp2
   rw [onlyN_normal]
   go_wp2
   rw [show (World.setCell (World.setCell (World.setCell (World.setCell (World.setCell (World.setCell wq ⟨b,0,none⟩ (.int .i64 k2.set.ord)) ⟨b,1,none⟩ (.int .i64 k2.set.lit)) ⟨b,2,none⟩ (.int .i64 k2.set.most)) ⟨b,3,none⟩ (.slice a' k2.ps.length c')) ⟨b,4,none⟩ (.int .i64 k2.base)) ⟨b,5,none⟩ (.int .i64 k2.last))=KnW wq b k2 (.slice a' k2.ps.length c') from rfl]
   obtain ⟨hK,hK2,hr2',hU2,hR2⟩:=HH.out
   clear HH q0 q1 q2 q3 q4 q5 hfr
   go_roundw
   case rel=>exact ⟨n - 1,k2,_,by go_num,by omega,hK,hK2,hr2',hU2,hR2⟩
   case measure=>simp [intOf];omega
  ·have e:n=0:=by omega
   subst e
   obtain ⟨hb1,q0,q1,q2,q3,q4,q5⟩:=KnAt.cells hKB
   go_wp2_with (first|(go_at_call 31;((with_reducible refine (pick_at (n:=5) HR.out hU (by intro c hU;(repeat (first|with_reducible assumption|refine RdUp.ups ?_ (by with_reducible assumption)|with_reducible refine RdUp.set ?_ (by first|exact Nat.le_refl _|(simp only [];omega)|(simp;omega)) _|with_reducible refine RdUp.alloc ?_ _|with_reducible exact RdUp.of (Up.refl _)))) (by omega)).mono ?_);rintro e w' ⟨y,rfl,y0,y1,hU,U⟩;have D:=gcell U.1;have Z:=U.1.size;(try simp at Z);(try have Y0:w.heap.size<w'.heap.size:=(by omega));(try have Y1:w.heap.size+1<w'.heap.size:=(by omega));(try have Y2:w.heap.size+1+1<w'.heap.size:=(by omega));(try have X0:w.heap.size<w'.heap.size+1:=(by omega));(try have X1:w.heap.size+1<w'.heap.size+1:=(by omega));(try have X2:w.heap.size+1+1<w'.heap.size+1:=(by omega));(((first|(have hKB:=gbox U.1 hKB (by simp;omega);have hr:=RdP.gr hr U.1 (by omega))|(have hKB:KnAt b ⟨k.set,k.ps,m,k.last⟩ (.slice a k.ps.length cap) w':=gbox U.1 (box_set hKB 4 (.int .i64 m)) (by simp;omega);have hr:=RdP.gr (hr.set (Nat.lt_succ_self b) 4 (.int .i64 m)) U.1 (by omega)));(first|(have hRB:=gbox U.1 hRB (by simp;omega))|(have hRB:KnAt w.heap.size kn0 (.slice none 0 0) w':=gbox U.1 ((Below.heap_setCell _ _ _ _ (show w.heap.size≠b by omega)).trans hRB) (by simp;omega))));(obtain ⟨hb1,q0,q1,q2,q3,q4,q5⟩:=KnAt.cells hKB;obtain ⟨hb0,s0,s1,s2,s3,s4,s5⟩:=KnAt.cells hRB;have hfr:=box_free hRB;have hfk:=box_free hKB))))|(go_at_call 31;((with_reducible refine (pick_at (n:=(k.ps.length:Int)+1) HR.out hU (by intro c hU;(repeat (first|with_reducible assumption|refine RdUp.ups ?_ (by with_reducible assumption)|with_reducible refine RdUp.set ?_ (by first|exact Nat.le_refl _|(simp only [];omega)|(simp;omega)) _|with_reducible refine RdUp.alloc ?_ _|with_reducible exact RdUp.of (Up.refl _)))) (by omega)).mono ?_);rintro e w' ⟨m,rfl,m0,m1,hU,U⟩;have D:=gcell U.1;have Z:=U.1.size;(try simp at Z);(try have Y0:w.heap.size<w'.heap.size:=(by omega));(try have Y1:w.heap.size+1<w'.heap.size:=(by omega));(try have Y2:w.heap.size+1+1<w'.heap.size:=(by omega));(try have X0:w.heap.size<w'.heap.size+1:=(by omega));(try have X1:w.heap.size+1<w'.heap.size+1:=(by omega));(try have X2:w.heap.size+1+1<w'.heap.size+1:=(by omega));((have hKB:=gbox U.1 hKB (by simp;omega);have hRB:=gbox U.1 hRB (by simp;omega);have hr:=RdP.gr hr U.1 (by omega);(obtain ⟨hb1,q0,q1,q2,q3,q4,q5⟩:=KnAt.cells hKB;obtain ⟨hb0,s0,s1,s2,s3,s4,s5⟩:=KnAt.cells hRB;have hfr:=box_free hRB;have hfk:=box_free hKB)))))|(go_at_call 129;(first|(with_reducible refine (l2Cleared_any k _ (b+1) _ hk hr).mono ?_)|(with_reducible refine (l2Cleared_any ⟨k.set,k.ps,m,k.last⟩ _ (b+1) _ (hk.rebase (by omega) (by omega)) hr).mono ?_));rintro e w9 ⟨v9,rfl,ho9,U9⟩;have hr9:=(RdP.of_own ho9).low (show b+1≤_ by omega);have hU:=hU.ups U9;have hKB:=box_up U9 hKB;have hRB:=box_up U9 hRB;obtain ⟨a9,c9,rfl⟩:=ownsRow_shape ho9;clear q0 q1 q2 q3 q4 q5 hfr hfk s0 s1 s2 s3 s4 s5;obtain ⟨hb1,q0,q1,q2,q3,q4,q5⟩:=KnAt.cells hKB;obtain ⟨hb0,s0,s1,s2,s3,s4,s5⟩:=KnAt.cells hRB;have hfr:=box_free hRB;have hfk:=box_free hKB))
   all_goals
    refine bodyPost_ret (v:=_) (by simp [results,Tryz.results72,go_sem,hb0,s0,s1,s2,s3,s4,s5];rfl) rfl ?_
    first
     |(refine ⟨k,.slice a k.ps.length cap,rfl,hk,RdP.low (lo:=b+1) ?_ (by omega),?_⟩;(repeat (with_reducible refine RdP.set ?_ (by omega) _ _));exact hr;exact RdUp.fin hU (by intro c hU;(repeat (first|with_reducible assumption|refine RdUp.ups ?_ (by with_reducible assumption)|with_reducible refine RdUp.set ?_ (by first|exact Nat.le_refl _|(simp only [];omega)|(simp;omega)) _|with_reducible refine RdUp.alloc ?_ _|with_reducible exact RdUp.of (Up.refl _)))) (by omega))
     |(refine ⟨⟨k.set,k.ps,m,k.last⟩,.slice a k.ps.length cap,rfl,hk.rebase (by omega) (by omega),RdP.low (lo:=b+1) ?_ (by omega),?_⟩;(repeat (with_reducible refine RdP.set ?_ (by omega) _ _));exact hr;exact RdUp.fin hU (by intro c hU;(repeat (first|with_reducible assumption|refine RdUp.ups ?_ (by with_reducible assumption)|with_reducible refine RdUp.set ?_ (by first|exact Nat.le_refl _|(simp only [];omega)|(simp;omega)) _|with_reducible refine RdUp.alloc ?_ _|with_reducible exact RdUp.of (Up.refl _)))) (by omega))
     |(refine ⟨k.cleared,.slice a9 _ c9,rfl,KnD.cleared_ok hk,RdP.low (lo:=b+1) ?_ (by omega),?_⟩;(repeat (with_reducible refine RdP.set ?_ (by omega) _ _));exact hr9;exact RdUp.fin hU (by intro c hU;(repeat (first|with_reducible assumption|refine RdUp.ups ?_ (by with_reducible assumption)|with_reducible refine RdUp.set ?_ (by first|exact Nat.le_refl _|(simp only [];omega)|(simp;omega)) _|with_reducible refine RdUp.alloc ?_ _|with_reducible exact RdUp.of (Up.refl _)))) (by omega))
     |(refine ⟨(⟨k.set,k.ps,m,k.last⟩:KnD).cleared,.slice a9 _ c9,rfl,KnD.cleared_ok (hk.rebase (by omega) (by omega)),RdP.low (lo:=b+1) ?_ (by omega),?_⟩;(repeat (with_reducible refine RdP.set ?_ (by omega) _ _));exact hr9;exact RdUp.fin hU (by intro c hU;(repeat (first|with_reducible assumption|refine RdUp.ups ?_ (by with_reducible assumption)|with_reducible refine RdUp.set ?_ (by first|exact Nat.le_refl _|(simp only [];omega)|(simp;omega)) _|with_reducible refine RdUp.alloc ?_ _|with_reducible exact RdUp.of (Up.refl _)))) (by omega))
end Go.Proofs.YtekogcjdaolcbaaGreatDoor
/- A region whose order is open, whose operations draw or make memory, and one of which appends onto a row that another one has made: walked once in the order of the text. Conditions: those of the theorem wp_region_rk. -/
namespace Go.Proofs.YtekogcjdaolcbaaGreatDoor
open Go Go.RowKit
def KpD (wr:World) (rb:Nat) (B:Value) (DD:Nat→Value→World→Prop) (w w':World):Prop:=(∀ C,RdUp rb B C wr w→RdUp rb B C wr w')∧ ∀ i v,DD i v w→DD i v w'
def rkR (wr:World) (rb:Nat) (B:Value) (n0 c j0:Nat) (DD:Nat→Value→World→Prop) (j:Nat) (w w':World):Prop:=if j=j0 then KpD wr rb B DD w w' else RdUp rb B (if j<n0 then c else 0) w w'
def rkK (wr:World) (rb:Nat) (B:Value) (DD:Nat→Value→World→Prop) (j:Nat) (w w':World):Prop:=w.grownBy w' (some rb)∨KpD wr rb B DD w w'
section
variable {P:Program} {ops:Array Oper}
structure WK (P:Program) (ops:Array Oper) (wr:World) (rb:Nat) (B:Value) (n0 c M j0:Nat) (DD:Nat→Value→World→Prop) (Z:Act→World→Prop) (l:List Oper) (k:Nat) (E:List Mk) (a:Act):Prop where
 out:wpG P ops (rkR wr rb B n0 c j0 DD) (rkK wr rb B DD) (rC wr rb B M) Z l k E a
theorem wp_region_rk (n0 j0 rb:Nat) (B:Value) (c N0:Nat) (DD:Nat→Value→World→Prop) {id:Nat} {Q:Exit→Act→World→Prop} {a:Act} {w:World} {l:List Oper} (hm:P.follows .mixedOrders=true) (hB:flB l.toArray n0=true) (hr:Rdr rb B w N0)
  (h:WK P l.toArray w rb B n0 c (N0+c * n0) j0 DD (fun a' w'=>wpList P l.toArray (onlyN Q) (l.drop n0) a' w') (l.take n0) 0 [] a):(Code.region id l.toArray true).wp P Q a w:=by
 have T:=flB_text hB
 have hle:n0≤l.length:=by simpa using T.le
 obtain ⟨D,hU,hT,hZ⟩:=wpG_text (R:=rkR w rb B n0 c j0 DD) (Kc:=rkK w rb B DD) (C:=rC w rb B (N0+c * n0)) (Z:=fun a' w'=>wpList P l.toArray (onlyN Q) (l.drop n0) a' w') (a0:=a) (n0:=n0) T.c (l.take n0) 0 [] a (fun _=>False) (fun _=>undef) (fun _ _ _=>False) (by simp [hle]) (fun j hj=>by
  simp only [List.length_take] at hj
  simp [show j<n0 by omega]) ⟨(Desc.refl a (fun _=>undef)).congr (fun i=>by simp) (fun _ h=>h.elim),fun i hi=>absurd hi (Nat.not_lt_zero _),fun m hm=>(by cases hm),fun i hi=>absurd hi (Nat.not_lt_zero _)⟩
  (fun i hi=>absurd hi (Nat.not_lt_zero _)) (fun j o hj=>absurd hj (Nat.not_lt_zero _)) h.out
 refine wp_region_any hm (wpAny_gf (R:=rkR w rb B n0 c j0 DD) (Kc:=rkK w rb B DD) (C:=rC w rb B (N0+c * n0)) (I:=fun S w'=> ∃ C,RdUp rb B C w w'∧C+c * unS n0 S≤c * n0) (fun S w' j hI hS=>?_) (fun S w1 w2 j hI hS hR=>?_) (fun j w'=>?_) (fun k j w1 w2 hne hR=>?_) (a0:=a) (Q:=Q) (Q':=onlyN Q) T (fun _ _ h=>h) (fun _ _ _ h=>h) onlyN_out hU hT (by simpa using hZ) _ (List.range n0) _ a _ (fun _=>undef) (by simp;omega) (fun i hi _=>List.mem_range.2 hi) (fun i hi=>?_) (by simp) (fun i hi his=>by
  have:i<l.length:=by simpa using his
  simp [this]) (fun j o ho hj=>?_) ?_ ?_ ?_)
 ·obtain ⟨C,h1,h2⟩:=hI
  exact ⟨h1.1,(h1.2 _ hr).mono (by omega)⟩
 ·obtain ⟨C,h1,h2⟩:=hI
  unfold rkR at hR
  by_cases hj0:j=j0
  ·rw [if_pos hj0] at hR
   refine ⟨C,hR.1 C h1,?_⟩
   by_cases hj:j<n0
   ·have:=unS_less hj hS
    rw [← this,Nat.mul_add,Nat.mul_one] at h2
    omega
   ·rw [unS_same (by omega)]
    omega
  ·rw [if_neg hj0] at hR
   refine ⟨_,h1.trans hR,?_⟩
   by_cases hj:j<n0
   ·rw [if_pos hj]
    have:=unS_less hj hS
    rw [← this,Nat.mul_add,Nat.mul_one] at h2
    omega
   ·rw [if_neg hj,unS_same (by omega)]
    omega
 ·unfold rkR
  split
  ·exact ⟨fun _ h=>h,fun _ _ h=>h⟩
  ·exact RdUp.refl _ _ _ _
 ·unfold rkR at hR
  split at hR
  ·exact .inr hR
  ·exact .inl hR.1
 ·have hin:=List.mem_range.1 hi
  have:i<l.length:=by omega
  exact ⟨hin,by simp [this]⟩
 ·rw [getD_replicate_false] at hj;cases hj
 ·have hu:=Up.drew (Up.refl w)
  have:=unS_le n0 (fun i=>((Array.replicate l.toArray.size false).getD i false=true))
  refine ⟨0,RdUp.of hu,?_⟩
  have:=Nat.mul_le_mul_left c this
  omega
 ·exact (Desc.refl a (fun _=>undef)).congr (fun i=>by rw [getD_replicate_false];simp) (fun _ h=>h.elim)
 ·intro i hi;rw [getD_replicate_false] at hi;cases hi
section
variable {wr:World} {rb:Nat} {B:Value} {n0 c M j0:Nat} {DD:Nat→Value→World→Prop} {Z:Act→World→Prop} {o:Oper} {rest:List Oper} {k:Nat} {E:List Mk} {a:Act}
def stepK (P:Program) (ops:Array Oper) (wr:World) (rb:Nat) (B:Value) (n0 c M j0:Nat) (DD:Nat→Value→World→Prop) (E:List Mk) (k:Nat) (o:Oper) (a:Act) (K:List Mk→Act→Prop):Prop :=
 (∃ v,(∀ w,rC wr rb B M k w→fills (E.filter fun m=>waitsB o m.1) a w (fun a'=>gAt P (rkR wr rb B n0 c j0 DD k) o a' w (fun v' _=>v'=v)))∧K E (a.put o.dst v)) ∨
 (∃ D,guardFree ops k=true∧(∀ v w w',D v w→rkK wr rb B DD k w w'→D v w')∧(∀ w,rC wr rb B M k w→fills (E.filter fun m=>waitsB o m.1) a w (fun a'=>gAt P (rkR wr rb B n0 c j0 DD k) o a' w D))∧K ((k,o.dst,D) :: E) a)
theorem wpK_step (h: ∀ K:List Mk→Act→Prop,(∀ E a,WK P ops wr rb B n0 c M j0 DD Z rest (k+1) E a→K E a)→if Region.wanted o (yielded ops a.tmps) then stepK P ops wr rb B n0 c M j0 DD E k o a K else K E (a.put o.dst undef)):WK P ops wr rb B n0 c M j0 DD Z (o :: rest) k E a:=by
 have:=h (fun E a=>wpG P ops (rkR wr rb B n0 c j0 DD) (rkK wr rb B DD) (rC wr rb B M) Z rest (k+1) E a) fun _ _ h=>h.out
 refine ⟨?_⟩
 unfold wpG
 exact this
theorem rkR_ne (hk:(k == j0)=false) {w w':World} (h:Up w w'):rkR wr rb B n0 c j0 DD k w w':=by
 have hk': ¬ k=j0:=by simpa using hk
 unfold rkR
 rw [if_neg hk']
 exact RdUp.of h
theorem stepK_c {K:List Mk→Act→Prop} (hk:(k == j0)=false) (v:Value) (h1: ∀ w,wr.grownBy w (some rb)→Rdr rb B w M→fills (E.filter fun m=>waitsB o m.1) a w (fun a'=>upAt P o a' w (fun v' _=>v'=v))) (h2:K E (a.put o.dst v)):stepK P ops wr rb B n0 c M j0 DD E k o a K :=
 .inl ⟨v,fun w hC=>fills_mono (fun a' h=>gAt_rd (fun w' h=>rkR_ne hk h) (gAt_up h)) (h1 w hC.1 hC.2),h2⟩
theorem stepK_m {K:List Mk→Act→Prop} (hk:(k == j0)=false) (hg:guardFree ops k=true) (D:Value→World→Prop) (hD: ∀ v w w',D v w→rkK wr rb B DD k w w'→D v w')
  (h1: ∀ w,wr.grownBy w (some rb)→Rdr rb B w M→fills (E.filter fun m=>waitsB o m.1) a w (fun a'=>upAt P o a' w D)) (h2:K ((k,o.dst,D) :: E) a):stepK P ops wr rb B n0 c M j0 DD E k o a K :=
 .inr ⟨D,hg,hD,fun w hC=>fills_mono (fun a' h=>gAt_rd (fun w' h=>rkR_ne hk h) (gAt_up h)) (h1 w hC.1 hC.2),h2⟩
theorem stepK_at {K:List Mk→Act→Prop} (j:Nat) (hj:(k == j)=true) (hk:(k == j0)=false) (hg:guardFree ops k=true) (D:Value→World→Prop) (hD: ∀ v w w',D v w→rkK wr rb B DD k w w'→D v w')
  (h1: ∀ w,wr.grownBy w (some rb)→Rdr rb B w M→fills (E.filter fun m=>waitsB o m.1) a w (fun a'=>upAt P o a' w D)) (h2:K ((k,o.dst,D) :: E) a):stepK P ops wr rb B n0 c M j0 DD E k o a K:=stepK_m hk hg D hD h1 h2
theorem stepK_d {K:List Mk→Act→Prop} (hkj:(k == j0)=false) (hk:decide (k<n0)=true) (hg:guardFree ops k=true) (D:Value→World→Prop) (hD: ∀ v w w',D v w→rkK wr rb B DD k w w'→D v w')
  (h1: ∀ w,wr.grownBy w (some rb)→Rdr rb B w M→fills (E.filter fun m=>waitsB o m.1) a w (fun a'=>gAt P (RdUp rb B c) o a' w D)) (h2:K ((k,o.dst,D) :: E) a):stepK P ops wr rb B n0 c M j0 DD E k o a K:=by
 refine .inr ⟨D,hg,hD,fun w hC=>?_,h2⟩
 have e:rkR wr rb B n0 c j0 DD k=RdUp rb B c:=by
  funext w w';unfold rkR;rw [if_neg (by simpa using hkj),if_pos (of_decide_eq_true hk)]
 rw [e]
 exact h1 w hC.1 hC.2
theorem stepK_own {K:List Mk→Act→Prop} (hk:(k == j0)=true) (hg:guardFree ops k=true) (D:Value→World→Prop) (hD: ∀ v w w',D v w→rkK wr rb B DD k w w'→D v w')
  (h1: ∀ w,wr.grownBy w (some rb)→Rdr rb B w M→fills (E.filter fun m=>waitsB o m.1) a w (fun a'=>gAt P (KpD wr rb B DD) o a' w D)) (h2:K ((k,o.dst,D) :: E) a):stepK P ops wr rb B n0 c M j0 DD E k o a K:=by
 refine .inr ⟨D,hg,hD,fun w hC=>?_,h2⟩
 have e:rkR wr rb B n0 c j0 DD k=KpD wr rb B DD:=by
  funext w w';unfold rkR;rw [if_pos (by simpa using hk)]
 rw [e]
 exact h1 w hC.1 hC.2
theorem wpK_nil (h: ∀ w,wr.grownBy w (some rb)→Rdr rb B w M→fills E a w (fun a'=>Z a' w)):WK P ops wr rb B n0 c M j0 DD Z [] k E a:=⟨fun w hC=>h w hC.1 hC.2⟩
theorem fills_same {w:World} {K:Act→Prop} (t:Tmp): ∀ (L:List Mk) (a:Act),(∀ m∈L,m.2.1≠some t)→(∀ a',a'.tmps.getD t undef=a.tmps.getD t undef→K a')→fills L a w K
 | [],a,_,h=>h a rfl
 |(k,d,D) :: L,a,hL,h=>fun v hv=>fills_same t L (a.put d v) (fun m hm=>hL m (List.mem_cons_of_mem _ hm)) (fun a' ha=>h a' (ha.trans (by
  have hd:d≠some t:=hL (k,d,D) (List.mem_cons_self ..)
  cases d with
  |none=>rfl
  |some u =>
   have hu:u≠t:=fun e=>hd (by rw [e])
   simp [Act.put,Array.getD_eq_getD_getElem?,Array.getElem?_setIfInBounds,hu])))
theorem not_dst {E:List Mk} {p:Mk→Bool} {t:Tmp} (h:some t ∉ E.map (fun m=>m.2.1)): ∀ m∈E.filter p,m.2.1≠some t:=fun m hm e=>h (List.mem_map.2 ⟨m,(List.mem_filter.1 hm).1,e⟩)
theorem fills_get {w:World} {K:Act→Prop} : ∀ (L:List Mk) (a:Act),(L.map (fun m=>m.2.1)).Nodup→(∀ a',(∀ m∈L,∀ t,m.2.1=some t→t<a.tmps.size→m.2.2 (a'.tmps.getD t undef) w)→(∀ t,(∀ m∈L,m.2.1≠some t)→a'.tmps.getD t undef=a.tmps.getD t undef)→K a')→fills L a w K
 | [],a,_,h=>h a (fun m hm=>by cases hm) (fun _ _=>rfl)
 |(k,d,D) :: L,a,hn,h=>fun v hv=>by
  simp only [List.map_cons,List.nodup_cons,List.mem_map,not_exists,not_and] at hn
  have hput: ∀ t,d≠some t→(a.put d v).tmps.getD t undef=a.tmps.getD t undef:=fun t hd=>by
   cases d with
   |none=>rfl
   |some u =>
    have hu:u≠t:=fun e=>hd (by rw [e])
    simp [Act.put,Array.getD_eq_getD_getElem?,Array.getElem?_setIfInBounds,hu]
  have hsz:(a.put d v).tmps.size=a.tmps.size:=by
   cases d with
   |none=>rfl
   |some u=>simp [Act.put]
  refine fills_get L (a.put d v) hn.2 (fun a' h1 h2=>h a' (fun m hm t ht hlt=>?_) (fun t ht=>?_))
  ·rcases List.mem_cons.1 hm with rfl|hm
   ·have ht:d=some t:=ht
    subst ht
    have hne: ∀ m∈L,m.2.1≠some t:=fun m hm e=>hn.1 m hm e
    rw [h2 t hne]
    have:(a.put (some t) v).tmps.getD t undef=v:=by simp [Act.put,Array.getD_eq_getD_getElem?,Array.getElem?_setIfInBounds,hlt]
    rw [this]
    exact hv
   ·exact h1 m hm t ht (by rw [hsz];exact hlt)
  ·rw [h2 t (fun m hm=>ht m (List.mem_cons_of_mem _ hm)),hput t (ht (k,d,D) (List.mem_cons_self ..))]
theorem run_append_split (base:Nat) (t ty e:TypeId) (i:TypeInfo) (z:Value) (size bytes:Nat) (ht:P.underlying t=some (.slice e)) (hi:P.info? e=some i) (hz:i.zero=some z)
  (hsize:i.size=size) (hby:i.bytes=bytes) (hzs:z.cells.size=size) (hsz:0<size)
  (w:World) (v:Value) (n:Nat) (xs:List Value) (hown:w.ownsRow base e size v n xs)
  (ad:Addr) (m c:Nat) (news:List Value) (hl:news.length=m * size) (hnews: ∀ j u,news[j]? =some u→w.cell? (ad.add j)=some u) (h1: ∀ u∈news,u.oneCell'=true)
  (h63:n+m≤maxLen) (hbytes:(n+m) * bytes≤140737488355328) {v':Value} {w':World} (hr:(Builtin.append_ #[t,t] ty #[v,.slice (some ad) m c]).run P w= .ok v' w') :
  Up w w'∨ ∃ g cap,v= .slice (some ⟨g,0,none⟩) n cap∧v'= .slice (some ⟨g,0,none⟩) (n+m) cap:=by
 subst hsize hby
 rcases hown.2 with ⟨rfl,rfl⟩|⟨g,cap,cur,rfl,hbg,hg,hnc,hcm,hcs,htake⟩
 ·have hx:xs= []:=List.eq_nil_of_length_eq_zero (by simpa using hown.1)
  subst hx
  obtain ⟨v2,w2,hr2,h2,h3,-⟩:=run_append_own (P:=P) w w.heap.size t ty e i z i.size i.bytes ht hi hz rfl rfl hzs hsz (.slice none 0 0) 0 [] (World.ownsRow_nil _ _ _ _) ad m c news hl hnews h1 h63 hbytes (Nat.le_refl _)
  rw [hr] at hr2
  simp only [Result.ok.injEq] at hr2
  obtain ⟨rfl,rfl⟩:=hr2
  exact .inl (Up.grown (Up.refl w) h3 (fun k hk=>by cases hk))
 ·by_cases hroom:n+m≤cap
  ·have hfit:n * i.size+news.length≤cur.size:=by rw [hl,hcs,←Nat.add_mul];exact Nat.mul_le_mul_right _ hroom
   have hr2:=run_append_room (P:=P) w t ty e i ht hi g n cap cur hg ad m c news hl hnews h1 hroom hfit
   rw [hr] at hr2
   simp only [Result.ok.injEq] at hr2
   obtain ⟨rfl,-⟩:=hr2
   exact .inr ⟨g,cap,rfl,rfl⟩
  ·have hr2:=run_append_grow (P:=P) w t ty e i z ht hi hz ⟨g,0,none⟩ n cap xs hown.1 (hown.cells (g:=g) rfl) ad m c news hl hnews (by omega) (by unfold maxLen at h63;omega) (growslice_fits (by omega) hbytes)
   rw [hr] at hr2
   simp only [Result.ok.injEq] at hr2
   obtain ⟨-,rfl⟩:=hr2
   exact .inl (((Up.refl _).drew).alloc _)
theorem ownsRow_inplace {w w':World} {base base2:Nat} {e:TypeId} {size n m cap:Nat} {g:Nat} {xs news:List Value} (hsz:0<size) (hown:w.ownsRow base e size (.slice (some ⟨g,0,none⟩) n cap) n xs) (hown':w'.ownsRow base e size (.slice (some ⟨g,0,none⟩) (n+m) cap) (n+m) (xs++news)) (hg:w.grownBy w' (some g))
  {u:Value} {p:Nat} {ys:List Value} (hu:w.ownsRow base2 e size u p ys):(p≤n→w'.ownsRow base2 e size u p ys)∧(p=n+m→w'.ownsRow base2 e size u p ys∨w'.ownsRow base2 e size u p (xs++news)):=by
 by_cases hb:u.ownBlock=some g
 ·obtain ⟨hxl,hx⟩:=hown
  obtain ⟨hul,hx2⟩:=hu
  rcases hx2 with ⟨rfl,-⟩|⟨g2,c2,cur2,rfl,hbg2,hg2,hnc2,hcm2,hcs2,ht2⟩
  ·cases hb
  ·simp only [Value.ownBlock,Option.some.injEq] at hb
   subst hb
   rcases hx with ⟨h,-⟩|⟨g3,c3,cur3,h3,hbg3,hg3,hnc3,hcm3,hcs3,ht3⟩
   ·cases h
   ·simp only [Value.slice.injEq,Option.some.injEq,Addr.mk.injEq,and_true] at h3
    obtain ⟨rfl,-,rfl⟩:=h3
    rw [hg2] at hg3
    simp only [Option.some.injEq,Obj.cells.injEq,and_true] at hg3
    obtain ⟨rfl,-⟩:=hg3
    have hcc:c2=cap:=by
     have:=hcs2.symm.trans hcs3
     exact Nat.eq_of_mul_eq_mul_right hsz this
    subst hcc
    obtain ⟨hxl',hx'⟩:=hown'
    rcases hx' with ⟨h,-⟩|⟨g4,c4,cur4,h4,hbg4,hg4,hnc4,hcm4,hcs4,ht4⟩
    ·cases h
    ·simp only [Value.slice.injEq,Option.some.injEq,Addr.mk.injEq,and_true] at h4
     obtain ⟨rfl,-,rfl⟩:=h4
     refine ⟨fun hp=>⟨hul,.inr ⟨g2,c2,cur4,rfl,hbg2,hg4,hnc2,hcm2,hcs4,?_⟩⟩,fun hp=> .inr ⟨by rw [hp];exact hxl',.inr ⟨g2,c2,cur4,rfl,hbg2,hg4,hnc2,hcm2,hcs4,by rw [hp];exact ht4⟩⟩⟩
     have hpm:p * size≤n * size:=Nat.mul_le_mul_right _ hp
     have hpm2:p * size≤(n+m) * size:=Nat.mul_le_mul_right _ (by omega)
     have e1:cur4.toList.take (p * size)=(xs++news).take (p * size):=by rw [← ht4,List.take_take];congr 1;omega
     rw [e1,List.take_append_of_le_length (by omega),←ht3,List.take_take,←ht2]
     congr 1
     omega
 ·have:=hu.kept hg (by
   cases hv:u.ownBlock with
   |none=>exact .inl rfl
   |some y=>exact .inr fun e=>hb (by rw [hv,e]))
  exact ⟨fun _=>this,fun _=> .inl this⟩
theorem ownsRow_otype {w w':World} {base base2:Nat} {e e2:TypeId} {size size2 n cap:Nat} {g:Nat} {xs:List Value} (hne:e2≠e) (hown:w.ownsRow base e size (.slice (some ⟨g,0,none⟩) n cap) n xs) (hg:w.grownBy w' (some g))
  {u:Value} {p:Nat} {ys:List Value} (hu:w.ownsRow base2 e2 size2 u p ys):w'.ownsRow base2 e2 size2 u p ys:=by
 have hno:u.ownBlock≠some g:=fun hv=>by
  rcases hown.2 with ⟨h,-⟩|⟨g3,c3,cur3,h3,hbg3,hg3,-⟩
  ·cases h
  ·simp only [Value.slice.injEq,Option.some.injEq,Addr.mk.injEq,and_true] at h3
   obtain ⟨rfl,-,rfl⟩:=h3
   rcases hu.2 with ⟨rfl,-⟩|⟨g2,c2,cur2,rfl,hbg2,hg2,-⟩
   ·cases hv
   ·simp only [Value.ownBlock,Option.some.injEq] at hv
    subst hv
    rw [hg2] at hg3
    simp only [Option.some.injEq,Obj.cells.injEq,and_true] at hg3
    exact hne hg3.2
 exact hu.kept hg (by
  cases hv:u.ownBlock with
  |none=>exact .inl rfl
  |some y=>exact .inr fun e=>hno (by rw [hv,e]))
end
end
def DDp (base:Nat) (ps:List PairD) (Y:PairD→Prop) (L:List Value) (i:Nat) (v:Value) (w:World):Prop :=
 match i with
 |0=>MtP base v w
 |1=>w.ownsRow base 3 1 v L.length L
 |3=>ownPr w base v ps
 |7=> ∃ q,Y q∧w.ownsRow base 133 2 v 1 (prC q)
 |8=> ∃ q,Y q∧ownPr w base v (ps++ [q])
 |_=>True
theorem ddp_grown {rb base:Nat} {ps:List PairD} {Y:PairD→Prop} {L:List Value} (hb:rb<base) (i:Nat) (v:Value) (w w':World) (h:DDp base ps Y L i v w) (hg:w.grownBy w' (some rb)):DDp base ps Y L i v w':=by
 unfold DDp at *
 split at h
 ·obtain ⟨g,h1,h2⟩:=h
  exact ⟨g,h1,own_rd h2 hb hg⟩
 ·exact own_rd h hb hg
 ·exact own_rd h hb hg
 ·obtain ⟨q,h1,h2⟩:=h
  exact ⟨q,h1,own_rd h2 hb hg⟩
 ·obtain ⟨q,h1,h2⟩:=h
  exact ⟨q,h1,own_rd h2 hb hg⟩
 ·trivial
theorem ddp_closed {wr:World} {rb base:Nat} {B:Value} {ps:List PairD} {Y:PairD→Prop} {L:List Value} (hb:rb<base) (i k:Nat): ∀ v w w',DDp base ps Y L i v w→rkK wr rb B (DDp base ps Y L) k w w'→DDp base ps Y L i v w':=fun v w w' h hk=>hk.elim (ddp_grown hb i v w w' h) (fun hp=>hp.2 i v h)
theorem ddp_pair {base:Nat} {ps:List PairD} {Y:PairD→Prop} {L:List Value} {w:World} (q:PairD) (hq:Y q) (hb:base≤w.heap.size):DDp base ps Y L 7 (.slice (some ⟨w.heap.size,0,none⟩) 1 1) (w.alloc (.cells #[.int .i64 q.pre,.int .i64 q.byt] 133)) :=
 ⟨q,hq,rfl,.inr ⟨w.heap.size,1,#[.int .i64 q.pre,.int .i64 q.byt],rfl,hb,(MapKept.heap_alloc w _).1,Nat.le_refl _,by unfold maxLen;omega,rfl,rfl⟩⟩
theorem ddp_ints {base:Nat} {ps:List PairD} {Y:PairD→Prop} {w:World} (x y:Int) (hb:base≤w.heap.size):DDp base ps Y [.int .i64 x,.int .i64 y] 1 (.slice (some ⟨w.heap.size,0,none⟩) 2 2) (w.alloc (.cells #[.int .i64 x,.int .i64 y] 3)) :=
 ⟨rfl,.inr ⟨w.heap.size,2,#[.int .i64 x,.int .i64 y],rfl,hb,(MapKept.heap_alloc w _).1,Nat.le_refl _,by unfold maxLen;omega,rfl,rfl⟩⟩
theorem ddp_rd {rb base:Nat} {ps:List PairD} {Y:PairD→Prop} {w:World} {v:Value} {x y:Int} (h:DDp base ps Y [.int .i64 x,.int .i64 y] 1 v w) (hb:rb<base):RdInts rb w v [x,y]:=by
 have h:w.ownsRow base 3 1 v 2 [.int .i64 x,.int .i64 y]:=h
 rcases h.2 with ⟨-,h'⟩|⟨g,cap,cur,rfl,hbg,hg,hnc,hcm,-⟩
 ·cases h'
 ·have hc:=h.cells (g:=g) rfl
  refine ⟨g,0,cap,rfl,hnc,hcm,(Array.getElem?_eq_some_iff.1 hg).1,by omega,fun i z hz=>?_⟩
  have:=hc i (.int .i64 z) (by
   match i,hz with
   |0,hz=>simpa using hz
   |1,hz=>simpa using hz)
  have hadd:(⟨g,0,none⟩:Addr).add i=⟨g,i,none⟩:=by unfold Addr.add;split <;> simp_all
  rw [hadd] at this
  rw [Nat.zero_add]
  exact this
theorem gAt_append_keep {o:Oper} {a:Act} {wr w:World} {rb:Nat} {B:Value} {Y:PairD→Prop} {L:List Value} (s x:Operand) (ho:o.op= .call { callee:= .builtin .append,args:= #[s,x],argTypes:= #[25,25]})
  (v u:Value) (ps:List PairD) (hs:a.eval s=v) (hown:DDp wr.heap.size ps Y L 3 v w) (hx:a.eval x=u) (hu:DDp wr.heap.size ps Y L 7 u w) (hl:ps.length≤1048576) (hrb:rb<wr.heap.size) (hbase:wr.heap.size≤w.heap.size) :
  gAt Tryz.prog (KpD wr rb B (DDp wr.heap.size ps Y L)) o a w (DDp wr.heap.size ps Y L 8):=by
 obtain ⟨i0,hi,hz0,hz1,hz2⟩:=info_parts infoPair
 obtain ⟨q,hq,hqo⟩:=hu
 have hown:ownPr w wr.heap.size v ps:=hown
 obtain ⟨ax,cx,rfl⟩:=ownsRow_shape hqo
 rcases hqo.2 with ⟨h,h'⟩|⟨g0,c0,cur0,h0,hbg0,hg0,hnc0,hcm0,hcs0,ht0⟩
 ·cases h'
 simp only [Value.slice.injEq] at h0
 obtain ⟨rfl,-,rfl⟩:=h0
 have hnews: ∀ j z,(prC q)[j]? =some z→w.cell? ((⟨g0,0,none⟩:Addr).add j)=some z:=by
  intro j z hz
  exact hqo.cells (g:=g0) rfl j z hz
 obtain ⟨v',w',hr,h2,h3,h4⟩:=run_append_own (P:=Tryz.prog) w wr.heap.size 25 o.type 133 i0 (.agg #[.int .i64 0,.int .i64 0]) 2 16 Tryz.underlying25 hi hz0 hz1 hz2 rfl (by decide) v ps.length (cellsPr ps) hown ⟨g0,0,none⟩ 1 cx (prC q) rfl hnews (prC_one q) (by unfold maxLen;omega) (by omega) hbase
 have hsp:=run_append_split (P:=Tryz.prog) wr.heap.size 25 o.type 133 i0 (.agg #[.int .i64 0,.int .i64 0]) 2 16 Tryz.underlying25 hi hz0 hz1 hz2 rfl (by decide) w v ps.length (cellsPr ps) hown ⟨g0,0,none⟩ 1 cx (prC q) rfl hnews (prC_one q) (by unfold maxLen;omega) (by omega) hr
 unfold gAt execOp
 simp only [ho,resolve,invoke,builtin,Sem.run_bind,Sem.run_pure,Result.andThen_ok,List.map_toArray,List.map_cons,List.map_nil,hs,hx,hr]
 have h8:ownPr w' wr.heap.size v' (ps++ [q]):=by unfold ownPr;rw [cellsPr_snoc,List.length_append];exact h2
 refine ⟨⟨fun C hC=>?_,fun i z hz=>?_⟩,q,hq,h8⟩
 ·rcases hsp with hup|⟨g,cap,rfl,rfl⟩
  ·exact hC.ups hup
  ·exact hC.gr h3 (fun k hk=>row_ge hown k hk)
 ·rcases hsp with hup|⟨g,cap,rfl,rfl⟩
  ·exact ddp_grown hrb i z w w' hz (up_grownBy hup _)
  ·have hin:=fun {base2:Nat} {u:Value} {p:Nat} {ys:List Value} (hu:w.ownsRow base2 133 2 u p ys)=>ownsRow_inplace (by decide) hown h2 h3 hu
   unfold DDp at hz ⊢
   split at hz
   ·obtain ⟨g9,h1,h2⟩:=hz
    exact ⟨g9,h1,(hin h2).1 (Nat.zero_le _)⟩
   ·exact ownsRow_otype (by decide) hown h3 hz
   ·exact (hin hz).1 (Nat.le_refl _)
   ·obtain ⟨q',hq',hz⟩:=hz
    rcases Nat.eq_zero_or_pos ps.length with h0|h0
    ·have hp0:ps= []:=List.eq_nil_of_length_eq_zero h0
     subst hp0
     rcases (hin hz).2 rfl with h|h
     ·exact ⟨q',hq',h⟩
     ·exact ⟨q,hq,h⟩
    ·exact ⟨q',hq',(hin hz).1 h0⟩
   ·obtain ⟨q',hq',hz⟩:=hz
    unfold ownPr at hz
    rcases (hin hz).2 (by simp) with h|h
    ·exact ⟨q',hq',h⟩
    ·refine ⟨q,hq,?_⟩
     unfold ownPr
     rw [cellsPr_snoc,List.length_append]
     rw [List.length_append] at h
     exact h
   ·trivial
end Go.Proofs.YtekogcjdaolcbaaGreatDoor
/- Walk of the reference's l2Bad. Conditions: the reader is one (Rdr), its place is bounded; what is known is valid and can be read. -/
namespace Go.Proofs.YtekogcjdaolcbaaGreatDoor
open Go Go.RowKit
def BadK (k:KnD):Prop:=(-9223372036854775808≤k.set.lit∧k.set.lit≤9223372036854775807)∧k.ps.length≤1100
def BadPost (rb:Nat) (B:Value) (v:Value) (ps:List PairD) (w:World) (e:Ending) (w':World):Prop:= ∃ k' v',e= .returned (kV k' v')∧BadK k'∧((v'=v∧k'.ps=ps)∨RdP w.heap.size w' v' k'.ps)∧RdUp rb B 40 w w'
theorem badK_of {k:KnD} (hk:k.Ok):BadK k:=by
 have h1:=(setOk_bd hk.set).2.1
 have h2:=hk.nums
 exact ⟨by omega,by omega⟩
set_option maxRecDepth 100000 in
set_option maxHeartbeats 8000000 in
theorem l2BadB_any (k:KnD) (v:Value) (rb:Nat) (B:Value) (w:World) (N:Nat) (h:Rdr rb B w N) (hN:N≤900000000) (hk:k.Ok) (hr:RdP (rb+1) w v k.ps) :
  Calls Tryz.prog 74  #[.pointer (some ⟨rb,0,none⟩),kV k v] w (BadPost rb B v k.ps w):=by
 obtain ⟨p,hp,h,HM⟩:=h.least
 have hlt:=h.lt
 have HR:=Lib.hid h
 have hne0: ¬ w.heap.size=rb:=by omega
 have hne1: ¬ w.heap.size+1=rb:=by omega
 have hU:=RdUp.refl rb B 0 w
 have e1:w.heap.size<w.heap.size+1:=by omega
 have e2:w.heap.size<w.heap.size+1+1:=by omega
 have e3:w.heap.size+1<w.heap.size+1+1:=by omega
 have hrt:=fun (wq:World) (hg:w.grownBy wq (some rb))=>hr.gr hg (Nat.lt_succ_self rb)
 have hbk:=badK_of hk
 have hpl:=hk.nums.2.2.2.1
 have hcl:=hk.nums.2.1
 have hnx:(k.next:Int)≤1024:=by have:=KnD.next_bd hk;omega
 have cX:=fun wx hr=>l2Next_any k v (rb+1) wx hk hr
 have cK:=fun wx=>l1Clear_any k.set wx hk.set
 have cE:=fun wx=>l1End_any k.set wx hk.set
 have cB:=fun w N h hN=>l1BadB_any rb B k.set w N h hN hk.set
 obtain ⟨a,cap,rfl,hc1,hc2,hc3,-⟩:=id hr
 unfold maxLen at hc2
 have hKB:KnAt w.heap.size k (.slice a k.ps.length cap) ((w.alloc (.cells #[.int .i64 k.set.ord,.int .i64 k.set.lit,.int .i64 k.set.most,.slice a k.ps.length cap,.int .i64 k.base,.int .i64 k.last] 27)).alloc (.cells #[.int .i64 0,.int .i64 0,.int .i64 0,.slice none 0 0,.int .i64 0,.int .i64 0] 27)):=box_up ((Up.refl _).alloc _) (MapKept.heap_alloc w _).1
 have hRB:KnAt (w.heap.size+1) kn0 (.slice none 0 0) ((w.alloc (.cells #[.int .i64 k.set.ord,.int .i64 k.set.lit,.int .i64 k.set.most,.slice a k.ps.length cap,.int .i64 k.base,.int .i64 k.last] 27)).alloc (.cells #[.int .i64 0,.int .i64 0,.int .i64 0,.slice none 0 0,.int .i64 0,.int .i64 0] 27)):=alloc2 w _ _
 simp only [kV,setV] at *
 clear hk hr
 go_enter Tryz.func74,Tryz.ntmps74
 go_wp2_with (first|(go_at_call 31;((with_reducible refine (pick_at (n:=40) HR.out hU (by intro c hU;(repeat (first|with_reducible assumption|with_reducible refine RdUp.set ?_ (by first|exact Nat.le_refl _|(simp only [];omega)|(simp;omega)) _|with_reducible refine RdUp.alloc ?_ _|with_reducible exact RdUp.of (Up.refl _)))) (by omega)).mono ?_);rintro e w' ⟨x,rfl,x0,x1,hU,U⟩;have D:=gcell U.1;have Z:=U.1.size;(try simp at Z);(try have Y0:w.heap.size<w'.heap.size:=(by omega));(try have Y1:w.heap.size+1<w'.heap.size:=(by omega));(try have Y2:w.heap.size+1+1<w'.heap.size:=(by omega));(try have X0:w.heap.size<w'.heap.size+1:=(by omega));(try have X1:w.heap.size+1<w'.heap.size+1:=(by omega));(try have X2:w.heap.size+1+1<w'.heap.size+1:=(by omega));((have hKB:=gbox U.1 hKB (by simp;omega);have hRB:=gbox U.1 hRB (by simp;omega);obtain ⟨hb1,q0,q1,q2,q3,q4,q5⟩:=KnAt.cells hKB;obtain ⟨hb0,s0,s1,s2,s3,s4,s5⟩:=KnAt.cells hRB;have hfr:=box_free hRB;have hfk:=box_free hKB))))|((go_at_call 130;((with_reducible refine (draw_at (cB) HR.out hU (by intro c hU;(repeat (first|with_reducible assumption|with_reducible refine RdUp.set ?_ (by first|exact Nat.le_refl _|(simp only [];omega)|(simp;omega)) _|with_reducible refine RdUp.alloc ?_ _|with_reducible exact RdUp.of (Up.refl _)))) (by omega)).mono ?_);rintro e w' ⟨v,rfl,⟨s9,rfl,hs9⟩,hU,U⟩;have D:=gcell U.1;have Z:=U.1.size;(try simp at Z);(try have Y0:w.heap.size<w'.heap.size:=(by omega));(try have Y1:w.heap.size+1<w'.heap.size:=(by omega));(try have Y2:w.heap.size+1+1<w'.heap.size:=(by omega));(try have X0:w.heap.size<w'.heap.size+1:=(by omega));(try have X1:w.heap.size+1<w'.heap.size+1:=(by omega));(try have X2:w.heap.size+1+1<w'.heap.size+1:=(by omega))));simp only [setV];(have hKB:=gbox U.1 hKB (by simp;omega);have hRB:=gbox U.1 hRB (by simp;omega);clear q0 q1 q2 q3 q4 q5 hb1 s0 s1 s2 s3 s4 s5 hb0 hfr hfk;obtain ⟨hb1,q0,q1,q2,q3,q4,q5⟩:=KnAt.cells hKB;obtain ⟨hb0,s0,s1,s2,s3,s4,s5⟩:=KnAt.cells hRB;have hfr:=box_free hRB;have hfk:=box_free hKB))|(go_at_call 85;((with_reducible refine (num_at ([-1,(k.ps.length:Int)+1,9223372036854775807]) HR.out hU (by intro c hU;(repeat (first|with_reducible assumption|with_reducible refine RdUp.set ?_ (by first|exact Nat.le_refl _|(simp only [];omega)|(simp;omega)) _|with_reducible refine RdUp.alloc ?_ _|with_reducible exact RdUp.of (Up.refl _)))) (by omega) (by first|rfl|(simp;done)|fail) (by first|rfl|(simp;done)|fail) (by first|rfl|(simp;done)|fail) (by simp) (by simp) (by first|rfl|(simp;done)|fail)).mono ?_);rintro e w' ⟨i,rfl,hi,hU,U⟩;have D:=gcell U.1;have Z:=U.1.size;(try simp at Z);(try have Y0:w.heap.size<w'.heap.size:=(by omega));(try have Y1:w.heap.size+1<w'.heap.size:=(by omega));(try have Y2:w.heap.size+1+1<w'.heap.size:=(by omega));(try have X0:w.heap.size<w'.heap.size+1:=(by omega));(try have X1:w.heap.size+1<w'.heap.size+1:=(by omega));(try have X2:w.heap.size+1+1<w'.heap.size+1:=(by omega));((have hKB:=gbox U.1 (box_up ((Up.refl _).alloc _) hKB) (by simp;omega);have hRB:=gbox U.1 (box_up ((Up.refl _).alloc _) hRB) (by simp;omega);clear q0 q1 q2 q3 q4 q5 hb1 s0 s1 s2 s3 s4 s5 hb0 hfr hfk;obtain ⟨hb1,q0,q1,q2,q3,q4,q5⟩:=KnAt.cells hKB;obtain ⟨hb0,s0,s1,s2,s3,s4,s5⟩:=KnAt.cells hRB;have hfr:=box_free hRB;have hfk:=box_free hKB)))))
 all_goals first
  |(refine bodyPost_ret (v:=_) (by simp [results,Tryz.results74,go_sem,hb0,s0,s1,s2,s3,s4,s5];rfl) rfl ?_
    first
     |(refine ⟨k,.slice a k.ps.length cap,rfl,hbk,.inl ⟨rfl,rfl⟩,?_⟩ <;> exact RdUp.fin hU (by intro c hU;(repeat (first|with_reducible assumption|with_reducible refine RdUp.set ?_ (by first|exact Nat.le_refl _|(simp only [];omega)|(simp;omega)) _|with_reducible refine RdUp.alloc ?_ _|with_reducible exact RdUp.of (Up.refl _)))) (by omega))
     |(refine ⟨⟨s9,k.ps,k.base,k.last⟩,.slice a k.ps.length cap,rfl,⟨hs9,hbk.2⟩,.inl ⟨rfl,rfl⟩,?_⟩ <;> exact RdUp.fin hU (by intro c hU;(repeat (first|with_reducible assumption|with_reducible refine RdUp.set ?_ (by first|exact Nat.le_refl _|(simp only [];omega)|(simp;omega)) _|with_reducible refine RdUp.alloc ?_ _|with_reducible exact RdUp.of (Up.refl _)))) (by omega))
     |(refine ⟨⟨k.set,k.ps,i,k.last⟩,.slice a k.ps.length cap,rfl,hbk,.inl ⟨rfl,rfl⟩,?_⟩ <;> exact RdUp.fin hU (by intro c hU;(repeat (first|with_reducible assumption|with_reducible refine RdUp.set ?_ (by first|exact Nat.le_refl _|(simp only [];omega)|(simp;omega)) _|with_reducible refine RdUp.alloc ?_ _|with_reducible exact RdUp.of (Up.refl _)))) (by omega)))
  |skip
 ·skip
  have hr2:=hU.2 _ h
  refine wp_region_rd 12 rb B 1 _ (by kernel_rfl) (by kernel_rfl) hr2 ?_
  simp only [List.take,List.drop]
  repeat (refine wpR_step (fun K hK=>?_);go_simp;(try simp only [↓IntWalk.iteOmega]);first
   |(refine hK _ _ ?_;clear hK K)
   |(refine stepR_c ?_ ?_ ?_
     rotate_left
     ·intro wq hwq hrq;(have hbq:=gcell hwq;(repeat (first|refine fills_no (by rfl) ?_|(refine fills_yes (by rfl) (fun vq hvq=>?_);(try ((with_reducible have hvi:RdInts rb wq vq [-1,-2,((clr k.set:Nat):Int),((clr k.set:Nat):Int)+1,((k.next:Nat):Int),9223372036854775807]:=hvq))))));simp only [List.filter_nil,fills];unfold upAt;(try ((obtain ⟨-,r0,r1,r2,r3,r4,r5⟩:=KnAt.cells (gbox hwq hKB (by simp;omega)))));go_simp;(try go_bits);(try simp only [↓IntWalk.iteOmega]);first|exact upOut_value|(apply upOut_call;(go_at_call 86;exact cK _))|(apply upOut_call;(go_at_call 131;exact cE _))|(apply upOut_call;(go_at_call 108;exact cX _ (hrt _ (grownBy_trans hU.1 hwq)))))
     go_simp;refine hK _ _ ?_;clear hK K)
   |(refine stepR_m (by kernel_rfl) ?_ ?_ (fun wq hwq hrq=>?_) ?_
     rotate_left 2
     ·(have hbq:=gcell hwq;(repeat (first|refine fills_no (by rfl) ?_|(refine fills_yes (by rfl) (fun vq hvq=>?_);(try ((with_reducible have hvi:RdInts rb wq vq [-1,-2,((clr k.set:Nat):Int),((clr k.set:Nat):Int)+1,((k.next:Nat):Int),9223372036854775807]:=hvq))))));simp only [List.filter_nil,fills];unfold upAt;(try ((obtain ⟨-,r0,r1,r2,r3,r4,r5⟩:=KnAt.cells (gbox hwq hKB (by simp;omega)))));go_simp;(try go_bits);(try simp only [↓IntWalk.iteOmega]);first|((with_reducible refine upOut_D ((fun v w=>RdInts rb w v [-1,-2,((clr k.set:Nat):Int),((clr k.set:Nat):Int)+1,((k.next:Nat):Int),9223372036854775807])) ?_);(((with_reducible refine upOut_make ((Up.refl _).alloc _) ?_);exact rdInts_new [-1,-2,((clr k.set:Nat):Int),((clr k.set:Nat):Int)+1,((k.next:Nat):Int),9223372036854775807] rfl (by simp) rfl rfl hrq.lt))))
     rotate_left
     ·(first|exact (fun _ _ _ h _=>h)|exact ((fun v w w' h hg=>RdInts.gr h hg)))
     refine hK _ _ ?_;clear hK K)
   |(refine stepR_d (by rfl) (by kernel_rfl) (fun v _=>oneOf [-1,-2,((clr k.set:Nat):Int),((clr k.set:Nat):Int)+1,((k.next:Nat):Int),9223372036854775807] v) (fun _ _ _ h _=>h) (fun wq hwq hrq=>?_) ?_
     ·(have hbq:=gcell hwq;(repeat (first|refine fills_no (by rfl) ?_|(refine fills_yes (by rfl) (fun vq hvq=>?_);(try ((with_reducible have hvi:RdInts rb wq vq [-1,-2,((clr k.set:Nat):Int),((clr k.set:Nat):Int)+1,((k.next:Nat):Int),9223372036854775807]:=hvq))))));simp only [List.filter_nil,fills];unfold gAt;(try ((obtain ⟨-,r0,r1,r2,r3,r4,r5⟩:=KnAt.cells (gbox hwq hKB (by simp;omega)))));go_simp;(try go_bits);(try simp only [↓IntWalk.iteOmega]);(with_reducible refine gOut_drawn ((num_any rb B [-1,-2,((clr k.set:Nat):Int),((clr k.set:Nat):Int)+1,((k.next:Nat):Int),9223372036854775807] _ wq _ hrq (by omega) hvi (by simp))) ?_);decide)
     refine hK _ _ ?_;clear hK K))
  refine wpR_nil (fun wq hwq hrq=>?_)
  simp only [fills]
  rintro u ⟨i,rfl,hi⟩
  intros
  have hU:=RdUp.made (C:=40) HM (grownBy_trans hU.1 hwq) hrq (by omega)
  have hKB:=gbox hwq hKB (by simp;omega)
  have hRB:=gbox hwq hRB (by simp;omega)
  clear q0 q1 q2 q3 q4 q5 hb1 s0 s1 s2 s3 s4 s5 hb0 hfr hfk
  obtain ⟨hb1,q0,q1,q2,q3,q4,q5⟩:=KnAt.cells hKB;obtain ⟨hb0,s0,s1,s2,s3,s4,s5⟩:=KnAt.cells hRB;have hfr:=box_free hRB;have hfk:=box_free hKB
  go_wp2
  rw [onlyN_normal]
  go_wp2
  refine bodyPost_ret (v:=_) (by simp [results,Tryz.results74,go_sem,hb0,s0,s1,s2,s3,s4,s5];rfl) rfl ?_
  refine ⟨⟨k.set,k.ps,k.base,i⟩,.slice a k.ps.length cap,rfl,hbk,.inl ⟨rfl,rfl⟩,?_⟩ <;> exact RdUp.fin hU (by intro c hU;(repeat (first|with_reducible assumption|with_reducible refine RdUp.set ?_ (by first|exact Nat.le_refl _|(simp only [];omega)|(simp;omega)) _|with_reducible refine RdUp.alloc ?_ _|with_reducible exact RdUp.of (Up.refl _)))) (by omega)
 ·skip
  have hr2:=hU.2 _ h
  have hbw:w.heap.size+1<w'.heap.size:=by omega
  have hrw:rb<w'.heap.size:=by omega
  refine wp_region_rk 10 8 rb B 1 _ (DDp w'.heap.size k.ps (fun _=>True) []) (by kernel_rfl) (by kernel_rfl) hr2 ?_
  simp only [List.take,List.drop]
  iterate 9 (refine wpK_step (fun K hK=>?_);go_simp;(try simp only [↓IntWalk.iteOmega]);first
   |(refine hK _ _ ?_;clear hK K)
   |(refine stepK_own (by rfl) (by kernel_rfl) (DDp w'.heap.size k.ps (fun _=>True) [] 8) (ddp_closed hrw 8 _) (fun wq hwq hrq=>?_) ?_
     ·((repeat (first|refine fills_no (by rfl) ?_|(refine fills_yes (by rfl) (fun vq hvq=>?_);(try ((first|(with_reducible have h0q:DDp w'.heap.size k.ps (fun _=>True) [] 0 vq wq:=hvq)|(with_reducible have h3q:DDp w'.heap.size k.ps (fun _=>True) [] 3 vq wq:=hvq)|(with_reducible have h7q:DDp w'.heap.size k.ps (fun _=>True) [] 7 vq wq:=hvq)))))));simp only [List.filter_nil,fills];exact gAt_append_keep (.tmp 43) (.tmp 47) (by rfl) _ _ k.ps (by rfl) h3q (by rfl) h7q (by omega) hrw hwq.size)
     refine hK _ _ ?_;clear hK K)
   |(refine stepK_at 3 (by rfl) (by rfl) (by kernel_rfl) (DDp w'.heap.size k.ps (fun _=>True) [] 3) (ddp_closed hrw 3 _) (fun wq hwq hrq=>?_) ?_
     ·(have hbq:=gcell hwq;(repeat (first|refine fills_no (by rfl) ?_|(refine fills_yes (by rfl) (fun vq hvq=>?_);(try ((first|(with_reducible have h0q:DDp w'.heap.size k.ps (fun _=>True) [] 0 vq wq:=hvq)|(with_reducible have h3q:DDp w'.heap.size k.ps (fun _=>True) [] 3 vq wq:=hvq)|(with_reducible have h7q:DDp w'.heap.size k.ps (fun _=>True) [] 7 vq wq:=hvq)))))));simp only [List.filter_nil,fills];(obtain ⟨gq,eq1,hq1⟩:=h0q;exact upAt_copy (.tmp 40) (.tmp 42) (by rfl) w'.heap.size (rb+1) (by rfl) (by rfl) eq1 hq1 k.ps (hrt _ (grownBy_trans hU.1 hwq)) (by omega) hwq.size))
     refine hK _ _ ?_;clear hK K)
   |(refine stepK_c (by rfl) ?_ ?_ ?_
     rotate_left
     ·intro wq hwq hrq;(have hbq:=gcell hwq;(repeat (first|refine fills_no (by rfl) ?_|(refine fills_yes (by rfl) (fun vq hvq=>?_);(try ((first|(with_reducible have h0q:DDp w'.heap.size k.ps (fun _=>True) [] 0 vq wq:=hvq)|(with_reducible have h3q:DDp w'.heap.size k.ps (fun _=>True) [] 3 vq wq:=hvq)|(with_reducible have h7q:DDp w'.heap.size k.ps (fun _=>True) [] 7 vq wq:=hvq)))))));simp only [List.filter_nil,fills];unfold upAt;(try ((obtain ⟨-,r0,r1,r2,r3,r4,r5⟩:=KnAt.cells (gbox hwq hKB (by simp;omega)))));go_simp;(try go_bits);(try simp only [↓IntWalk.iteOmega]);first|exact upOut_value|(apply upOut_call;(go_at_call 108;exact cX _ (hrt _ (grownBy_trans hU.1 hwq)))))
     go_simp;refine hK _ _ ?_;clear hK K)
   |(refine stepK_m (by rfl) (by kernel_rfl) (DDp w'.heap.size k.ps (fun _=>True) [] 0) (ddp_closed hrw 0 _) (fun wq hwq hrq=>?_) ?_
     ·(have hbq:=gcell hwq;(repeat (first|refine fills_no (by rfl) ?_|(refine fills_yes (by rfl) (fun vq hvq=>?_);(try ((first|(with_reducible have h0q:DDp w'.heap.size k.ps (fun _=>True) [] 0 vq wq:=hvq)|(with_reducible have h3q:DDp w'.heap.size k.ps (fun _=>True) [] 3 vq wq:=hvq)|(with_reducible have h7q:DDp w'.heap.size k.ps (fun _=>True) [] 7 vq wq:=hvq)))))));simp only [List.filter_nil,fills];unfold upAt;(try ((obtain ⟨-,r0,r1,r2,r3,r4,r5⟩:=KnAt.cells (gbox hwq hKB (by simp;omega)))));go_simp;(try go_bits);(try simp only [↓IntWalk.iteOmega]);(((with_reducible refine upOut_make ((Up.refl _).alloc _) ?_);exact mtP_new hwq.size)))
     refine hK _ _ ?_;clear hK K)
   |(refine stepK_m (by rfl) (by kernel_rfl) (DDp w'.heap.size k.ps (fun _=>True) [] 7) (ddp_closed hrw 7 _) (fun wq hwq hrq=>?_) ?_
     ·(have hbq:=gcell hwq;(repeat (first|refine fills_no (by rfl) ?_|(refine fills_yes (by rfl) (fun vq hvq=>?_);(try ((first|(with_reducible have h0q:DDp w'.heap.size k.ps (fun _=>True) [] 0 vq wq:=hvq)|(with_reducible have h3q:DDp w'.heap.size k.ps (fun _=>True) [] 3 vq wq:=hvq)|(with_reducible have h7q:DDp w'.heap.size k.ps (fun _=>True) [] 7 vq wq:=hvq)))))));simp only [List.filter_nil,fills];unfold upAt;(try ((obtain ⟨-,r0,r1,r2,r3,r4,r5⟩:=KnAt.cells (gbox hwq hKB (by simp;omega)))));go_simp;(try go_bits);(try simp only [↓IntWalk.iteOmega]);(((with_reducible refine upOut_make ((Up.refl _).alloc _) ?_);exact ddp_pair ⟨k.next,0⟩ trivial hwq.size)))
     refine hK _ _ ?_;clear hK K))
  refine wpK_step (fun K hK=>?_)
  go_simp
  refine stepK_c (by rfl) (.pointer (some ⟨w.heap.size,3,none⟩)) (fun wq hwq hrq=>fills_same 3 _ _ ?_ (fun a' ha=>?_)) ?_
  ·refine not_dst ?_
   simp
  ·have ha':a'.tmps.getD 3 undef= .pointer (some ⟨w.heap.size,0,none⟩):=ha
   unfold upAt execOp
   simp only [Act.eval,ha']
   go_simp
   exact upOut_value
  refine hK _ _ ?_
  clear hK K
  refine wpK_nil (fun wq hwq hrq=>?_)
  simp only [fills]
  rintro u ⟨q,-,hq⟩
  intros
  have hU:=RdUp.made (C:=40) HM (grownBy_trans hU.1 hwq) hrq (by omega)
  have hKB:=gbox hwq hKB (by simp;omega)
  have hRB:=gbox hwq hRB (by simp;omega)
  have hrq9:=RdP.of_own hq
  have hlq:(k.ps++ [q]).length=k.ps.length+1:=by simp
  obtain ⟨a9,c9,rfl⟩:=ownsRow_shape hq
  rw [hlq] at hrq9
  clear q0 q1 q2 q3 q4 q5 hb1 s0 s1 s2 s3 s4 s5 hb0 hfr hfk hq
  obtain ⟨hb1,q0,q1,q2,q3,q4,q5⟩:=KnAt.cells hKB;obtain ⟨hb0,s0,s1,s2,s3,s4,s5⟩:=KnAt.cells hRB;have hfr:=box_free hRB;have hfk:=box_free hKB
  go_wp2
  rw [onlyN_normal]
  go_wp2
  refine bodyPost_ret (v:=_) (by simp [results,Tryz.results74,go_sem,hb0,s0,s1,s2,s3,s4,s5];rfl) rfl ?_
  refine ⟨⟨k.set,k.ps++ [q],k.base,k.last⟩,_,rfl,⟨hbk.1,by show (k.ps++ [q]).length≤1100;omega⟩,.inr (RdP.low (lo:=w'.heap.size) ?_ (by omega)),by exact RdUp.fin hU (by intro c hU;(repeat (first|with_reducible assumption|with_reducible refine RdUp.set ?_ (by first|exact Nat.le_refl _|(simp only [];omega)|(simp;omega)) _|with_reducible refine RdUp.alloc ?_ _|with_reducible exact RdUp.of (Up.refl _)))) (by omega)⟩
  (repeat (with_reducible refine RdP.set ?_ (by omega) _ _));exact hrq9
 ·skip
  obtain ⟨LL,hLL⟩: ∃ LL:List Value,Hid (LL= [.int .i64 (-1),.int .i64 ((clr k.set:Nat):Int)]):=⟨_,rfl⟩
  have hr2:=hU.2 _ h
  have hbw:w.heap.size+1<w'.heap.size:=by omega
  have hrw:rb<w'.heap.size:=by omega
  refine wp_region_rk 14 12 rb B 1 _ (DDp w'.heap.size k.ps (fun _=>True) LL) (by kernel_rfl) (by kernel_rfl) hr2 ?_
  simp only [List.take,List.drop]
  iterate 12 (refine wpK_step (fun K hK=>?_);go_simp;(try simp only [↓IntWalk.iteOmega]);first
   |(refine hK _ _ ?_;clear hK K)
   |(refine stepK_own (by rfl) (by kernel_rfl) (DDp w'.heap.size k.ps (fun _=>True) LL 8) (ddp_closed hrw 8 _) (fun wq hwq hrq=>?_) ?_
     ·((repeat (first|refine fills_no (by rfl) ?_|(refine fills_yes (by rfl) (fun vq hvq=>?_);(try ((first|(with_reducible have h1q:DDp w'.heap.size k.ps (fun _=>True) LL 1 vq wq:=hvq)|(with_reducible have h0q:DDp w'.heap.size k.ps (fun _=>True) LL 0 vq wq:=hvq)|(with_reducible have h3q:DDp w'.heap.size k.ps (fun _=>True) LL 3 vq wq:=hvq)|(with_reducible have h7q:DDp w'.heap.size k.ps (fun _=>True) LL 7 vq wq:=hvq)|(obtain ⟨y,rfl,hy⟩:=hvq)|(obtain ⟨y,rfl⟩:=hvq)))))));simp only [List.filter_nil,fills];exact gAt_append_keep (.tmp 55) (.tmp 63) (by rfl) _ _ k.ps (by rfl) h3q (by rfl) h7q (by omega) hrw hwq.size)
     refine hK _ _ ?_;clear hK K)
   |(refine stepK_at 3 (by rfl) (by rfl) (by kernel_rfl) (DDp w'.heap.size k.ps (fun _=>True) LL 3) (ddp_closed hrw 3 _) (fun wq hwq hrq=>?_) ?_
     ·(have hbq:=gcell hwq;(repeat (first|refine fills_no (by rfl) ?_|(refine fills_yes (by rfl) (fun vq hvq=>?_);(try ((first|(with_reducible have h1q:DDp w'.heap.size k.ps (fun _=>True) LL 1 vq wq:=hvq)|(with_reducible have h0q:DDp w'.heap.size k.ps (fun _=>True) LL 0 vq wq:=hvq)|(with_reducible have h3q:DDp w'.heap.size k.ps (fun _=>True) LL 3 vq wq:=hvq)|(with_reducible have h7q:DDp w'.heap.size k.ps (fun _=>True) LL 7 vq wq:=hvq)|(obtain ⟨y,rfl,hy⟩:=hvq)|(obtain ⟨y,rfl⟩:=hvq)))))));simp only [List.filter_nil,fills];(obtain ⟨gq,eq1,hq1⟩:=h0q;exact upAt_copy (.tmp 52) (.tmp 54) (by rfl) w'.heap.size (rb+1) (by rfl) (by rfl) eq1 hq1 k.ps (hrt _ (grownBy_trans hU.1 hwq)) (by omega) hwq.size))
     refine hK _ _ ?_;clear hK K)
   |(refine stepK_c (by rfl) ?_ ?_ ?_
     rotate_left
     ·intro wq hwq hrq;(have hbq:=gcell hwq;(repeat (first|refine fills_no (by rfl) ?_|(refine fills_yes (by rfl) (fun vq hvq=>?_);(try ((first|(with_reducible have h1q:DDp w'.heap.size k.ps (fun _=>True) LL 1 vq wq:=hvq)|(with_reducible have h0q:DDp w'.heap.size k.ps (fun _=>True) LL 0 vq wq:=hvq)|(with_reducible have h3q:DDp w'.heap.size k.ps (fun _=>True) LL 3 vq wq:=hvq)|(with_reducible have h7q:DDp w'.heap.size k.ps (fun _=>True) LL 7 vq wq:=hvq)|(obtain ⟨y,rfl,hy⟩:=hvq)|(obtain ⟨y,rfl⟩:=hvq)))))));simp only [List.filter_nil,fills];unfold upAt;(try ((obtain ⟨-,r0,r1,r2,r3,r4,r5⟩:=KnAt.cells (gbox hwq hKB (by simp;omega)))));go_simp;(try go_bits);(try simp only [↓IntWalk.iteOmega]);first|exact upOut_value|(apply upOut_call;(go_at_call 86;exact cK _)))
     go_simp;refine hK _ _ ?_;clear hK K)
   |(refine stepK_m (by rfl) (by kernel_rfl) (DDp w'.heap.size k.ps (fun _=>True) LL 0) (ddp_closed hrw 0 _) (fun wq hwq hrq=>?_) ?_
     ·(have hbq:=gcell hwq;(repeat (first|refine fills_no (by rfl) ?_|(refine fills_yes (by rfl) (fun vq hvq=>?_);(try ((first|(with_reducible have h1q:DDp w'.heap.size k.ps (fun _=>True) LL 1 vq wq:=hvq)|(with_reducible have h0q:DDp w'.heap.size k.ps (fun _=>True) LL 0 vq wq:=hvq)|(with_reducible have h3q:DDp w'.heap.size k.ps (fun _=>True) LL 3 vq wq:=hvq)|(with_reducible have h7q:DDp w'.heap.size k.ps (fun _=>True) LL 7 vq wq:=hvq)|(obtain ⟨y,rfl,hy⟩:=hvq)|(obtain ⟨y,rfl⟩:=hvq)))))));simp only [List.filter_nil,fills];unfold upAt;(try ((obtain ⟨-,r0,r1,r2,r3,r4,r5⟩:=KnAt.cells (gbox hwq hKB (by simp;omega)))));go_simp;(try go_bits);(try simp only [↓IntWalk.iteOmega]);(((with_reducible refine upOut_make ((Up.refl _).alloc _) ?_);exact mtP_new hwq.size)))
     refine hK _ _ ?_;clear hK K)
   |(refine stepK_m (by rfl) (by kernel_rfl) (DDp w'.heap.size k.ps (fun _=>True) LL 7) (ddp_closed hrw 7 _) (fun wq hwq hrq=>?_) ?_
     ·(have hbq:=gcell hwq;(repeat (first|refine fills_no (by rfl) ?_|(refine fills_yes (by rfl) (fun vq hvq=>?_);(try ((first|(with_reducible have h1q:DDp w'.heap.size k.ps (fun _=>True) LL 1 vq wq:=hvq)|(with_reducible have h0q:DDp w'.heap.size k.ps (fun _=>True) LL 0 vq wq:=hvq)|(with_reducible have h3q:DDp w'.heap.size k.ps (fun _=>True) LL 3 vq wq:=hvq)|(with_reducible have h7q:DDp w'.heap.size k.ps (fun _=>True) LL 7 vq wq:=hvq)|(obtain ⟨y,rfl,hy⟩:=hvq)|(obtain ⟨y,rfl⟩:=hvq)))))));simp only [List.filter_nil,fills];unfold upAt;(try ((obtain ⟨-,r0,r1,r2,r3,r4,r5⟩:=KnAt.cells (gbox hwq hKB (by simp;omega)))));go_simp;(try go_bits);(try simp only [↓IntWalk.iteOmega]);(((with_reducible refine upOut_make ((Up.refl _).alloc _) ?_);exact ddp_pair ⟨0,y⟩ trivial hwq.size)))
     refine hK _ _ ?_;clear hK K)
   |(refine stepK_m (by rfl) (by kernel_rfl) (DDp w'.heap.size k.ps (fun _=>True) LL 1) (ddp_closed hrw 1 _) (fun wq hwq hrq=>?_) ?_
     ·(have hbq:=gcell hwq;(repeat (first|refine fills_no (by rfl) ?_|(refine fills_yes (by rfl) (fun vq hvq=>?_);(try ((first|(with_reducible have h1q:DDp w'.heap.size k.ps (fun _=>True) LL 1 vq wq:=hvq)|(with_reducible have h0q:DDp w'.heap.size k.ps (fun _=>True) LL 0 vq wq:=hvq)|(with_reducible have h3q:DDp w'.heap.size k.ps (fun _=>True) LL 3 vq wq:=hvq)|(with_reducible have h7q:DDp w'.heap.size k.ps (fun _=>True) LL 7 vq wq:=hvq)|(obtain ⟨y,rfl,hy⟩:=hvq)|(obtain ⟨y,rfl⟩:=hvq)))))));simp only [List.filter_nil,fills];unfold upAt;(try ((obtain ⟨-,r0,r1,r2,r3,r4,r5⟩:=KnAt.cells (gbox hwq hKB (by simp;omega)))));go_simp;(try go_bits);(try simp only [↓IntWalk.iteOmega]);(((with_reducible refine upOut_make ((Up.refl _).alloc _) ?_);rw [hLL.out];exact ddp_ints (-1) ((clr k.set:Nat):Int) hwq.size)))
     refine hK _ _ ?_;clear hK K)
   |(refine stepK_m (by rfl) (by kernel_rfl) ((fun v _=> ∃ y:Int,v= .agg #[.int .i64 0,.int .i64 y])) ((fun _ _ _ h _=>h)) (fun wq hwq hrq=>?_) ?_
     ·(have hbq:=gcell hwq;(repeat (first|refine fills_no (by rfl) ?_|(refine fills_yes (by rfl) (fun vq hvq=>?_);(try ((first|(with_reducible have h1q:DDp w'.heap.size k.ps (fun _=>True) LL 1 vq wq:=hvq)|(with_reducible have h0q:DDp w'.heap.size k.ps (fun _=>True) LL 0 vq wq:=hvq)|(with_reducible have h3q:DDp w'.heap.size k.ps (fun _=>True) LL 3 vq wq:=hvq)|(with_reducible have h7q:DDp w'.heap.size k.ps (fun _=>True) LL 7 vq wq:=hvq)|(obtain ⟨y,rfl,hy⟩:=hvq)|(obtain ⟨y,rfl⟩:=hvq)))))));simp only [List.filter_nil,fills];unfold upAt;(try ((obtain ⟨-,r0,r1,r2,r3,r4,r5⟩:=KnAt.cells (gbox hwq hKB (by simp;omega)))));go_simp;(try go_bits);(try simp only [↓IntWalk.iteOmega]);(((with_reducible refine upOut_make (Up.refl _) ?_);exact ⟨_,rfl⟩)))
     refine hK _ _ ?_;clear hK K)
   |(refine stepK_d (by rfl) (by rfl) (by kernel_rfl) (fun v _=>oneOf [-1,((clr k.set:Nat):Int)] v) (fun _ _ _ h _=>h) (fun wq hwq hrq=>?_) ?_
     ·(have hbq:=gcell hwq;(repeat (first|refine fills_no (by rfl) ?_|(refine fills_yes (by rfl) (fun vq hvq=>?_);(try ((first|(with_reducible have h1q:DDp w'.heap.size k.ps (fun _=>True) LL 1 vq wq:=hvq)|(with_reducible have h0q:DDp w'.heap.size k.ps (fun _=>True) LL 0 vq wq:=hvq)|(with_reducible have h3q:DDp w'.heap.size k.ps (fun _=>True) LL 3 vq wq:=hvq)|(with_reducible have h7q:DDp w'.heap.size k.ps (fun _=>True) LL 7 vq wq:=hvq)|(obtain ⟨y,rfl,hy⟩:=hvq)|(obtain ⟨y,rfl⟩:=hvq)))))));simp only [List.filter_nil,fills];unfold gAt;(try ((obtain ⟨-,r0,r1,r2,r3,r4,r5⟩:=KnAt.cells (gbox hwq hKB (by simp;omega)))));go_simp;(try go_bits);(try simp only [↓IntWalk.iteOmega]);(with_reducible refine gOut_drawn ((num_any rb B [-1,((clr k.set:Nat):Int)] _ wq _ hrq (by omega) (ddp_rd (x:= -1) (y:=((clr k.set:Nat):Int)) (by rw [← hLL.out];exact h1q) hrw) (by simp))) ?_);decide)
     refine hK _ _ ?_;clear hK K))
  refine wpK_step (fun K hK=>?_)
  go_simp
  refine stepK_own (by rfl) (by kernel_rfl) (DDp w'.heap.size k.ps (fun _=>True) LL 8) (ddp_closed hrw 8 _) (fun wq hwq hrq=>fills_get _ _ ?_ (fun a' h1 h2=>?_)) ?_
  ·refine List.Nodup.sublist (List.Sublist.map _ (List.filter_sublist ..)) ?_
   simp
  ·have h3q:=h1 (3,some 55,(DDp w'.heap.size k.ps (fun _=>True) LL) 3) (List.mem_filter.2 ⟨by simp,by rfl⟩) 55 rfl (by simp)
   have h7q:=h1 (11,some 63,(DDp w'.heap.size k.ps (fun _=>True) LL) 7) (List.mem_filter.2 ⟨by simp,by rfl⟩) 63 rfl (by simp)
   exact gAt_append_keep (.tmp 55) (.tmp 63) (by rfl) _ _ k.ps (by rfl) h3q (by rfl) h7q (by omega) hrw hwq.size
  refine hK _ _ ?_
  clear hK K
  refine wpK_step (fun K hK=>?_)
  go_simp
  with_reducible refine stepK_c ?_ (.pointer (some ⟨w.heap.size,3,none⟩)) ?_ ?_
  ·rfl
  ·intro wq hwq hrq
   with_reducible refine fills_same 3 _ _ ?_ ?_
   ·with_reducible refine not_dst ?_
    simp
   ·intro a' ha
    have ha':a'.tmps.getD 3 undef= .pointer (some ⟨w.heap.size,0,none⟩):=ha
    unfold upAt execOp
    simp only [Act.eval,ha']
    go_simp
    exact upOut_value
  refine hK _ _ ?_
  clear hK K
  refine wpK_nil (fun wq hwq hrq=>?_)
  simp only [fills]
  rintro u ⟨q,-,hq⟩
  intros
  have hU:=RdUp.made (C:=40) HM (grownBy_trans hU.1 hwq) hrq (by omega)
  have hKB:=gbox hwq hKB (by simp;omega)
  have hRB:=gbox hwq hRB (by simp;omega)
  have hrq9:=RdP.of_own hq
  have hlq:(k.ps++ [q]).length=k.ps.length+1:=by simp
  obtain ⟨a9,c9,rfl⟩:=ownsRow_shape hq
  rw [hlq] at hrq9
  clear q0 q1 q2 q3 q4 q5 hb1 s0 s1 s2 s3 s4 s5 hb0 hfr hfk hq
  obtain ⟨hb1,q0,q1,q2,q3,q4,q5⟩:=KnAt.cells hKB;obtain ⟨hb0,s0,s1,s2,s3,s4,s5⟩:=KnAt.cells hRB;have hfr:=box_free hRB;have hfk:=box_free hKB
  go_wp2
  rw [onlyN_normal]
  go_wp2
  refine bodyPost_ret (v:=_) (by simp [results,Tryz.results74,go_sem,hb0,s0,s1,s2,s3,s4,s5];rfl) rfl ?_
  refine ⟨⟨k.set,k.ps++ [q],k.base,k.last⟩,_,rfl,⟨hbk.1,by show (k.ps++ [q]).length≤1100;omega⟩,.inr (RdP.low (lo:=w'.heap.size) ?_ (by omega)),by exact RdUp.fin hU (by intro c hU;(repeat (first|with_reducible assumption|with_reducible refine RdUp.set ?_ (by first|exact Nat.le_refl _|(simp only [];omega)|(simp;omega)) _|with_reducible refine RdUp.alloc ?_ _|with_reducible exact RdUp.of (Up.refl _)))) (by omega)⟩
  (repeat (with_reducible refine RdP.set ?_ (by omega) _ _));exact hrq9
theorem l2Bad_any (k:KnD) (v:Value) (rb:Nat) (B:Value) (w:World) (N:Nat) (h:Rdr rb B w N) (hN:N≤900000000) (hk:k.Ok) (hr:RdP (rb+1) w v k.ps) :
  Calls Tryz.prog 74  #[.pointer (some ⟨rb,0,none⟩),kV k v] w (DrawnK rb B 40 BadK w) :=
 (l2BadB_any k v rb B w N h hN hk hr).mono fun e w' ⟨k',v',he,hb,hp,hu⟩=>⟨k',v',he,hb,by
  rcases hp with ⟨h1,h2⟩|h1
  ·rw [h1,h2];exact hr.gr hu.1 (Nat.lt_succ_self rb)
  ·exact h1.low h.lt,hu⟩
end Go.Proofs.YtekogcjdaolcbaaGreatDoor
/- Walk of the reference's DrawGreedyCodes and DrawCompress. Conditions: the argument can be read. -/
namespace Go.Proofs.YtekogcjdaolcbaaGreatDoor
open Go Go.RowKit
theorem RdUp.r {rb:Nat} {B:Value} {c N:Nat} {w w':World} (h:RdUp rb B c w w') (hr:Rdr rb B w N):Rdr rb B w' (N+c):=h.2 _ hr
end Go.Proofs.YtekogcjdaolcbaaGreatDoor
/- Plain: the words that are known are closed under prefixes, and so the longest word of a text that goes on is that of the text, if that one ends within it (for the writers). Conditions: as each says. -/
namespace Go.Proofs.YtekogcjdaolcbaaGreatDoor
open Go.RowKit
def KnD.isW (k:KnD) (w:List UInt8):Prop:=w.length=1∨ ∃ j,j<k.cnt∧k.any ((k.c:Int)+2+j)=w
theorem KnD.any_pair {k:KnD} (h:k.Ok) {j:Nat} (hj:j<k.ps.length):k.any ((k.c:Int)+2+j)=k.word k.ps[j].pre++ [ub k.ps[j].byt]:=by
 rw [KnD.any_word (by rw [codeOk_iff];omega)]
 exact wordP_pair h.ps hj
theorem KnD.pre_pair {k:KnD} (h:k.Ok): ∀ (j:Nat),j<k.ps.length→ ∀ m,1≤m→m≤(k.any ((k.c:Int)+2+j)).length→k.isW ((k.any ((k.c:Int)+2+j)).take m):=by
 intro j
 induction j using Nat.strongRecOn with
 |ind j ih =>
  intro hj m h1 hm
  have hcnt:j<k.cnt:=by rw [KnD.cnt_eq];omega
  by_cases hme:m=(k.any ((k.c:Int)+2+j)).length
  ·exact .inr ⟨j,hcnt,by rw [hme,List.take_length]⟩
  ·have ha:=KnD.any_pair h hj
   obtain ⟨hp,-,-⟩:=h.ps.get hj
   rw [ha] at hm hme ⊢
   rw [List.length_append] at hm hme
   simp only [List.length_cons,List.length_nil] at hm hme
   rw [List.take_append_of_le_length (by omega)]
   rcases (codeOk_iff.1 hp) with ⟨p0,p1⟩|⟨p0,p1⟩
   ·have hw:k.word k.ps[j].pre= [ub k.ps[j].pre]:=wordP_lit p1
    rw [hw] at hm ⊢
    left
    simp at hm ⊢
    omega
   ·obtain ⟨i,hi⟩: ∃ i:Nat,k.ps[j].pre=(k.c:Int)+2+i:=⟨(k.ps[j].pre - ((k.c:Int)+2)).toNat,by omega⟩
    have hij:i<j:=by omega
    have hai:k.any ((k.c:Int)+2+i)=k.word ((k.c:Int)+2+i):=KnD.any_word (by rw [codeOk_iff];omega)
    have:=ih i hij (by omega) m h1 (by rw [hai,←hi];omega)
    rw [hai,←hi] at this
    exact this
theorem KnD.pre_any {k:KnD} (h:k.Ok) {j:Nat} (hj:j<k.cnt) {m:Nat} (h1:1≤m) (hm:m≤(k.any ((k.c:Int)+2+j)).length):k.isW ((k.any ((k.c:Int)+2+j)).take m):=by
 by_cases hp:j<k.ps.length
 ·exact KnD.pre_pair h j hp m h1 hm
 ·rw [KnD.cnt_eq] at hj
  have hg:k.grow=true:=by
   cases hg:k.grow
   ·rw [hg] at hj;simp at hj;omega
   ·rfl
  rw [hg] at hj
  simp at hj
  have hjl:j=k.ps.length:=by omega
  by_cases hme:m=(k.any ((k.c:Int)+2+j)).length
  ·exact .inr ⟨j,by rw [KnD.cnt_eq,hg];simp;omega,by rw [hme,List.take_length]⟩
  ·have hn:(k.c:Int)+2+j=(k.next:Int):=by unfold KnD.next;omega
   have ha:k.any ((k.c:Int)+2+j)=k.word k.last++(k.word k.last).take 1:=by
    rw [hn];unfold KnD.any;rw [if_pos rfl]
   have hlo:=h.lastOk hg
   rw [ha] at hm hme ⊢
   rw [List.length_append,List.length_take] at hm hme
   rw [List.take_append_of_le_length (by omega)]
   rcases (codeOk_iff.1 hlo) with ⟨p0,p1⟩|⟨p0,p1⟩
   ·have hw:k.word k.last= [ub k.last]:=wordP_lit p1
    rw [hw] at hm hme ⊢
    left
    simp at hm hme ⊢
    omega
   ·obtain ⟨i,hi⟩: ∃ i:Nat,k.last=(k.c:Int)+2+i:=⟨(k.last - ((k.c:Int)+2)).toNat,by omega⟩
    have hai:k.any ((k.c:Int)+2+i)=k.word ((k.c:Int)+2+i):=KnD.any_word (by rw [codeOk_iff];omega)
    have:=KnD.pre_pair h i (by omega) m h1 (by rw [hai,←hi];omega)
    rw [hai,←hi] at this
    exact this
theorem KnD.longN_most {k:KnD} {d:List UInt8} : ∀ (n j:Nat),j<n→(k.any ((k.c:Int)+2+j)).length≤d.length→d.take (k.any ((k.c:Int)+2+j)).length=k.any ((k.c:Int)+2+j)→(k.any ((k.c:Int)+2+j)).length≤(k.longN d n).length:=by
 intro n
 induction n with
 |zero=>intro j hj;exact absurd hj (Nat.not_lt_zero _)
 |succ n ih =>
  intro j hj h1 h2
  rw [KnD.longN]
  by_cases hjn:j=n
  ·subst hjn
   split
   ·exact Nat.le_refl _
   ·next h=>exact Nat.le_of_not_lt fun hlt=>h ⟨hlt,h1,h2⟩
  ·have:=ih j (by omega) h1 h2
   split
   ·next h=>omega
   ·exact this
theorem KnD.longest_isW {k:KnD} {d:List UInt8} (hd:d≠ []):k.isW (k.longest d):=by
 unfold KnD.longest
 rcases KnD.longN_cases (k:=k) (d:=d) k.cnt with h|⟨j,h1,h2,-,-⟩
 ·left
  rw [h,List.length_take]
  cases d with
  |nil=>exact absurd rfl hd
  |cons b l=>simp
 ·exact .inr ⟨j,h1,h2.symm⟩
theorem KnD.isW_le {k:KnD} {d w:List UInt8} (hd:d≠ []) (hw:k.isW w) (hl:w.length≤d.length) (ht:d.take w.length=w):w.length≤(k.longest d).length:=by
 rcases hw with h|⟨j,hj,rfl⟩
 ·have:=KnD.longest_pos (k:=k) hd
  omega
 ·exact KnD.longN_most k.cnt j hj hl ht
theorem KnD.longest_more {k:KnD} (h:k.Ok) {d:List UInt8} (e:List UInt8) (hd:d≠ []) (hn:k.longest d≠d):k.longest (d++e)=k.longest d:=by
 have hde:d++e≠ []:=by simp [hd]
 have hL:=KnD.longest_take (k:=k) (d++e)
 have hl:=KnD.longest_take (k:=k) d
 have hle:=KnD.longest_le (k:=k) d
 have hLe:=KnD.longest_le (k:=k) (d++e)
 have hLp:=KnD.longest_pos (k:=k) hde
 have h1:(k.longest d).length≤(k.longest (d++e)).length:=KnD.isW_le hde (KnD.longest_isW hd) (by rw [List.length_append];omega) (by rw [List.take_append_of_le_length hle];exact hl)
 by_cases hlt:(k.longest (d++e)).length≤d.length
 ·have hL':d.take (k.longest (d++e)).length=k.longest (d++e):=by rw [List.take_append_of_le_length hlt] at hL;exact hL
  have h2:=KnD.isW_le hd (KnD.longest_isW hde) hlt hL'
  have:(k.longest (d++e)).length=(k.longest d).length:=by omega
  rw [← hL',this,hl]
 ·exfalso
  apply hn
  have hdl:d.length≤(k.longest (d++e)).length:=by omega
  have hdt:(k.longest (d++e)).take d.length=d:=by
   rw [← hL,List.take_take,Nat.min_eq_left hdl,List.take_append_of_le_length (Nat.le_refl _),List.take_length]
  have hW:k.isW d:=by
   rcases KnD.longest_isW (k:=k) hde with h1|⟨j,hj,hje⟩
   ·left
    have:=List.length_pos_iff.2 hd
    omega
   ·have:=KnD.pre_any h hj (m:=d.length) (List.length_pos_iff.2 hd) (by rw [hje];exact hdl)
    rw [hje,hdt] at this
    exact this
  have h2:=KnD.isW_le hd hW (Nat.le_refl _) List.take_length
  have:(k.longest d).length=d.length:=by omega
  rw [← hl,this,List.take_length]
end Go.Proofs.YtekogcjdaolcbaaGreatDoor
/- Plain: the codes that a writer writes, part by part, are those of the whole text (for the writers). Conditions: what is known is valid, the data has only literals. -/
namespace Go.Proofs.YtekogcjdaolcbaaGreatDoor
open Go.RowKit
def wrC:Nat→KnD→List UInt8→List Int × KnD × List UInt8
 |0,k,d=>([],k,d)
 |n+1,k,d =>
  if d= []∨k.longest d=d then ([],k,d)
  else if (k.after (k.find (k.longest d))).full=true then
   (k.find (k.longest d) :: (k.c:Int) :: (wrC n (k.after (k.find (k.longest d))).cleared (d.drop (k.longest d).length)).1,(wrC n (k.after (k.find (k.longest d))).cleared (d.drop (k.longest d).length)).2)
  else (k.find (k.longest d) :: (wrC n (k.after (k.find (k.longest d))) (d.drop (k.longest d).length)).1,(wrC n (k.after (k.find (k.longest d))) (d.drop (k.longest d).length)).2)
theorem wrC_stop {n:Nat} {k:KnD} {d:List UInt8} (h:d= []∨k.longest d=d):wrC n k d=([],k,d):=by
 cases n with
 |zero=>rfl
 |succ n=>rw [wrC,if_pos h]
theorem wrC_end: ∀ (n:Nat) (k:KnD) (d:List UInt8),d.length≤n→k.Ok→(∀ b∈d,b.toNat<k.c) →
  (wrC n k d).2.1.Ok∧(wrC n k d).2.1.set=k.set∧((wrC n k d).2.2= []∨(wrC n k d).2.1.longest (wrC n k d).2.2=(wrC n k d).2.2)∧(d≠ []→(wrC n k d).2.2≠ [])∧(∃ p,d=p++(wrC n k d).2.2):=by
 intro n
 induction n with
 |zero =>
  intro k d hd hk _
  have:d= []:=List.eq_nil_of_length_eq_zero (by omega)
  subst this
  exact ⟨hk,rfl,.inl rfl,fun h=>absurd rfl h,[],rfl⟩
 |succ n ih =>
  intro k d hd hk hl
  by_cases hs:d= []∨k.longest d=d
  ·rw [wrC_stop hs]
   exact ⟨hk,rfl,hs,fun h=>h,[],rfl⟩
  ·have hd0:d≠ []:=fun e=>hs (.inl e)
   have hp:=KnD.longest_pos (k:=k) hd0
   have hle:=KnD.longest_le (k:=k) d
   have hlt:(k.longest d).length<d.length:=by
    rcases Nat.lt_or_ge (k.longest d).length d.length with h|h
    ·exact h
    ·exfalso
     apply hs
     right
     have ht:=KnD.longest_take (k:=k) d
     rw [show (k.longest d).length=d.length by omega,List.take_length] at ht
     exact ht.symm
   obtain ⟨hf,-⟩:=KnD.find_any hk hd0 hl
   have hak:=KnD.after_ok hk hf
   have hr:d.drop (k.longest d).length≠ []:=fun e=>by
    have:=congrArg List.length e
    rw [List.length_drop] at this
    simp at this
    omega
   have hl': ∀ b∈d.drop (k.longest d).length,b.toNat<k.c:=fun b hb=>hl b (List.mem_of_mem_drop hb)
   have hlen:(d.drop (k.longest d).length).length≤n:=by rw [List.length_drop];omega
   rw [wrC,if_neg hs]
   by_cases hfu:(k.after (k.find (k.longest d))).full=true
   ·rw [if_pos hfu]
    obtain ⟨h1,h2,h3,h4,p,h5⟩:=ih (k.after (k.find (k.longest d))).cleared _ hlen (KnD.cleared_ok hak) hl'
    exact ⟨h1,h2,h3,fun _=>h4 hr,d.take (k.longest d).length++p,by
     rw [List.append_assoc,←h5,List.take_append_drop]⟩
   ·rw [if_neg hfu]
    obtain ⟨h1,h2,h3,h4,p,h5⟩:=ih (k.after (k.find (k.longest d))) _ hlen hak hl'
    exact ⟨h1,h2,h3,fun _=>h4 hr,d.take (k.longest d).length++p,by
     rw [List.append_assoc,←h5,List.take_append_drop]⟩
theorem wrC_greedy: ∀ (n:Nat) (k:KnD) (d e:List UInt8) (m:Nat),d.length≤n→(d++e).length≤m→k.Ok→(∀ b∈d,b.toNat<k.c) →
  ∃ m',((wrC n k d).2.2++e).length≤m'∧greedyN m k (d++e)=(wrC n k d).1++greedyN m' (wrC n k d).2.1 ((wrC n k d).2.2++e):=by
 intro n
 induction n with
 |zero =>
  intro k d e m hd hm hk _
  have:d= []:=List.eq_nil_of_length_eq_zero (by omega)
  subst this
  exact ⟨m,hm,rfl⟩
 |succ n ih =>
  intro k d e m hd hm hk hl
  by_cases hs:d= []∨k.longest d=d
  ·rw [wrC_stop hs]
   exact ⟨m,hm,rfl⟩
  ·have hd0:d≠ []:=fun e=>hs (.inl e)
   have hp:=KnD.longest_pos (k:=k) hd0
   have hle:=KnD.longest_le (k:=k) d
   have hlo:=KnD.longest_more hk e hd0 (fun h=>hs (.inr h))
   have hlt:(k.longest d).length<d.length:=by
    rcases Nat.lt_or_ge (k.longest d).length d.length with h|h
    ·exact h
    ·exfalso
     apply hs
     right
     have ht:=KnD.longest_take (k:=k) d
     rw [show (k.longest d).length=d.length by omega,List.take_length] at ht
     exact ht.symm
   obtain ⟨hf,-⟩:=KnD.find_any hk hd0 hl
   have hak:=KnD.after_ok hk hf
   have hl': ∀ b∈d.drop (k.longest d).length,b.toNat<k.c:=fun b hb=>hl b (List.mem_of_mem_drop hb)
   have hlen:(d.drop (k.longest d).length).length≤n:=by rw [List.length_drop];omega
   have hdrop:(d++e).drop (k.longest d).length=d.drop (k.longest d).length++e:=by rw [List.drop_append_of_le_length hle]
   have hde:d++e≠ []:=by simp [hd0]
   have hne:d.drop (k.longest d).length++e≠ []:=fun h=>by
    have:=congrArg List.length h
    rw [List.length_append,List.length_drop] at this
    simp at this
    omega
   obtain ⟨m,rfl⟩: ∃ q,m=q+1:=⟨m - 1,by rw [List.length_append] at hm;omega⟩
   have hm':(d.drop (k.longest d).length++e).length≤m:=by rw [List.length_append,List.length_drop];rw [List.length_append] at hm;omega
   rw [wrC,if_neg hs]
   by_cases hfu:(k.after (k.find (k.longest d))).full=true
   ·rw [if_pos hfu]
    obtain ⟨m',h1,h2⟩:=ih (k.after (k.find (k.longest d))).cleared _ e m hlen hm' (KnD.cleared_ok hak) hl'
    refine ⟨m',h1,?_⟩
    rw [greedyN,if_neg hde,hlo,hdrop,if_pos ⟨hfu,hne⟩,h2]
    rfl
   ·rw [if_neg hfu]
    obtain ⟨m',h1,h2⟩:=ih (k.after (k.find (k.longest d))) _ e m hlen hm' hak hl'
    refine ⟨m',h1,?_⟩
    rw [greedyN,if_neg hde,hlo,hdrop,if_neg (fun h=>hfu h.1),h2]
    rfl
theorem wrC_close {m:Nat} {k:KnD} {d:List UInt8} (h:d= []∨k.longest d=d) (hm:d.length≤m):greedyN m k d=(if d= [] then [] else [k.find d])++ [(k.c:Int)+1]:=by
 by_cases hd:d= []
 ·subst hd
  rw [greedyN_nil,if_pos rfl]
  rfl
 ·rcases h with h|h
  ·exact absurd h hd
  ·obtain ⟨m,rfl⟩: ∃ q,m=q+1:=⟨m - 1,by have:=List.length_pos_iff.2 hd;omega⟩
   rw [greedyN,if_neg hd,h,List.drop_length,if_neg (fun h=>h.2 rfl),greedyN_nil,if_neg hd]
   rfl
end Go.Proofs.YtekogcjdaolcbaaGreatDoor
/- Plain law: following codes that can follow only adds data. Conditions: as each says. -/
namespace Go.Proofs.YtekogcjdaolcbaaGreatDoor
open Go Go.RowKit
theorem walkN_pre: ∀ (xs:List Int) (k:KnD) (ws:List Int) (d:List UInt8),(walkN k xs ws d).ok=true→d.length≤(walkN k xs ws d).data.length:=by
 intro xs
 induction xs with
 |nil=>intro k ws d h;exact Nat.le_refl _
 |cons x xs ih =>
  intro k ws d h
  rw [walkN] at h ⊢
  split at h
  ·next h1=>rw [if_pos h1];exact Nat.le_refl _
  ·next h1 =>
   rw [if_neg h1]
   split at h
   ·next h2=>rw [if_pos h2];exact ih _ _ _ h
   ·next h2 =>
    rw [if_neg h2]
    split at h
    ·cases h
    ·next h3 =>
     rw [if_neg h3]
     have:=ih _ _ _ h
     rw [List.length_append] at this;omega
theorem walkN_ok {k:KnD} {x:Int} {xs ws:List Int} {d:List UInt8} {T:WkR} (h:walkN k (x :: xs) ws d=T) (hT:T.ok=true) :
  (x=(k.c:Int)+1∧xs= []∧T=⟨ws++ [(k.width:Int)],d,true⟩)∨(x=(k.c:Int)∧walkN k.cleared xs (ws++ [(k.width:Int)]) d=T) ∨
  (x≠(k.c:Int)+1∧x≠(k.c:Int)∧k.follows x=true∧walkN (k.after x) xs (ws++ [(k.width:Int)]) (d++k.any x)=T∧d.length+(k.any x).length≤T.data.length):=by
 by_cases h1:x=(k.c:Int)+1
 ·rw [walkN_end h1] at h
  subst h
  have:xs= []:=by simpa using hT
  exact .inl ⟨h1,this,by subst this;rfl⟩
 ·by_cases h2:x=(k.c:Int)
  ·rw [walkN_clear h2] at h
   exact .inr (.inl ⟨h2,h⟩)
  ·by_cases h3:k.follows x=false∨2000<d.length
   ·rw [walkN_bad h1 h2 h3] at h
    subst h;cases hT
   ·have h4:k.follows x=true:=by
     cases e:k.follows x
     ·exact absurd (.inl e) h3
     ·rfl
    rw [walkN_word h1 h2 h4 (by omega)] at h
    refine .inr (.inr ⟨h1,h2,h4,h,?_⟩)
    have:=walkN_pre xs (k.after x) (ws++ [(k.width:Int)]) (d++k.any x) (by rw [h];exact hT)
    rw [h,List.length_append] at this
    exact this
end Go.Proofs.YtekogcjdaolcbaaGreatDoor
/- Plain: the bits of codes from a state, and their bytes when they are put into bytes part by part (for the writers). Conditions: as each says. -/
namespace Go.Proofs.YtekogcjdaolcbaaGreatDoor
open Go Go.RowKit
theorem packL_append (o:Int) {a b:List UInt8} (h:a.length % 8=0):packL o (a++b)=packL o a++packL o b:=by
 obtain ⟨n,hn⟩: ∃ n,a.length=8 * n:=⟨a.length / 8,by omega⟩
 have hpa:padL a=a:=by unfold padL;rw [h];simp
 have hpab:padL (a++b)=a++padL b:=by
  unfold padL
  rw [List.append_assoc,List.length_append]
  congr 3
  omega
 have hlb:=padL_length b
 refine List.ext_getElem? fun i=>?_
 unfold packL
 rw [hpa,hpab,List.length_append,hn,hlb,show (8 * n+8 * ((b.length+7) / 8)) / 8=n+(b.length+7) / 8 by omega,show 8 * n / 8=n by omega,show 8 * ((b.length+7) / 8) / 8=(b.length+7) / 8 by omega]
 rcases Nat.lt_or_ge i n with hi|hi
 ·rw [List.getElem?_append_left (by simp;omega)]
  simp only [List.getElem?_map]
  rw [List.getElem?_range (by omega),List.getElem?_range (by omega)]
  simp only [Option.map_some]
  congr 1
  unfold byteN
  congr 2
  rw [List.drop_append_of_le_length (by omega),List.take_append_of_le_length (by rw [List.length_drop];omega)]
 ·rw [List.getElem?_append_right (by simp;omega)]
  simp only [List.getElem?_map,List.length_map,List.length_range]
  by_cases hb:i<n+(b.length+7) / 8
  ·rw [List.getElem?_range (by omega),List.getElem?_range (by omega)]
   simp only [Option.map_some]
   congr 1
   unfold byteN
   congr 3
   rw [List.drop_append,List.drop_of_length_le (by omega),List.nil_append]
   congr 1
   omega
  ·rw [List.getElem?_eq_none (by simp;omega),List.getElem?_eq_none (by simp;omega)]
   rfl
def KnD.thru (k:KnD) (x:Int):KnD:=if x=(k.c:Int)+1 then k else if x=(k.c:Int) then k.cleared else k.after x
def KnD.thruN (k:KnD):List Int→KnD
 | []=>k
 |x :: xs=>(k.thru x).thruN xs
def bitsS (o:Int):KnD→List Int→List UInt8
 |_,[]=> []
 |k,x :: xs=>codeL o x.toNat k.width++bitsS o (k.thru x) xs
theorem thruN_app (k:KnD): ∀ (xs ys:List Int),k.thruN (xs++ys)=(k.thruN xs).thruN ys:=by
 intro xs
 induction xs generalizing k with
 |nil=>intro ys;rfl
 |cons x xs ih=>intro ys;exact ih (k.thru x) ys
theorem bitsS_app (o:Int): ∀ (xs ys:List Int) (k:KnD),bitsS o k (xs++ys)=bitsS o k xs++bitsS o (k.thruN xs) ys:=by
 intro xs
 induction xs with
 |nil=>intro ys k;rfl
 |cons x xs ih =>
  intro ys k
  show codeL o x.toNat k.width++bitsS o (k.thru x) (xs++ys)=_
  rw [ih ys (k.thru x)]
  show _=(codeL o x.toNat k.width++bitsS o (k.thru x) xs)++bitsS o ((k.thru x).thruN xs) ys
  rw [List.append_assoc]
theorem bitsS_walk (o:Int): ∀ (xs:List Int) (k:KnD) (ws:List Int) (d:List UInt8) (W:List Int) (D:List UInt8),walkN k xs ws d=⟨ws++W,D,true⟩→bitsS o k xs=packC o xs W:=by
 intro xs
 induction xs with
 |nil =>
  intro k ws d W D h
  rfl
 |cons x xs ih =>
  intro k ws d W D h
  rcases walkN_ok h rfl with ⟨h1,h2,h3⟩|⟨h1,h2⟩|⟨h1,h2,h3,h4,-⟩
  ·subst h2
   have hW:W= [(k.width:Int)]:=by
    have:=congrArg WkR.ws h3
    simpa using this
   subst hW
   simp [bitsS,packC]
  ·have hpre: ∀ (zs:List Int) (kk:KnD) (vs:List Int) (dd:List UInt8),∃ V,(walkN kk zs vs dd).ws=vs++V:=by
    intro zs
    induction zs with
    |nil=>intro kk vs dd;exact ⟨[],by simp [walkN]⟩
    |cons z zs ihz =>
     intro kk vs dd
     rw [walkN]
     split
     ·exact ⟨_,rfl⟩
     ·split
      ·obtain ⟨V,hV⟩:=ihz kk.cleared (vs++ [(kk.width:Int)]) dd
       exact ⟨(kk.width:Int) :: V,by rw [hV];simp⟩
      ·split
       ·exact ⟨_,rfl⟩
       ·obtain ⟨V,hV⟩:=ihz (kk.after z) (vs++ [(kk.width:Int)]) (dd++kk.any z)
        exact ⟨(kk.width:Int) :: V,by rw [hV];simp⟩
   obtain ⟨V,hV⟩:=hpre xs k.cleared (ws++ [(k.width:Int)]) d
   rw [h2] at hV
   have hW:W=(k.width:Int) :: V:=by
    have:ws++W=ws++(k.width:Int) :: V:=by simpa using hV
    exact List.append_cancel_left this
   subst hW
   have:=ih k.cleared (ws++ [(k.width:Int)]) d V D (by rw [h2];simp)
   show codeL o x.toNat k.width++bitsS o (k.thru x) xs=_
   rw [show k.thru x=k.cleared by unfold KnD.thru;rw [if_neg (by omega),if_pos h1],this]
   simp [packC]
  ·have hpre: ∀ (zs:List Int) (kk:KnD) (vs:List Int) (dd:List UInt8),∃ V,(walkN kk zs vs dd).ws=vs++V:=by
    intro zs
    induction zs with
    |nil=>intro kk vs dd;exact ⟨[],by simp [walkN]⟩
    |cons z zs ihz =>
     intro kk vs dd
     rw [walkN]
     split
     ·exact ⟨_,rfl⟩
     ·split
      ·obtain ⟨V,hV⟩:=ihz kk.cleared (vs++ [(kk.width:Int)]) dd
       exact ⟨(kk.width:Int) :: V,by rw [hV];simp⟩
      ·split
       ·exact ⟨_,rfl⟩
       ·obtain ⟨V,hV⟩:=ihz (kk.after z) (vs++ [(kk.width:Int)]) (dd++kk.any z)
        exact ⟨(kk.width:Int) :: V,by rw [hV];simp⟩
   obtain ⟨V,hV⟩:=hpre xs (k.after x) (ws++ [(k.width:Int)]) (d++k.any x)
   rw [h4] at hV
   have hW:W=(k.width:Int) :: V:=by
    have:ws++W=ws++(k.width:Int) :: V:=by simpa using hV
    exact List.append_cancel_left this
   subst hW
   have:=ih (k.after x) (ws++ [(k.width:Int)]) (d++k.any x) V D (by rw [h4];simp)
   show codeL o x.toNat k.width++bitsS o (k.thru x) xs=_
   rw [show k.thru x=k.after x by unfold KnD.thru;rw [if_neg h1,if_neg h2],this]
   simp [packC]
end Go.Proofs.YtekogcjdaolcbaaGreatDoor

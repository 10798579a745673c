/- A writer and a reader that are written to texts and parsed at each step restore the data. Conditions: none. -/
import Derived.ProofKit
import Derived.OpenShut
import Derived.Stop.Joined
import Derived.Test.YtekogcjdaolcbaaGreatDoorMFnTravelLawA
import Derived.Test.YtekogcjdaolcbaaGreatDoorMFnTravelLawB
import Derived.Test.YtekogcjdaolcbaaGreatDoorMFnTravelLawC
import Derived.Test.YtekogcjdaolcbaaGreatDoorMFnTravelLawD
import Derived.Test.YtekogcjdaolcbaaGreatDoorMFnTravelLawE
import Derived.Test.YtekogcjdaolcbaaGreatDoorMFnTravelLawF
import Derived.Test.YtekogcjdaolcbaaGreatDoorMFnTravelLawG
import Derived.Test.YtekogcjdaolcbaaGreatDoorMFnTravelLawH
import Derived.Test.YtekogcjdaolcbaaGreatDoorMFnTravelLawI
import Derived.Test.YtekogcjdaolcbaaGreatDoorMFnTravelLawJ
import Derived.Test.YtekogcjdaolcbaaGreatDoorMFnTravelLawK
import Derived.Test.YtekogcjdaolcbaaGreatDoorMFnTravelLawL
import Derived.Test.YtekogcjdaolcbaaGreatDoorMFnTravelLawM
import Derived.Test.YtekogcjdaolcbaaGreatDoorMFnTravelLawN
import Derived.Test.YtekogcjdaolcbaaGreatDoorMFnTravelLawO
import Derived.Test.YtekogcjdaolcbaaGreatDoorMFnTravelLawP
import Derived.Test.YtekogcjdaolcbaaGreatDoorMFnTravelLawQ
import Derived.Test.YtekogcjdaolcbaaGreatDoorMFnTravelLawR
import Derived.Test.YtekogcjdaolcbaaGreatDoorMFnTravelLawS
import Derived.Test.YtekogcjdaolcbaaGreatDoorMFnTravelLawT
import Derived.Test.YtekogcjdaolcbaaGreatDoorMFnTravelLawU
import Derived.Test.YtekogcjdaolcbaaGreatDoorMFnTravelLawV
import Derived.Test.YtekogcjdaolcbaaGreatDoorMFnTravelLawW
import Derived.Test.YtekogcjdaolcbaaGreatDoorMFnTravelLawX
import Derived.Test.YtekogcjdaolcbaaGreatDoorMFnTravelLawY
import Derived.Test.YtekogcjdaolcbaaGreatDoorMFnTravelLawZ
import Derived.Test.YtekogcjdaolcbaaGreatDoorMFnTravelLawXA
namespace Go.Proofs.YtekogcjdaolcbaaGreatDoor.lawFnTravel
set_option linter.unusedVariables false
set_option linter.unusedSimpArgs false
open Go Go.ChangeShapes Go.WideShapes Go.ChangeAt Go.RowKit Go.Joins
open Go.ChangeMaps (open_string shut_string)
def PtM (lo:Nat) (y:WrD) (b:List UInt8) (u:Value) (w:World):Prop:= ∃ v,u= .tuple #[wrV y v,.string (bs b),.bool true]∧RdP lo w v y.k.ps
theorem ptM_closed {lo:Nat} {y:WrD} {b:List UInt8} : ∀ u,UpClosed (PtM lo y b u):=fun u w w' ⟨v,h1,h2⟩ hu=>⟨v,h1,h2.up hu⟩
def WrO (lo:Nat) (y:WrD) (u:Value) (w:World):Prop:= ∃ v,u=wrV y v∧RdP lo w v y.k.ps
theorem wrO_closed {lo:Nat} {y:WrD} : ∀ u,UpClosed (WrO lo y u):=fun u w w' ⟨v,h1,h2⟩ hu=>⟨v,h1,h2.up hu⟩
theorem upOut_pt {f:FuncId} {args:Array Value} {w:World} {y:WrD} {b:List UInt8} {lo:Nat} (h:Calls Tryz.prog f args w (WdPost (some (y,b)) w)) (hb:lo≤w.heap.size):upOut Tryz.prog (PtM lo y b) w (.ok (.enter f args) w) :=
 ⟨rfl,h.mono fun e w' hP=>by
  obtain ⟨v,he,ho,hu⟩: ∃ v,e= .returned (.tuple #[wrV y v,.string (bs b),.bool true])∧ownPr w' w.heap.size v y.k.ps∧Up w w':=hP
  exact ⟨_,he,hu,v,rfl,(RdP.of_own ho).low hb⟩⟩
theorem travel_ok {k:KnD} {ps:List ByteArray} {st:List UInt8} (h:waG k ps=some st) (h40:(joinL ps).length≤40):k.Ok∧k.vl∧validK k=true∧fitsB k.set (joinL ps)=true∧st=compL k (joinL ps):=by
 rw [waG_comp k ps (by omega)] at h
 cases hb:(validK k && fitsB k.set (joinL ps)) with
 |false=>rw [compG_none hb] at h;cases h
 |true =>
  obtain ⟨h1,h2⟩:=Bool.and_eq_true_iff.1 hb
  rw [compG_some h1 h2] at h
  exact ⟨(ok_of_valid h1).1,(ok_of_valid h1).2,h1,h2,(Option.some.inj h).symm⟩
set_option maxRecDepth 100000 in
set_option maxHeartbeats 8000000 in
theorem walk (vc:Value) (lc:List UInt8) (w:World) (hL:Lay w) (hc:ArgU w vc lc) :
  Calls Tryz.prog 5  #[vc] w (Same (.bool true) w):=by
 have cD:=fun w' hu=>drawWriteAll_any vc lc w' (hc.up (w':=w') hu)
 have HL:=Lib.hid hL
 clear hL
 obtain ⟨ac,cc,rfl,hc1,hc2,-⟩:=hc
 unfold maxLen at hc2
 by_cases h1:1048576<lc.length
 ·go_enter Tryz.func5,Tryz.ntmps5
  go_wp2_with fail
  go_ret
  exact ⟨rfl,by (repeat (first|with_reducible exact Up.refl _|with_reducible assumption|with_reducible refine Up.set ?_ (by first|exact Nat.le_refl _|(simp only [];omega)|(simp;omega)) _|with_reducible refine Up.alloc ?_ _|with_reducible refine Up.drew ?_|refine Up.trans ?_ (by with_reducible assumption)))⟩
 go_enter Tryz.func5,Tryz.ntmps5
 go_wp2_with fail
 (with_reducible refine (cD _ (by (repeat (first|with_reducible exact Up.refl _|with_reducible assumption|with_reducible refine Up.set ?_ (by first|exact Nat.le_refl _|(simp only [];omega)|(simp;omega)) _|with_reducible refine Up.alloc ?_ _|with_reducible refine Up.drew ?_|refine Up.trans ?_ (by with_reducible assumption))))).mono ?_);rintro e w1 ⟨k,u,vp,ps,rfl,hrd,hlt,hps,hp,hn,hz,U1⟩
 obtain ⟨a,cap,rfl,-⟩:=id hrd
 obtain ⟨ap,cp,rfl,hpm,-,-⟩:=id hp
 unfold maxLen at hpm
 simp only [kV]
 go_wp2_with fail
 have hX:=(MapKept.heap_alloc w1 (.cells #[.int .i64 k.set.ord,.int .i64 k.set.lit,.int .i64 k.set.most,.slice a k.ps.length cap,.int .i64 k.base,.int .i64 k.last] 27)).1
 have hUa:=(Up.refl w1).alloc (.cells #[.int .i64 k.set.ord,.int .i64 k.set.lit,.int .i64 k.set.most,.slice a k.ps.length cap,.int .i64 k.base,.int .i64 k.last] 27)
 have hUw:Up w (w1.alloc (.cells #[.int .i64 k.set.ord,.int .i64 k.set.lit,.int .i64 k.set.most,.slice a k.ps.length cap,.int .i64 k.base,.int .i64 k.last] 27)):=by (repeat (first|with_reducible exact Up.refl _|with_reducible assumption|with_reducible refine Up.set ?_ (by first|exact Nat.le_refl _|(simp only [];omega)|(simp;omega)) _|with_reducible refine Up.alloc ?_ _|with_reducible refine Up.drew ?_|refine Up.trans ?_ (by with_reducible assumption)))
 have hrd:=hrd.up hUa
 have hp:=hp.up hUa
 have hs1: ∀ s∈ps,s.size≤1048576:=fun s hs=>by have:=hz s hs;omega
 have hs2: ∀ s∈ps,s.size≤10000:=fun s hs=>by have:=hz s hs;omega
 have cI:=fun wq h h'=>waI_any k (.slice a k.ps.length cap) (.slice ap ps.length cp) 0 ps wq hlt h (by omega) h' (by omega) hs1
 have cS:=fun wq h h'=>waS_any k (.slice a k.ps.length cap) (.slice ap ps.length cp) 0 ps wq h (by omega) h' (by omega) hs1
 have cJ:=fun wq h=>soJoined_any ps (.slice ap ps.length cp) wq h (by omega) hs2
 have hjl:=joinL_len (n:=10000) ps hs2
 have hbz:=bs_size (joinL ps)
 clear cD U1 hs1 hs2 hUa
 generalize (w1.alloc (.cells #[.int .i64 k.set.ord,.int .i64 k.set.lit,.int .i64 k.set.most,.slice a k.ps.length cap,.int .i64 k.base,.int .i64 k.last] 27))=W at *
 generalize w1.heap.size=b3 at *
 cases hG:waG k ps with
 |none =>
  rw [hG,optS_no] at cI cS
  simp only [kV] at *
  (with_reducible refine (cI _ hrd hp).mono ?_);rintro e w2 ⟨rfl,U2⟩
  have hX:=box_up U2 hX
  have hU2:=hUw.trans U2
  obtain ⟨k0,k1,k2,k3,k4,k5⟩:=And.intro (box_cell hX 0) (And.intro (box_cell hX 1) (And.intro (box_cell hX 2) (And.intro (box_cell hX 3) (And.intro (box_cell hX 4) (box_cell hX 5)))));simp at k0 k1 k2 k3 k4 k5
  go_wp2_with fail
  (with_reducible refine (cS _ (hrd.up U2) (hp.up U2)).mono ?_);rintro e w3 ⟨rfl,U3⟩
  go_wp2_with fail
  go_ret
  exact ⟨ret_bool (by simp;try rfl),hU2.trans U3⟩
 |some st =>
  rw [hG] at cI cS
  unfold optS at cI cS
  simp only [Option.getD_some,Option.isSome_some] at cI cS
  by_cases h40:40<(joinL ps).length
  ·have hlg:(40:Int)<((joinL ps).length:Int):=by omega
   clear hG
   generalize joinL ps=J at *
   simp only [kV] at *
   (with_reducible refine (cI _ hrd hp).mono ?_);rintro e w2 ⟨rfl,U2⟩
   have hX:=box_up U2 hX
   have hU2:=hUw.trans U2
   obtain ⟨k0,k1,k2,k3,k4,k5⟩:=And.intro (box_cell hX 0) (And.intro (box_cell hX 1) (And.intro (box_cell hX 2) (And.intro (box_cell hX 3) (And.intro (box_cell hX 4) (box_cell hX 5)))));simp at k0 k1 k2 k3 k4 k5
   go_wp2_with fail
   (with_reducible refine (cS _ (hrd.up U2) (hp.up U2)).mono ?_);rintro e w3 ⟨rfl,U3⟩
   have hX:=box_up U3 hX
   have hU3:=hU2.trans U3
   clear k0 k1 k2 k3 k4 k5
   obtain ⟨k0,k1,k2,k3,k4,k5⟩:=And.intro (box_cell hX 0) (And.intro (box_cell hX 1) (And.intro (box_cell hX 2) (And.intro (box_cell hX 3) (And.intro (box_cell hX 4) (box_cell hX 5)))));simp at k0 k1 k2 k3 k4 k5
   go_wp2_with fail
   (with_reducible refine (cJ _ ((hp.up U2).up U3)).mono ?_);rintro e w4 ⟨rfl,rfl⟩
   go_wp2_with fail
   go_ret
   exact ⟨ret_bool (by simp;try rfl),hU3⟩
  ·obtain ⟨hk,hv,hvb,hft,hst⟩:=travel_ok hG (by omega)
   have hsl: ¬ (40:Int)<((joinL ps).length:Int):=by omega
   have HD:Hid ((joinL ps).length≤40):=by unfold Hid;omega
   have HZ:=Lib.hid hz
   have HLL:=Lib.hid (fitsB_lits hft).2.2
   have HK:=Lib.hid (And.intro hk (And.intro hv (And.intro hvb (And.intro hft hst))))
   have cN:=fun wq h=>nwI_any k (.slice a k.ps.length cap) 0 wq hlt h (by omega)
   have cR:=fun wq h=>nrI_any k (.slice a k.ps.length cap) 0 wq hk hv h
   clear hG hst hft hk hv
   obtain ⟨J,hJ⟩: ∃ J,Hid (J=joinL ps):=⟨_,rfl⟩
   rw [← hJ.out] at cJ hbz hsl hjl h40
   simp only [kV] at *
   (with_reducible refine (cI _ hrd hp).mono ?_);rintro e w2 ⟨rfl,U2⟩
   have hX:=box_up U2 hX
   have hU2:=hUw.trans U2
   obtain ⟨k0,k1,k2,k3,k4,k5⟩:=And.intro (box_cell hX 0) (And.intro (box_cell hX 1) (And.intro (box_cell hX 2) (And.intro (box_cell hX 3) (And.intro (box_cell hX 4) (box_cell hX 5)))));simp at k0 k1 k2 k3 k4 k5
   go_wp2_with fail
   (with_reducible refine (cS _ (hrd.up U2) (hp.up U2)).mono ?_);rintro e w3 ⟨rfl,U3⟩
   have hX:=box_up U3 hX
   have hU3:=hU2.trans U3
   have hrd:=(hrd.up U2).up U3
   have hp:=(hp.up U2).up U3
   clear k0 k1 k2 k3 k4 k5
   clear U2 U3 hU2 cI cS hUw
   obtain ⟨k0,k1,k2,k3,k4,k5⟩:=And.intro (box_cell hX 0) (And.intro (box_cell hX 1) (And.intro (box_cell hX 2) (And.intro (box_cell hX 3) (And.intro (box_cell hX 4) (box_cell hX 5)))));simp at k0 k1 k2 k3 k4 k5
   go_wp2_with fail
   (with_reducible refine (cJ _ hp).mono ?_);rintro e w4 ⟨rfl,rfl⟩
   go_wp2_with fail
   obtain ⟨x0,hx0⟩: ∃ x0,Hid (x0=(⟨k,[],[],false⟩:WrD)):=⟨_,rfl⟩
   obtain ⟨r0,hr0⟩: ∃ r0,Hid (r0=rvS k []):=⟨_,rfl⟩
   (with_reducible refine (cN _ hrd).mono ?_);rintro e w5 hP;obtain ⟨v5,rfl,ho5,U5⟩: ∃ v,e= .returned (.tuple #[wrV x0 v,.bool true])∧ownPr w5 w3.heap.size v x0.k.ps∧Up w3 w5:=by unfold NwPost at hP;rw [if_pos hvb] at hP;rw [hx0.out];exact hP
   obtain ⟨a5,c5,rfl⟩:=ownsRow_shape ho5
   have cR: ∀ wq,RdP 0 wq (.slice a k.ps.length cap) k.ps→Calls Tryz.prog 23  #[kV k (.slice a k.ps.length cap)] wq (fun e w'=> ∃ v',e= .returned (.tuple #[rvV r0 v',.bool true])∧ownPr w' wq.heap.size v' r0.k.ps∧Up wq w'):=by rw [hr0.out];exact cR
   have HW0:=Lib.hid (show WkInv k [] x0 [] by rw [hx0.out];exact WkInv.start HK.out.1 HK.out.2.1)
   have hbd:=wrOk_bd HW0.out.ok
   have HR0:=Lib.hid (show RvOk r0 by rw [hr0.out];exact rvS_ok HK.out.1 HK.out.2.1 [])
   have cF: ∀ wq v,Up w wq→RdP 0 wq v x0.k.ps→Calls Tryz.prog 11  #[wrV x0 v] wq (Same (.string (bs (fmtW x0))) wq):=fun wq v hu h=>fwI_any x0 v 0 wq (HL.out.up hu).tab hbd.1 h (by omega) (by omega) (by omega)
   have cG: ∀ wq v,Up w wq→RdP 0 wq v r0.k.ps→Calls Tryz.prog 24  #[rvV r0 v] wq (Same (.string (bs (rdL r0))) wq):=fun wq v hu h=>frI_any r0 v 0 wq (HL.out.up hu).tab HR0.out h
   have hX:=box_up U5 hX
   have hrd:=hrd.up U5
   have hp:=hp.up U5
   have hU5:=hU3.trans U5
   have hbX:=(Array.getElem?_eq_some_iff.1 hX).1
   have hr5:=(RdP.of_own ho5).low (Nat.zero_le _)
   clear k0 k1 k2 k3 k4 k5
   clear U5 hU3 cN hP ho5 hbd hsl h40
   obtain ⟨k0,k1,k2,k3,k4,k5⟩:=And.intro (box_cell hX 0) (And.intro (box_cell hX 1) (And.intro (box_cell hX 2) (And.intro (box_cell hX 3) (And.intro (box_cell hX 4) (box_cell hX 5)))));simp at k0 k1 k2 k3 k4 k5
   simp only [kV,wrV,rvV] at cR cF cG
   unfold wrV
   go_wp2_with fail
   have hUb:=(Up.refl w5).alloc (.cells #[.int .i64 x0.k.set.ord,.int .i64 x0.k.set.lit,.int .i64 x0.k.set.most,.slice a5 x0.k.ps.length c5,.int .i64 x0.k.base,.int .i64 x0.k.last,.string (bs x0.pend),.string (bs x0.bits),.bool x0.beg] 29)
   have hY:WrAt w5.heap.size x0 (.slice a5 x0.k.ps.length c5) (w5.alloc (.cells #[.int .i64 x0.k.set.ord,.int .i64 x0.k.set.lit,.int .i64 x0.k.set.most,.slice a5 x0.k.ps.length c5,.int .i64 x0.k.base,.int .i64 x0.k.last,.string (bs x0.pend),.string (bs x0.bits),.bool x0.beg] 29)):=(MapKept.heap_alloc w5 _).1
   have hrd:=hrd.up hUb
   have hp:=hp.up hUb
   have hr5:=hr5.up hUb
   have hU6:=hU5.trans hUb
   clear k0 k1 k2 k3 k4 k5
   clear hUb hU5 hX hbX
   generalize (w5.alloc (.cells #[.int .i64 x0.k.set.ord,.int .i64 x0.k.set.lit,.int .i64 x0.k.set.most,.slice a5 x0.k.ps.length c5,.int .i64 x0.k.base,.int .i64 x0.k.last,.string (bs x0.pend),.string (bs x0.bits),.bool x0.beg] 29))=W6 at *
   generalize w5.heap.size=b9 at *
   (with_reducible refine (cR _ hrd).mono ?_);rintro e w7 ⟨v7,rfl,ho7,U7⟩
   obtain ⟨a7,c7,rfl⟩:=ownsRow_shape ho7
   have hr7:=(RdP.of_own ho7).low (Nat.zero_le _)
   obtain ⟨hbq,q0,q1,q2,q3,q4,q5,q6,q7,q8⟩:=(hY.up U7).cells
   go_wp2_with fail
   have hUb:=(Up.refl w7).alloc (.cells #[.int .i64 r0.k.set.ord,.int .i64 r0.k.set.lit,.int .i64 r0.k.set.most,.slice a7 r0.k.ps.length c7,.int .i64 r0.k.base,.int .i64 r0.k.last,.string (bs r0.bits),.int .i64 (r0.size:Nat),.int .i64 (r0.cnt:Nat),.int .i64 r0.fin] 52)
   have hZ:RvAt w7.heap.size r0 (.slice a7 r0.k.ps.length c7) (w7.alloc (.cells #[.int .i64 r0.k.set.ord,.int .i64 r0.k.set.lit,.int .i64 r0.k.set.most,.slice a7 r0.k.ps.length c7,.int .i64 r0.k.base,.int .i64 r0.k.last,.string (bs r0.bits),.int .i64 (r0.size:Nat),.int .i64 (r0.cnt:Nat),.int .i64 r0.fin] 52)):=(MapKept.heap_alloc w7 _).1
   have hp:=(hp.up U7).up hUb
   have hr5:=(hr5.up U7).up hUb
   have hr7:=hr7.up hUb
   have hU8:=(hU6.trans U7).trans hUb
   clear hUb hU6 U7 ho7 hbq q0 q1 q2 q3 q4 q5 q6 q7 q8 hY cR hrd
   generalize (w7.alloc (.cells #[.int .i64 r0.k.set.ord,.int .i64 r0.k.set.lit,.int .i64 r0.k.set.most,.slice a7 r0.k.ps.length c7,.int .i64 r0.k.base,.int .i64 r0.k.last,.string (bs r0.bits),.int .i64 (r0.size:Nat),.int .i64 (r0.cnt:Nat),.int .i64 r0.fin] 52))=W8 at *
   generalize w7.heap.size=b11 at *
   (with_reducible refine (cF _ _ hU8 hr5).mono ?_);rintro e w9 ⟨rfl,U9⟩
   have hU9:=hU8.trans U9
   have hr7:=hr7.up U9
   have hp:=hp.up U9
   obtain ⟨hbq,s0,s1,s2,s3,s4,s5,s6,s7,s8,s9⟩:=(hZ.up U9).cells
   clear hU8 U9 hZ hr5 cF
   go_wp2_with fail
   (with_reducible refine (cG _ _ hU9 hr7).mono ?_);rintro e w10 ⟨rfl,U10⟩
   have hU10:=hU9.trans U10
   have hp:=hp.up U10
   clear hU9 U10 hr7 cG hbq s0 s1 s2 s3 s4 s5 s6 s7 s8 s9
   go_wp2_with fail
   have hL0:RelTv k ps w10 (.string (bs (fmtW x0))) (.string (bs (rdL r0))) (.string ⟨#[]⟩) (.int .i64 0) w10:=by
    rw [hr0.out]
    exact ⟨0,rfl,Up.refl _,.inl ⟨x0,[],Nat.zero_le _,rfl,rfl,rfl,HW0.out⟩⟩
   have HL0:=Lib.hid hL0
   clear hL0
   go_loopw [13,14,15,16] (fun wt rt d i wr=>RelTv k ps w10 wt rt d i wr) (fun _ _ _ i _=>ps.length+1 - (intOf i).toNat)
   case atStart=>exact HL0.out
   case round =>
    clear HL0
    obtain ⟨j,rfl,hU,hrel⟩:=hrel
    rcases hrel with ⟨x,o,hj,rfl,rfl,rfl,hK⟩|⟨t9,hj,rfl,rfl,rfl⟩
    ·have hUL:=hU10.trans hU
     have hro:=rvS_ok HK.out.1 HK.out.2.1 o
     have hbd:=wrOk_bd hK.ok
     have cPW:=fun wq (hu:Up w wq)=>pwI_any (fmtW x) wq (HL.out.up hu) (by have:=fmtW_le x;omega)
     rw [prsW_fmt (wrvB_of hK.ok)] at cPW
     unfold PwPost at cPW
     simp only [Option.getD_some,Option.isSome_some] at cPW
     have cPR:=fun wq (hu:Up w wq)=>prI_any (rvS k o) wq (HL.out.up hu) hro
     by_cases hlj:j<ps.length
     ·obtain ⟨gb,off,rfl,hgb5,hgk5,-,hnc,hcm⟩:=hp.at hlj
      unfold maxLen at hcm
      have hTk:=joinL_take ps hlj
      have hDr: ∃ r,joinL ps=(joinL (ps.take j)++(ps[j]).data.toList)++r:=⟨joinL (ps.drop (j+1)),by rw [← hTk];unfold joinL;rw [← List.flatten_append,←List.map_append,List.take_append_drop]⟩
      obtain ⟨p1,p2,p3,p4,p5,p6,p7⟩:=trv_round HK.out.1 HK.out.2.1 hK HLL.out HD.out hDr
      have hyb:=wrOk_bd p2.ok
      have hpsz:=HZ.out _ (List.getElem_mem hlj)
      have hpl:(ps[j]).data.toList.length=(ps[j]).size:=rfl
      have cI1: ∀ wq v,RdP 0 wq v x.k.ps→Calls Tryz.prog 7  #[wrV x v,.string (ps[j])] wq (WdPost (wdO x (ps[j]).data.toList) wq):=fun wq v h=>wdI_any x v 0 (ps[j]).data.toList wq hbd.1 h hbd.2.1 hbd.2.2.1 hbd.2.2.2 (by omega)
      rw [p1] at cI1
      have cF: ∀ wq v,Up w wq→RdP 0 wq v (x.write (ps[j]).data.toList).1.k.ps→Calls Tryz.prog 11  #[wrV (x.write (ps[j]).data.toList).1 v] wq (Same (.string (bs (fmtW (x.write (ps[j]).data.toList).1))) wq):=fun wq v hu h=>fwI_any _ v 0 wq (HL.out.up hu).tab hyb.1 h (by omega) (by omega) (by omega)
      have cRS: ∀ wq v,RdP 0 wq v (rvS k o).k.ps→Calls Tryz.prog 26  #[rvV (rvS k o) v,.string (bs (x.write (ps[j]).data.toList).2)] wq (RsPost ((rvS k o).read (x.write (ps[j]).data.toList).2) wq):=fun wq v h=>by
       have:=rsI_any (rvS k o) v 0 (bs (x.write (ps[j]).data.toList).2) wq hro h (by rw [bs_size];exact p3)
       rw [bs_data] at this
       exact this
      rw [p4] at cRS
      have hro2:=rvS_ok HK.out.1 HK.out.2.1 (o++(x.write (ps[j]).data.toList).2)
      have cG: ∀ wq v,Up w wq→RdP 0 wq v (rvS k (o++(x.write (ps[j]).data.toList).2)).k.ps→Calls Tryz.prog 24  #[rvV (rvS k (o++(x.write (ps[j]).data.toList).2)) v] wq (Same (.string (bs (rdL (rvS k (o++(x.write (ps[j]).data.toList).2))))) wq):=fun wq v hu h=>frI_any _ v 0 wq (HL.out.up hu).tab hro2 h
      have HNX:=Lib.hid (show WkInv k (joinL (ps.take (j+1))) (x.write (ps[j]).data.toList).1 (o++(x.write (ps[j]).data.toList).2) from by rw [hTk];exact p2)
      clear p1 p2 p4 hyb hpl hro hro2 hDr hTk hK hbd hpsz
      generalize x.write (ps[j]).data.toList=X at *
      obtain ⟨y1,b1⟩:=X
      dsimp only at *
      obtain ⟨r1,hr1⟩: ∃ r,Hid (r=rvS k (o++b1)):=⟨_,rfl⟩
      rw [← hr1.out] at cRS cG
      generalize rvS k o=rA at *
      generalize (readS k o).data=D0 at *
      generalize rA.read b1=Z at *
      obtain ⟨r9,P,n1⟩:=Z
      dsimp only at *
      generalize ps[j]=sj at *
      have HP5:=Lib.hid p5
      clear p5
      unfold RsPost at cRS
      unfold PrPost at cPR
      dsimp only at cRS
      simp only [rvV,wrV] at cRS cPR cF cG cI1 cPW
      have hzd:=bs_size D0
      have hzp:=bs_size P
      have hc1:bs D0++bs P=bs (D0++P):=bs_app _ _
      go_wp2_with fail
      (with_reducible refine (cPW _ hUL).mono ?_);rintro e w11 ⟨v11,rfl,ho11,U11⟩
      obtain ⟨a11,c11,rfl⟩:=ownsRow_shape ho11
      have hr11:=(RdP.of_own ho11).low (Nat.zero_le _)
      have HSZ:=Lib.hid (alloc_sz w11 (.cells #[.int .i64 x.k.set.ord,.int .i64 x.k.set.lit,.int .i64 x.k.set.most,.slice a11 x.k.ps.length c11,.int .i64 x.k.base,.int .i64 x.k.last,.string (bs x.pend),.string (bs x.bits),.bool x.beg] 29))
      have hUb:=(Up.refl w11).alloc (.cells #[.int .i64 x.k.set.ord,.int .i64 x.k.set.lit,.int .i64 x.k.set.most,.slice a11 x.k.ps.length c11,.int .i64 x.k.base,.int .i64 x.k.last,.string (bs x.pend),.string (bs x.bits),.bool x.beg] 29)
      have hXw:WrAt w11.heap.size x (.slice a11 x.k.ps.length c11) (w11.alloc (.cells #[.int .i64 x.k.set.ord,.int .i64 x.k.set.lit,.int .i64 x.k.set.most,.slice a11 x.k.ps.length c11,.int .i64 x.k.base,.int .i64 x.k.last,.string (bs x.pend),.string (bs x.bits),.bool x.beg] 29)):=(MapKept.heap_alloc w11 _).1
      have hrx:=hr11.up hUb
      have hU12:=(hU.trans U11).trans hUb
      have hlo:w10.heap.size≤w11.heap.size:=(hU.trans U11).size
      clear hUb ho11 hr11 U11 cPW hU hUL
      go_wp2_with fail
      generalize (w11.alloc (.cells #[.int .i64 x.k.set.ord,.int .i64 x.k.set.lit,.int .i64 x.k.set.most,.slice a11 x.k.ps.length c11,.int .i64 x.k.base,.int .i64 x.k.last,.string (bs x.pend),.string (bs x.bits),.bool x.beg] 29))=W12 at *
      generalize w11.heap.size=b12 at *
      have hgw:gb<W12.heap.size:=by have:=hU12.size;omega
      have hgk:W12.cell? ⟨gb,off+j,none⟩=some (.string sj):=(hU12.cell (p:=⟨gb,_,none⟩) hgb5).trans hgk5
      obtain ⟨hbk,q0,q1,q2,q3,q4,q5,q6,q7,q8⟩:=hXw.cells
      refine wp_region_upf 10 (by kernel_rfl) (by kernel_rfl) ?_
      simp only [List.take,List.drop]
      repeat (refine wpUp_step (fun K hK=>?_);go_simp;(try simp only [↓IntWalk.iteOmega]);first
       |(refine hK _ _ ?_;clear hK K)
       |(apply stepU_c
         ·intro wq hwq;(have hbq:=bcell hwq;(repeat (first|refine fills_no (by rfl) ?_|refine fills_yes (by rfl) (fun vq hvq=>?_)));simp only [List.filter_nil,fills];unfold upAt;(try ((obtain ⟨v',rfl,hv'⟩:=hvq)));go_simp;(try go_bits);(try simp only [↓IntWalk.iteOmega]);(try (rw [dif_pos (by omega)];go_simp;try go_bits));first|exact upOut_value)
         go_simp;refine hK _ _ ?_;clear hK K)
       |(refine stepU_m (by kernel_rfl) (PtM (b12+1) y1 b1) (ptM_closed) (fun wq hwq=>?_) ?_
         ·(have hbq:=bcell hwq;(repeat (first|refine fills_no (by rfl) ?_|refine fills_yes (by rfl) (fun vq hvq=>?_)));simp only [List.filter_nil,fills];unfold upAt;(try ((obtain ⟨v',rfl,hv'⟩:=hvq)));go_simp;(try go_bits);(try simp only [↓IntWalk.iteOmega]);(try (rw [dif_pos (by omega)];go_simp;try go_bits));((with_reducible refine upOut_pt ?_ (by have:=hwq.size;have:=HSZ.out;omega));exact cI1 _ _ (hrx.up hwq)))
         refine hK _ _ ?_;clear hK K)
       |(refine stepU_m (by kernel_rfl) (PtM (b12+1) y1 b1) (ptM_closed) (fun wq hwq=>?_) ?_
         ·(have hbq:=bcell hwq;(repeat (first|refine fills_no (by rfl) ?_|refine fills_yes (by rfl) (fun vq hvq=>?_)));simp only [List.filter_nil,fills];unfold upAt;(try ((obtain ⟨v',rfl,hv'⟩:=hvq)));go_simp;(try go_bits);(try simp only [↓IntWalk.iteOmega]);(try (rw [dif_pos (by omega)];go_simp;try go_bits));(exact ⟨Up.refl _,v',rfl,hv'⟩))
         refine hK _ _ ?_;clear hK K)
       |(refine stepU_m (by kernel_rfl) (WrO (b12+1) y1) (wrO_closed) (fun wq hwq=>?_) ?_
         ·(have hbq:=bcell hwq;(repeat (first|refine fills_no (by rfl) ?_|refine fills_yes (by rfl) (fun vq hvq=>?_)));simp only [List.filter_nil,fills];unfold upAt;(try ((obtain ⟨v',rfl,hv'⟩:=hvq)));go_simp;(try go_bits);(try simp only [↓IntWalk.iteOmega]);(try (rw [dif_pos (by omega)];go_simp;try go_bits));(exact ⟨Up.refl _,v',rfl,hv'⟩))
         refine hK _ _ ?_;clear hK K))
      refine wpUp_nil (fun wq hwq=>?_)
      simp only [fills]
      rintro u1 ⟨v9,rfl,hv9⟩ u2 ⟨v2',rfl,-⟩ u3 ⟨v3',rfl,-⟩
      obtain ⟨a9,c9,rfl,-⟩:=id hv9
      have hXq:=hXw.up hwq
      have hK2:WrAt b12 y1 (.slice a9 y1.k.ps.length c9) (WrW wq b12 y1 (.slice a9 y1.k.ps.length c9)):=WrAt.store hXq y1 _
      have hr9:RdP 0 (WrW wq b12 y1 (.slice a9 y1.k.ps.length c9)) (.slice a9 y1.k.ps.length c9) y1.k.ps:=by
       unfold WrW KnW
       refine RdP.low (lo:=b12+1) ?_ (Nat.zero_le _)
       (repeat (with_reducible refine RdP.set ?_ (Nat.lt_succ_self _) _ _));exact hv9
      have hU9:Up w10 (WrW wq b12 y1 (.slice a9 y1.k.ps.length c9)):=WrW.up (hU12.trans hwq) hlo y1 _
      have HH:=Lib.hid (And.intro hK2 (And.intro hr9 hU9))
      obtain ⟨hbq,s0,s1',s2,s3,s4,s5,s6,s7,s8⟩:=hXq.cells
      have hfr:=box_free hXq
      clear hK2 hr9 hU9 hXq hv9 hrx hXw q0 q1 q2 q3 q4 q5 q6 q7 q8 hU12 hgk cI1 hgw hbk
      unfold wrV
      go_simp
      iterate 4 go_step
      rw [show (((((((((wq.setCell ⟨b12,0,none⟩ (.int .i64 y1.k.set.ord)).setCell ⟨b12,1,none⟩ (.int .i64 y1.k.set.lit)).setCell ⟨b12,2,none⟩ (.int .i64 y1.k.set.most)).setCell ⟨b12,3,none⟩ (.slice a9 y1.k.ps.length c9)).setCell ⟨b12,4,none⟩ (.int .i64 y1.k.base)).setCell ⟨b12,5,none⟩ (.int .i64 y1.k.last)).setCell ⟨b12,6,none⟩ (.string (bs y1.pend))).setCell ⟨b12,7,none⟩ (.string (bs y1.bits))).setCell ⟨b12,8,none⟩ (.bool y1.beg))=WrW wq b12 y1 (.slice a9 y1.k.ps.length c9) from rfl]
      generalize WrW wq b12 y1 (.slice a9 y1.k.ps.length c9)=W13 at *
      clear s0 s1' s2 s3 s4 s5 s6 s7 s8 hfr hbq hwq
      obtain ⟨hbw,q0,q1,q2,q3,q4,q5,q6,q7,q8⟩:=HH.out.1.cells
      go_wp2_with fail
      rw [onlyN_normal]
      go_wp2_with fail
      (with_reducible refine (cF _ _ (hU10.trans HH.out.2.2) HH.out.2.1).mono ?_);rintro e w14 ⟨rfl,U14⟩
      have hU14:=HH.out.2.2.trans U14
      clear q0 q1 q2 q3 q4 q5 q6 q7 q8 hbw HH U14 cF
      go_wp2_with fail
      (with_reducible refine (cPR _ (hU10.trans hU14)).mono ?_);rintro e w15 ⟨v15,rfl,ho15,U15⟩
      obtain ⟨a15,c15,rfl⟩:=ownsRow_shape ho15
      go_wp2_with fail
      have hUb:=(Up.refl w15).alloc (.cells #[.int .i64 rA.k.set.ord,.int .i64 rA.k.set.lit,.int .i64 rA.k.set.most,.slice a15 rA.k.ps.length c15,.int .i64 rA.k.base,.int .i64 rA.k.last,.string (bs rA.bits),.int .i64 (rA.size:Nat),.int .i64 (rA.cnt:Nat),.int .i64 rA.fin] 52)
      have hT:RvAt w15.heap.size rA (.slice a15 rA.k.ps.length c15) (w15.alloc (.cells #[.int .i64 rA.k.set.ord,.int .i64 rA.k.set.lit,.int .i64 rA.k.set.most,.slice a15 rA.k.ps.length c15,.int .i64 rA.k.base,.int .i64 rA.k.last,.string (bs rA.bits),.int .i64 (rA.size:Nat),.int .i64 (rA.cnt:Nat),.int .i64 rA.fin] 52)):=(MapKept.heap_alloc w15 _).1
      have hr15:=((RdP.of_own ho15).low (Nat.zero_le _)).up hUb
      have hU16:=(hU14.trans U15).trans hUb
      have hlo2:w10.heap.size≤w15.heap.size:=(hU14.trans U15).size
      have hlt15:w15.heap.size<(w15.alloc (.cells #[.int .i64 rA.k.set.ord,.int .i64 rA.k.set.lit,.int .i64 rA.k.set.most,.slice a15 rA.k.ps.length c15,.int .i64 rA.k.base,.int .i64 rA.k.last,.string (bs rA.bits),.int .i64 (rA.size:Nat),.int .i64 (rA.cnt:Nat),.int .i64 rA.fin] 52)).heap.size:=(Array.getElem?_eq_some_iff.1 hT).1
      clear hUb U15 hU14 ho15 cPR
      generalize (w15.alloc (.cells #[.int .i64 rA.k.set.ord,.int .i64 rA.k.set.lit,.int .i64 rA.k.set.most,.slice a15 rA.k.ps.length c15,.int .i64 rA.k.base,.int .i64 rA.k.last,.string (bs rA.bits),.int .i64 (rA.size:Nat),.int .i64 (rA.cnt:Nat),.int .i64 rA.fin] 52))=W16 at *
      generalize w15.heap.size=b16 at *
      (with_reducible refine (cRS _ _ hr15).mono ?_);rintro e w17 ⟨v17,rfl,ho17,U17⟩
      obtain ⟨a17,c17,rfl⟩:=ownsRow_shape ho17
      have hT17:=hT.up U17
      have hne:some b16≠(Value.slice a17 r1.k.ps.length c17).ownBlock:=low_ne (w:=w) ho17 hlt15
      have HJ:=Lib.hid (And.intro (RvAt.store hT17 r1 (.slice a17 r1.k.ps.length c17)) (And.intro (RvW.own ho17 hne r1 (.slice a17 r1.k.ps.length c17)) (RvW.up (b:=b16) (hU16.trans U17) hlo2 r1 (.slice a17 r1.k.ps.length c17))))
      obtain ⟨hbq,s0,s1',s2,s3,s4,s5,s6,s7,s8,s9⟩:=hT17.cells
      have hfr:=box_free hT17
      clear hT hT17 hr15 ho17 cRS U17 hne hU16
      go_simp
      iterate 20 go_step
      rw [show ((((((((((w17.setCell ⟨b16,0,none⟩ (.int .i64 r1.k.set.ord)).setCell ⟨b16,1,none⟩ (.int .i64 r1.k.set.lit)).setCell ⟨b16,2,none⟩ (.int .i64 r1.k.set.most)).setCell ⟨b16,3,none⟩ (.slice a17 r1.k.ps.length c17)).setCell ⟨b16,4,none⟩ (.int .i64 r1.k.base)).setCell ⟨b16,5,none⟩ (.int .i64 r1.k.last)).setCell ⟨b16,6,none⟩ (.string (bs r1.bits))).setCell ⟨b16,7,none⟩ (.int .i64 (r1.size:Nat))).setCell ⟨b16,8,none⟩ (.int .i64 (r1.cnt:Nat))).setCell ⟨b16,9,none⟩ (.int .i64 r1.fin))=RvW w17 b16 r1 (.slice a17 r1.k.ps.length c17) from rfl]
      generalize RvW w17 b16 r1 (.slice a17 r1.k.ps.length c17)=W18 at *
      clear s0 s1' s2 s3 s4 s5 s6 s7 s8 s9 hfr hbq
      obtain ⟨hbq,s0,s1',s2,s3,s4,s5,s6,s7,s8,s9⟩:=HJ.out.1.cells
      have HR18:=Lib.hid ((RdP.of_own HJ.out.2.1).low (Nat.zero_le _))
      go_wp2_with fail
      (with_reducible refine (cG _ _ (hU10.trans HJ.out.2.2) HR18.out).mono ?_);rintro e w19 ⟨rfl,U19⟩
      have hU19:=HJ.out.2.2.trans U19
      clear s0 s1' s2 s3 s4 s5 s6 s7 s8 s9 hbq HR18 HJ U19 cG
      go_wp2_with fail
      go_roundw
      case rel=>exact ⟨j+1,by go_num,hU19,.inl ⟨y1,o++b1,by omega,rfl,by rw [hr1.out],by rw [HP5.out],HNX.out⟩⟩
      case measure=>first|(simp [intOf];done)|(simp [intOf];omega)
     ·have e:j=ps.length:=by omega
      subst e
      rw [List.take_length] at hK
      obtain ⟨p1,p3,p4,p5,p6,p7⟩:=trv_last HK.out.1 HK.out.2.1 hK HLL.out HD.out
      have cC: ∀ wq v,RdP 0 wq v x.k.ps→Calls Tryz.prog 12  #[wrV x v] wq (Same (optS (wcO x)) wq):=fun wq v h=>wcI_any x v 0 wq hbd.1 h hbd.2.1 hbd.2.2.1 hbd.2.2.2
      rw [p1] at cC
      unfold optS at cC
      simp only [Option.getD_some,Option.isSome_some] at cC
      have cRS: ∀ wq v,RdP 0 wq v (rvS k o).k.ps→Calls Tryz.prog 26  #[rvV (rvS k o) v,.string (bs x.close)] wq (RsPost ((rvS k o).read x.close) wq):=fun wq v h=>by
       have:=rsI_any (rvS k o) v 0 (bs x.close) wq hro h (by rw [bs_size];exact p3)
       rw [bs_data] at this
       exact this
      rw [p4] at cRS
      have hro2:=rvS_ok HK.out.1 HK.out.2.1 (compL k (joinL ps))
      have cG: ∀ wq v,Up w wq→RdP 0 wq v (rvS k (compL k (joinL ps))).k.ps→Calls Tryz.prog 24  #[rvV (rvS k (compL k (joinL ps))) v] wq (Same (.string (bs (rdL (rvS k (compL k (joinL ps)))))) wq):=fun wq v hu h=>frI_any _ v 0 wq (HL.out.up hu).tab hro2 h
      clear p1 p4 hro hro2 hK hbd
      generalize x.close=cl at *
      obtain ⟨r1,hr1⟩: ∃ r,Hid (r=rvS k (compL k (joinL ps))):=⟨_,rfl⟩
      rw [← hr1.out] at cRS cG
      generalize rvS k o=rA at *
      generalize (readS k o).data=D0 at *
      generalize rA.read cl=Z at *
      obtain ⟨r9,P,n1⟩:=Z
      dsimp only at *
      have HP5:=Lib.hid p5
      clear p5
      unfold RsPost at cRS
      unfold PrPost at cPR
      dsimp only at cRS
      simp only [rvV,wrV] at cRS cPR cC cG cPW
      have hzd:=bs_size D0
      have hzp:=bs_size P
      have hc1:bs D0++bs P=bs (D0++P):=bs_app _ _
      go_wp2_with fail
      (with_reducible refine (cPW _ hUL).mono ?_);rintro e w11 ⟨v11,rfl,ho11,U11⟩
      obtain ⟨a11,c11,rfl⟩:=ownsRow_shape ho11
      have hr11:=(RdP.of_own ho11).low (Nat.zero_le _)
      have HSZ:=Lib.hid (alloc_sz w11 (.cells #[.int .i64 x.k.set.ord,.int .i64 x.k.set.lit,.int .i64 x.k.set.most,.slice a11 x.k.ps.length c11,.int .i64 x.k.base,.int .i64 x.k.last,.string (bs x.pend),.string (bs x.bits),.bool x.beg] 29))
      have hUb:=(Up.refl w11).alloc (.cells #[.int .i64 x.k.set.ord,.int .i64 x.k.set.lit,.int .i64 x.k.set.most,.slice a11 x.k.ps.length c11,.int .i64 x.k.base,.int .i64 x.k.last,.string (bs x.pend),.string (bs x.bits),.bool x.beg] 29)
      have hXw:WrAt w11.heap.size x (.slice a11 x.k.ps.length c11) (w11.alloc (.cells #[.int .i64 x.k.set.ord,.int .i64 x.k.set.lit,.int .i64 x.k.set.most,.slice a11 x.k.ps.length c11,.int .i64 x.k.base,.int .i64 x.k.last,.string (bs x.pend),.string (bs x.bits),.bool x.beg] 29)):=(MapKept.heap_alloc w11 _).1
      have hrx:=hr11.up hUb
      have hU12:=(hU.trans U11).trans hUb
      have hlo:w10.heap.size≤w11.heap.size:=(hU.trans U11).size
      clear hUb ho11 hr11 U11 cPW hU hUL
      go_wp2_with fail
      generalize (w11.alloc (.cells #[.int .i64 x.k.set.ord,.int .i64 x.k.set.lit,.int .i64 x.k.set.most,.slice a11 x.k.ps.length c11,.int .i64 x.k.base,.int .i64 x.k.last,.string (bs x.pend),.string (bs x.bits),.bool x.beg] 29))=W12 at *
      generalize w11.heap.size=b12 at *
      (with_reducible refine (cC _ _ hrx).mono ?_);rintro e w14 ⟨rfl,U14⟩
      have hU14:=hU12.trans U14
      clear hU12 U14 hXw hrx cC HSZ hlo
      go_wp2_with fail
      (with_reducible refine (cPR _ (hU10.trans hU14)).mono ?_);rintro e w15 ⟨v15,rfl,ho15,U15⟩
      obtain ⟨a15,c15,rfl⟩:=ownsRow_shape ho15
      go_wp2_with fail
      have hUb:=(Up.refl w15).alloc (.cells #[.int .i64 rA.k.set.ord,.int .i64 rA.k.set.lit,.int .i64 rA.k.set.most,.slice a15 rA.k.ps.length c15,.int .i64 rA.k.base,.int .i64 rA.k.last,.string (bs rA.bits),.int .i64 (rA.size:Nat),.int .i64 (rA.cnt:Nat),.int .i64 rA.fin] 52)
      have hT:RvAt w15.heap.size rA (.slice a15 rA.k.ps.length c15) (w15.alloc (.cells #[.int .i64 rA.k.set.ord,.int .i64 rA.k.set.lit,.int .i64 rA.k.set.most,.slice a15 rA.k.ps.length c15,.int .i64 rA.k.base,.int .i64 rA.k.last,.string (bs rA.bits),.int .i64 (rA.size:Nat),.int .i64 (rA.cnt:Nat),.int .i64 rA.fin] 52)):=(MapKept.heap_alloc w15 _).1
      have hr15:=((RdP.of_own ho15).low (Nat.zero_le _)).up hUb
      have hU16:=(hU14.trans U15).trans hUb
      have hlo2:w10.heap.size≤w15.heap.size:=(hU14.trans U15).size
      have hlt15:w15.heap.size<(w15.alloc (.cells #[.int .i64 rA.k.set.ord,.int .i64 rA.k.set.lit,.int .i64 rA.k.set.most,.slice a15 rA.k.ps.length c15,.int .i64 rA.k.base,.int .i64 rA.k.last,.string (bs rA.bits),.int .i64 (rA.size:Nat),.int .i64 (rA.cnt:Nat),.int .i64 rA.fin] 52)).heap.size:=(Array.getElem?_eq_some_iff.1 hT).1
      clear hUb U15 hU14 ho15 cPR
      generalize (w15.alloc (.cells #[.int .i64 rA.k.set.ord,.int .i64 rA.k.set.lit,.int .i64 rA.k.set.most,.slice a15 rA.k.ps.length c15,.int .i64 rA.k.base,.int .i64 rA.k.last,.string (bs rA.bits),.int .i64 (rA.size:Nat),.int .i64 (rA.cnt:Nat),.int .i64 rA.fin] 52))=W16 at *
      generalize w15.heap.size=b16 at *
      (with_reducible refine (cRS _ _ hr15).mono ?_);rintro e w17 ⟨v17,rfl,ho17,U17⟩
      obtain ⟨a17,c17,rfl⟩:=ownsRow_shape ho17
      have hT17:=hT.up U17
      have hne:some b16≠(Value.slice a17 r1.k.ps.length c17).ownBlock:=low_ne (w:=w) ho17 hlt15
      have HJ:=Lib.hid (And.intro (RvAt.store hT17 r1 (.slice a17 r1.k.ps.length c17)) (And.intro (RvW.own ho17 hne r1 (.slice a17 r1.k.ps.length c17)) (RvW.up (b:=b16) (hU16.trans U17) hlo2 r1 (.slice a17 r1.k.ps.length c17))))
      obtain ⟨hbq,s0,s1',s2,s3,s4,s5,s6,s7,s8,s9⟩:=hT17.cells
      have hfr:=box_free hT17
      clear hT hT17 hr15 ho17 cRS U17 hne hU16
      go_simp
      iterate 20 go_step
      rw [show ((((((((((w17.setCell ⟨b16,0,none⟩ (.int .i64 r1.k.set.ord)).setCell ⟨b16,1,none⟩ (.int .i64 r1.k.set.lit)).setCell ⟨b16,2,none⟩ (.int .i64 r1.k.set.most)).setCell ⟨b16,3,none⟩ (.slice a17 r1.k.ps.length c17)).setCell ⟨b16,4,none⟩ (.int .i64 r1.k.base)).setCell ⟨b16,5,none⟩ (.int .i64 r1.k.last)).setCell ⟨b16,6,none⟩ (.string (bs r1.bits))).setCell ⟨b16,7,none⟩ (.int .i64 (r1.size:Nat))).setCell ⟨b16,8,none⟩ (.int .i64 (r1.cnt:Nat))).setCell ⟨b16,9,none⟩ (.int .i64 r1.fin))=RvW w17 b16 r1 (.slice a17 r1.k.ps.length c17) from rfl]
      generalize RvW w17 b16 r1 (.slice a17 r1.k.ps.length c17)=W18 at *
      clear s0 s1' s2 s3 s4 s5 s6 s7 s8 s9 hfr hbq
      obtain ⟨hbq,s0,s1',s2,s3,s4,s5,s6,s7,s8,s9⟩:=HJ.out.1.cells
      have HR18:=Lib.hid ((RdP.of_own HJ.out.2.1).low (Nat.zero_le _))
      go_wp2_with fail
      (with_reducible refine (cG _ _ (hU10.trans HJ.out.2.2) HR18.out).mono ?_);rintro e w19 ⟨rfl,U19⟩
      have hU19:=HJ.out.2.2.trans U19
      clear s0 s1' s2 s3 s4 s5 s6 s7 s8 s9 hbq HR18 HJ U19 cG
      go_wp2_with fail
      go_roundw
      case rel=>exact ⟨ps.length+1,by go_num,hU19,.inr ⟨_,rfl,rfl,by rw [hr1.out],by rw [HP5.out]⟩⟩
      case measure=>first|(simp [intOf];done)|(simp [intOf];omega)
    ·subst hj
     obtain ⟨d1,d2⟩:=trv_done HK.out.1 HLL.out (by have:=HD.out;omega)
     have hUL:=hU10.trans hU
     have hro:=rvS_ok HK.out.1 HK.out.2.1 (compL k (joinL ps))
     have cPR:=fun wq (hu:Up w wq)=>prI_any (rvS k (compL k (joinL ps))) wq (HL.out.up hu) hro
     have cN:=fun wq v h=>rnI_any (rvS k (compL k (joinL ps))) v 0 wq hro h
     have hnd:needR (rvS k (compL k (joinL ps)))=0:=if_pos (by rw [d1];decide)
     rw [hnd] at cN
     unfold PrPost at cPR
     generalize rvS k (compL k (joinL ps))=r1 at *
     (try rw [← hJ.out] at d2)
     rw [← hJ.out]
     obtain ⟨kR,bR,sR,nR,fR⟩:=r1
     dsimp only at d1 d2
     subst d1 d2
     clear hnd hro
     simp only [rvV] at cPR cN
     go_wp2_with fail
     (with_reducible refine (cPR _ hUL).mono ?_);rintro e w12 ⟨v12,rfl,ho12,U12⟩
     obtain ⟨a12,c12,rfl⟩:=ownsRow_shape ho12
     go_wp2_with fail
     have hUb:=(Up.refl w12).alloc (.cells #[.int .i64 kR.set.ord,.int .i64 kR.set.lit,.int .i64 kR.set.most,.slice a12 kR.ps.length c12,.int .i64 kR.base,.int .i64 kR.last,.string (bs bR),.int .i64 (J.length:Nat),.int .i64 (nR:Nat),.int .i64 0] 52)
     have hT:RvAt w12.heap.size ⟨kR,bR,J.length,nR,0⟩ (.slice a12 kR.ps.length c12) (w12.alloc (.cells #[.int .i64 kR.set.ord,.int .i64 kR.set.lit,.int .i64 kR.set.most,.slice a12 kR.ps.length c12,.int .i64 kR.base,.int .i64 kR.last,.string (bs bR),.int .i64 (J.length:Nat),.int .i64 (nR:Nat),.int .i64 0] 52)):=(MapKept.heap_alloc w12 _).1
     have hr12:=((RdP.of_own ho12).low (Nat.zero_le _)).up hUb
     have hU13:=(hUL.trans U12).trans hUb
     have hp:=hp.up ((hU.trans U12).trans hUb)
     clear hUb U12 ho12 hU hUL cPR hU10
     generalize (w12.alloc (.cells #[.int .i64 kR.set.ord,.int .i64 kR.set.lit,.int .i64 kR.set.most,.slice a12 kR.ps.length c12,.int .i64 kR.base,.int .i64 kR.last,.string (bs bR),.int .i64 (J.length:Nat),.int .i64 (nR:Nat),.int .i64 0] 52))=W13 at *
     generalize w12.heap.size=b13 at *
     obtain ⟨hbq,s0,s1',s2,s3,s4,s5,s6,s7,s8,s9⟩:=hT.cells
     (with_reducible refine (cJ _ hp).mono ?_);rintro e w14 ⟨rfl,rfl⟩
     go_wp2_with fail
     (with_reducible refine (cN _ _ hr12).mono ?_);rintro e w15 ⟨rfl,U15⟩
     go_wp2_with fail
     go_ret
     exact ⟨ret_bool (by simp;try rfl),hU13.trans U15⟩
set_option maxRecDepth 100000 in
theorem lifted (os:Os) (started:os.Started) (H:Type) (enc:TypeId × Value→H) :
  ReturnsInHanded {} Tryz.checked os 5 .any (fun w args=>(Rows.fnTravelSpec.pre enc Tryz.prog Tryz.f5 [] false w args∧laidMetH Tryz.prog laid7 w)∧sizedMet enc Tryz.prog Tryz.f5 (OpenSpec.ofChange Rows.fnTravelSpec) false w args) (Rows.fnTravelSpec.post enc Tryz.prog Tryz.f5 false true false false):=by
 refine handed_shaped (C:=Tryz.checked) (X:=fun w _=>laidMetH Tryz.prog laid7 w) (fun _ _ _ hh h=>h.of_heap hh) own started (by kernel_rfl) Tryz.func5
  (ChangeSpec.witness_shaped (enc:=enc) (C:=Tryz.checked) (os:=os) (X:=fun w _=>laidMetH Tryz.prog laid7 w) false (doorW7 os) #[.slice none 0 0] 8 (door_os7 os) (door_shapedC7 os _) (by kernel_rfl) (by kernel_rfl) (by kernel_rfl) (door_met7 os _)) ?_
 intro W base args ds gs before hval0 hW _ _ hL hSh
 have hT:=lay_of_laid7 hL hSh
 have hval: ∀ (j:Nat) t v,Tryz.f5.params[j]? =some t→args[j]? =some v→Value.okWide Tryz.prog W .any base t v:=hval0
 have hW':=hW
 obtain ⟨p,q,hA0,hV,rfl,hfz,hnd⟩:=hW
 have hA:DataW.TrodAll enc Tryz.prog W 0 (fun _=>true) true Tryz.f5.params.toList args.toList ds p:=hA0
 rw [Tryz.params5] at hA hval
 obtain ⟨v0,d0,rfl,rfl,h0⟩:=trodAll_one hA
 obtain ⟨p0,rfl⟩: ∃ x,x=p:=⟨_,rfl⟩
 obtain ⟨a0,n0,c0,rfl⟩:=okWide_slice Tryz.underlying22 (hval 0 22 v0 rfl rfl)
 have hlt0: ∀ x∈p0,x.block<W.heap.size:=fun x hx=>by simpa using hW'.lt x (by simp [hx])
 obtain ⟨fuel0,hf0⟩:=h0
 obtain ⟨lcode,hcode⟩:=open_argU (by simpa [Value.cells] using hf0) hlt0
 obtain ⟨rfl,rfl⟩:=trodVars_none hV
 refine (walk _ _ W hT hcode).mono fun e W' ⟨he,hu⟩=>?_
 subst he
 exact ⟨_,rfl,post_law (f:=Tryz.f5) TryzlaidOut (by kernel_rfl) rfl Tryz.underlying4 rfl hW' (fun ds' h=>by subst h;exact ⟨rfl,rfl,rfl⟩) hu⟩
set_option maxHeartbeats 80000000 in
theorem closed:joinedFacts Tryz.checked.prog 5 Tryz.f5 Rows.fnTravelSpec Rows.fnTravelRow=true:=by
 unfold joinedFacts
 repeat' (with_reducible refine (Bool.and_eq_true_iff.2 ⟨?_,?_⟩))
 all_goals (as_aux_lemma=>kernel_rfl)
theorem holds:Rows.FnTravelSaid :=
 OpenClaim.holds_of_wide 5 Tryz.f5 rfl rfl rfl rfl rfl rfl rfl ⟨rfl,rfl,rfl,rfl,rfl⟩ rfl rfl rfl rfl rfl (by as_aux_lemma=>kernel_rfl) Tryz.func5 closed
  (of_decide_eq_true (by as_aux_lemma=>kernel_rfl)) (by unfold Func.isWrapper;first|(rw [if_pos (by decide +kernel)];kernel_rfl)|(rw [if_neg (by decide +kernel)];exact ⟨rfl,rfl⟩))
  (fun os started H enc _=>lifted os started H enc)
theorem card_holds:Rows.FnTravelCardSaid :=
 Claim7.holds_tied_plain_at .later [] [.data, .data, .data, .data, .sentinel, .sentinel, .pinned] true (true, "110631b35f1b2f92e2add9ccc051e801461e46c0e14b705fd247b5eb1342369b") true
  holds (fun _ h=>by cases h) (by kernel_rfl) (fun _ h=>by cases h) fnTravel_row_tie rfl ⟨rfl,rfl⟩ (by kernel_rfl) rfl
  (fun f fn hf hfn=>by
   obtain rfl : f = 5 := Option.some.inj ((show Tryz.prog.funcNamed "loop.example/soughtstreams/laws.FnTravel" = some 5 by kernel_rfl).symm.trans hf) |>.symm
   obtain rfl:fn=Tryz.f5:=(Option.some.inj (Tryz.func5.symm.trans hfn)).symm
   exact ⟨by kernel_rfl,fun j t ht=>by
    rw [Tryz.params5] at ht
    have hm:t∈ [22]:=by simpa using Array.mem_of_getElem? ht
    have hall:([22].all fun u=> !Tryz.prog.wantsStandIn u)=true:=by kernel_rfl
    exact (show Tryz.prog.wantsStandIn t=false by simpa using List.all_eq_true.1 hall t hm)⟩)
  (by kernel_rfl)
end Go.Proofs.YtekogcjdaolcbaaGreatDoor.lawFnTravel

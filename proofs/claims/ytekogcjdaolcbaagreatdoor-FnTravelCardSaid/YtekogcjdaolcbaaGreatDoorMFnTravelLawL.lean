/- Texts joined into one: the walks and laws that the last text leans on. Conditions: as each says. -/
import Derived.Test.YtekogcjdaolcbaaGreatDoorMFnTravelLawI
import Derived.Test.YtekogcjdaolcbaaGreatDoorMFnTravelLawJ
import Derived.Test.YtekogcjdaolcbaaGreatDoorMFnTravelLawK
import Derived.SliceStrings

set_option linter.unusedVariables false
set_option linter.unusedSimpArgs false
/- Walk of the reference's l3Parts. Conditions: the reader is one, its place is bounded; the argument can be read. -/
namespace Go.Proofs.YtekogcjdaolcbaaGreatDoor
open Go Go.RowKit
theorem own_noS {w':World} {base g:Nat} (hg:g=w'.heap.size) (hb:base≤w'.heap.size):ownS (w'.alloc (.cells #[] 9)) base (.slice (some ⟨g,0,none⟩) 0 0) []:=by
 subst hg
 exact World.ownsRow_made _ _ _ hb (by unfold maxLen;omega) rfl
theorem mem_snocS {l:List ByteArray} {t:ByteArray} {n:Nat} (h: ∀ x∈l,x.size≤n) (ht:t.size≤n): ∀ x∈l++ [t],x.size≤n:=fun x hx=>by
 rcases List.mem_append.1 hx with hx|hx
 ·exact h x hx
 ·simp at hx;subst hx;exact ht
theorem ownS_snoc {w:World} {base:Nat} {v:Value} {l:List ByteArray} {t:ByteArray} (h:w.ownsRow base 9 1 v (l.length+1) (cellsS l++ [.string t])):ownS w base v (l++ [t]):=by
 have e1:(l++ [t]).length=l.length+1:=by simp
 have e2:cellsS (l++ [t])=cellsS l++ [.string t]:=by simp [cellsS]
 unfold ownS
 rw [e1,e2]
 exact h
def RdPt (base m n:Nat) (v:Value) (w:World):Prop:= ∃ l:List ByteArray,ownS w base v l∧l.length≤m∧ ∀ t∈l,t.size≤n
theorem ext_leP (t:ByteArray) (a b:Nat):(t.extract a b).size≤t.size:=by
 rw [ByteArray.size_extract];omega
def ptLen:Value→Nat
 | .slice _ n _=>n
 |_=>0
def RelLp (rb:Nat) (B:Value) (S c:Nat) (w:World) (s out:Value) (wr:World):Prop:= ∃ (l:List ByteArray) (t:ByteArray),s= .string t∧t.size≤S∧l.length≤60∧ownS wr w.heap.size out l∧(∀ t∈l,t.size≤S)∧RdUp rb B (c+l.length) w wr
set_option maxRecDepth 100000 in
set_option maxHeartbeats 8000000 in
theorem l3Parts_any (rb:Nat) (B:Value) (s:ByteArray) (base:Nat) (w:World) (N:Nat) (h:Rdr rb B w N) (hN:N≤700000000) (hs:s.size≤1000) (hb:base≤w.heap.size) :
  Calls Tryz.prog 73  #[.pointer (some ⟨rb,0,none⟩),.string s] w (fun e w'=> ∃ v,e= .returned v∧RdPt base 61 s.size v w'∧RdUp rb B 100 w w'):=by
 obtain ⟨i0,hib,hz0,hz1,hz2⟩:=info_parts infoStr
 obtain ⟨p,hp,h,HM⟩:=h.least
 have hlt:=h.lt
 have HR:=Lib.hid h
 have hne0: ¬ w.heap.size=rb:=by omega
 have hU:=RdUp.refl rb B 0 w
 have e1:w.heap.size<w.heap.size+1:=by omega
 go_enter Tryz.func73,Tryz.ntmps73
 go_wp2_with (first|(go_at_call 31;((with_reducible refine (pick_at (n:=4) HR.out hU (by intro c hU;(repeat (first|with_reducible assumption|with_reducible refine RdUp.alloc ?_ _|with_reducible exact RdUp.of (Up.refl _)))) (by omega)).mono ?_);rintro e w' ⟨x,rfl,x0,x1,hU,U⟩;have D:=gcell U.1;have Z:=U.1.size;(try simp at Z);(try have Y0:w.heap.size<w'.heap.size:=(by omega));(try have Y1:w.heap.size+1<w'.heap.size:=(by omega));(try have Y2:w.heap.size+1+1<w'.heap.size:=(by omega));(try have X0:w.heap.size<w'.heap.size+1:=(by omega));(try have X1:w.heap.size+1<w'.heap.size+1:=(by omega));(try have X2:w.heap.size+1+1<w'.heap.size+1:=(by omega));(skip))))
 have ho:ownS w' w.heap.size (.slice (some ⟨w.heap.size,0,none⟩) 0 0) []:=own_rd (own_noS rfl (Nat.le_refl _)) (by omega) U.1
 have hU1:=hU
 clear D U Z
 go_loopw [1,5] (fun s' out wr=>RelLp rb B s.size 1 w s' out wr) (fun _ o _=>60 - ptLen o)
 case atStart=>exact ⟨[],s,rfl,Nat.le_refl _,Nat.zero_le _,ho,by simp,hU1.mono (by simp)⟩
 case round =>
  obtain ⟨l,t,rfl,ht,hl,ho,hls,hU⟩:=hrel
  obtain ⟨a,c,rfl⟩:=ownsRow_shape ho
  have HO:=Lib.hid ho
  clear ho
  have hwz:=hU.1.size
  by_cases hk:0<t.size∧l.length<60
  ·obtain ⟨hk1,hk2⟩:=hk
   have hU1:=hU
   have hx:x=0∨x=1∨x=2∨x=3:=by omega
   rcases hx with rfl|rfl|rfl|rfl
   ·go_wp2_with (first|(at_builtin;refine wpList_append_own _ rfl _ _ 45 rfl (w.heap.size) 9 i0 (.string ByteArray.empty) 1 16 Tryz.underlying45 hib hz0 hz1 hz2 rfl (by decide) _ _ _ rfl ((HO.out).alloc _) ⟨(wr).heap.size,0,none⟩ 1 1 [.string (t.extract 0 (min 1 (t.size:Int)).toNat)] rfl rfl (new_cells [.string (t.extract 0 (min 1 (t.size:Int)).toNat)] _ rfl) (by intro u hu;simp at hu;subst hu;rfl) (by unfold maxLen;omega) (by omega) (by simp;omega) ?_;rintro v2 w2 hown2 hgr2 -)|fail)
    obtain ⟨a7,c7,rfl⟩:=ownsRow_shape hown2
    go_roundw
    case rel=>exact ⟨l++ [_],_,rfl,Nat.le_trans (ext_leP _ _ _) ht,by rw [List.length_append,List.length_singleton];omega,ownS_snoc hown2,mem_snocS hls (Nat.le_trans (ext_leP _ _ _) ht),RdUp.mono ((hU.alloc _).gr hgr2 (fun q hq=>by have:=row_ge HO.out q hq;omega)) (by rw [List.length_append,List.length_singleton];omega)⟩
    case measure=>simp [ptLen];omega
   ·go_wp2_with (first|(go_at_call 31;((with_reducible refine (pick_at (n:=5) HR.out hU (by intro c hU;(repeat (first|with_reducible assumption|with_reducible refine RdUp.alloc ?_ _|with_reducible exact RdUp.of (Up.refl _)))) (by omega)).mono ?_);rintro e w' ⟨y,rfl,y0,y1,hU,U⟩;have D:=gcell U.1;have Z:=U.1.size;(try simp at Z);(try have Y0:w.heap.size<w'.heap.size:=(by omega));(try have Y1:w.heap.size+1<w'.heap.size:=(by omega));(try have Y2:w.heap.size+1+1<w'.heap.size:=(by omega));(try have X0:w.heap.size<w'.heap.size+1:=(by omega));(try have X1:w.heap.size+1<w'.heap.size+1:=(by omega));(try have X2:w.heap.size+1+1<w'.heap.size+1:=(by omega));(skip)))|(at_builtin;refine wpList_append_own _ rfl _ _ 45 rfl (w.heap.size) 9 i0 (.string ByteArray.empty) 1 16 Tryz.underlying45 hib hz0 hz1 hz2 rfl (by decide) _ _ _ rfl ((own_rd HO.out hlt U.1).alloc _) ⟨(w').heap.size,0,none⟩ 1 1 [.string (t.extract 0 (min y (t.size:Int)).toNat)] rfl rfl (new_cells [.string (t.extract 0 (min y (t.size:Int)).toNat)] _ rfl) (by intro u hu;simp at hu;subst hu;rfl) (by unfold maxLen;omega) (by omega) (by simp;omega) ?_;rintro v2 w2 hown2 hgr2 -)|fail)
    obtain ⟨a7,c7,rfl⟩:=ownsRow_shape hown2
    go_roundw
    case rel=>exact ⟨l++ [_],_,rfl,Nat.le_trans (ext_leP _ _ _) ht,by rw [List.length_append,List.length_singleton];omega,ownS_snoc hown2,mem_snocS hls (Nat.le_trans (ext_leP _ _ _) ht),RdUp.mono ((hU.alloc _).gr hgr2 (fun q hq=>by have:=row_ge HO.out q hq;omega)) (by rw [List.length_append,List.length_singleton];omega)⟩
    case measure=>simp [ptLen];omega
   ·go_wp2_with (first|(go_at_call 31;((with_reducible refine (pick_at (n:=(t.size:Int)) HR.out hU (by intro c hU;(repeat (first|with_reducible assumption|with_reducible refine RdUp.alloc ?_ _|with_reducible exact RdUp.of (Up.refl _)))) (by omega)).mono ?_);rintro e w' ⟨y,rfl,y0,y1,hU,U⟩;have D:=gcell U.1;have Z:=U.1.size;(try simp at Z);(try have Y0:w.heap.size<w'.heap.size:=(by omega));(try have Y1:w.heap.size+1<w'.heap.size:=(by omega));(try have Y2:w.heap.size+1+1<w'.heap.size:=(by omega));(try have X0:w.heap.size<w'.heap.size+1:=(by omega));(try have X1:w.heap.size+1<w'.heap.size+1:=(by omega));(try have X2:w.heap.size+1+1<w'.heap.size+1:=(by omega));(skip)))|(at_builtin;refine wpList_append_own _ rfl _ _ 45 rfl (w.heap.size) 9 i0 (.string ByteArray.empty) 1 16 Tryz.underlying45 hib hz0 hz1 hz2 rfl (by decide) _ _ _ rfl ((own_rd HO.out hlt U.1).alloc _) ⟨(w').heap.size,0,none⟩ 1 1 [.string (t.extract 0 (min (1+y) (t.size:Int)).toNat)] rfl rfl (new_cells [.string (t.extract 0 (min (1+y) (t.size:Int)).toNat)] _ rfl) (by intro u hu;simp at hu;subst hu;rfl) (by unfold maxLen;omega) (by omega) (by simp;omega) ?_;rintro v2 w2 hown2 hgr2 -)|fail)
    obtain ⟨a7,c7,rfl⟩:=ownsRow_shape hown2
    go_roundw
    case rel=>exact ⟨l++ [_],_,rfl,Nat.le_trans (ext_leP _ _ _) ht,by rw [List.length_append,List.length_singleton];omega,ownS_snoc hown2,mem_snocS hls (Nat.le_trans (ext_leP _ _ _) ht),RdUp.mono ((hU.alloc _).gr hgr2 (fun q hq=>by have:=row_ge HO.out q hq;omega)) (by rw [List.length_append,List.length_singleton];omega)⟩
    case measure=>simp [ptLen];omega
   ·go_wp2_with (first|(at_builtin;refine wpList_append_own _ rfl _ _ 45 rfl (w.heap.size) 9 i0 (.string ByteArray.empty) 1 16 Tryz.underlying45 hib hz0 hz1 hz2 rfl (by decide) _ _ _ rfl ((HO.out).alloc _) ⟨(wr).heap.size,0,none⟩ 1 1 [.string t] rfl rfl (new_cells [.string t] _ rfl) (by intro u hu;simp at hu;subst hu;rfl) (by unfold maxLen;omega) (by omega) (by simp;omega) ?_;rintro v2 w2 hown2 hgr2 -)|fail)
    obtain ⟨a7,c7,rfl⟩:=ownsRow_shape hown2
    go_roundw
    case rel=>exact ⟨l++ [_],_,rfl,(by first|exact Nat.le_trans (ext_leP _ _ _) ht|exact Nat.zero_le _),by rw [List.length_append,List.length_singleton];omega,ownS_snoc hown2,mem_snocS hls ht,RdUp.mono ((hU.alloc _).gr hgr2 (fun q hq=>by have:=row_ge HO.out q hq;omega)) (by rw [List.length_append,List.length_singleton];omega)⟩
    case measure=>simp [ptLen];omega
  ·have hk3: ¬ 0<t.size∨(0<t.size∧ ¬ l.length<60):=by omega
   rcases hk3 with hk3|⟨hk3,hk4⟩
   all_goals
    go_wp2_with (first|(at_builtin;refine wpList_append_own _ rfl _ _ 45 rfl (w.heap.size) 9 i0 (.string ByteArray.empty) 1 16 Tryz.underlying45 hib hz0 hz1 hz2 rfl (by decide) _ _ _ rfl ((HO.out).alloc _) ⟨(wr).heap.size,0,none⟩ 1 1 [.string t] rfl rfl (new_cells [.string t] _ rfl) (by intro u hu;simp at hu;subst hu;rfl) (by unfold maxLen;omega) (by omega) (by simp;omega) ?_;rintro v2 w2 hown2 hgr2 -)|fail)
    go_ret
    exact ⟨_,rfl,⟨l++ [t],ownsRow_base (ownS_snoc hown2) hb,by simp;omega,mem_snocS hls ht⟩,RdUp.mono ((hU.alloc _).gr hgr2 (fun q hq=>by have:=row_ge HO.out q hq;omega)) (by omega)⟩
end Go.Proofs.YtekogcjdaolcbaaGreatDoor
/- Walk of the reference's DrawWriteAll. Conditions: the reader is one, its place is bounded; the argument can be read. -/
namespace Go.Proofs.YtekogcjdaolcbaaGreatDoor
open Go Go.RowKit
def WaDrawn (w:World) (e:Ending) (w':World):Prop:= ∃ (k:KnD) (u vp:Value) (ps:List ByteArray),e= .returned (.tuple #[kV k u,vp])∧RdP 0 w' u k.ps∧(-9223372036854775808≤k.set.lit∧k.set.lit≤9223372036854775807)∧k.ps.length≤1100∧ArgS w' vp ps∧ps.length≤62∧(∀ s∈ps,s.size≤2001)∧Up w w'
set_option maxRecDepth 100000 in
set_option maxHeartbeats 8000000 in
theorem drawWriteAll_any (v:Value) (l:List UInt8) (w:World) (h:ArgU w v l) :
  Calls Tryz.prog 18  #[v] w (WaDrawn w):=by
 obtain ⟨i0,hib,hz0,hz1,hz2⟩:=info_parts infoStr
 have cO:=fun w' hu=>open_at (h.up (w':=w') hu)
 clear h
 go_enter Tryz.func18,Tryz.ntmps18
 go_wp2_with (go_at_call 28;(with_reducible refine (cO _ (by (repeat (first|with_reducible exact Up.refl _|with_reducible assumption|with_reducible refine Up.set ?_ (by first|exact Nat.le_refl _|(simp only [];omega)|(simp;omega)) _|with_reducible refine Up.alloc ?_ _|refine Up.trans ?_ (by with_reducible assumption))))).mono ?_);rintro e w1 ⟨B,rfl,hr,U1⟩)
 have hRB:KnAt w.heap.size kn0 (.slice none 0 0) w1:=box_up U1 (MapKept.heap_alloc w _).1
 have hUp:Up w w1:=by (repeat (first|with_reducible exact Up.refl _|with_reducible assumption|with_reducible refine Up.set ?_ (by first|exact Nat.le_refl _|(simp only [];omega)|(simp;omega)) _|with_reducible refine Up.alloc ?_ _|refine Up.trans ?_ (by with_reducible assumption)))
 rw [size_alloc] at hr
 have hrw:w.heap.size<w.heap.size+1:=by omega
 generalize w.heap.size+1=rb at *
 obtain ⟨p,hp,hr,HM⟩:=hr.least
 have hlt:=hr.lt
 have HR:=Lib.hid hr
 have hU:=RdUp.refl rb B 0 w1
 have hne0: ¬ w.heap.size=rb:=by omega
 clear cO U1
 go_wp2_with (go_at_call 72;(with_reducible refine (l2Draw_any rb B _ _ hr (by omega)).mono ?_);rintro e w2 ⟨k,u,rfl,hk,hrk,hU⟩;obtain ⟨a,cap,rfl,hc1,hc2,hc3,-⟩:=id hrk;simp only [kV];have D:=gcell hU.1;have Z:=hU.1.size)
 have hKB:KnAt w2.heap.size k (.slice a k.ps.length cap) (w2.alloc (.cells #[.int .i64 k.set.ord,.int .i64 k.set.lit,.int .i64 k.set.most,.slice a k.ps.length cap,.int .i64 k.base,.int .i64 k.last] 27)):=(MapKept.heap_alloc w2 _).1
 have hRB:KnAt w.heap.size kn0 (.slice none 0 0) (w2.alloc (.cells #[.int .i64 k.set.ord,.int .i64 k.set.lit,.int .i64 k.set.most,.slice a k.ps.length cap,.int .i64 k.base,.int .i64 k.last] 27)):=box_up ((Up.refl _).alloc _) (gbox hU.1 hRB (by simp;omega))
 have hrk:=hrk.up ((Up.refl w2).alloc (.cells #[.int .i64 k.set.ord,.int .i64 k.set.lit,.int .i64 k.set.most,.slice a k.ps.length cap,.int .i64 k.base,.int .i64 k.last] 27))
 have hU:RdUp rb B 800 w1 (w2.alloc (.cells #[.int .i64 k.set.ord,.int .i64 k.set.lit,.int .i64 k.set.most,.slice a k.ps.length cap,.int .i64 k.base,.int .i64 k.last] 27)):=by exact RdUp.fin hU (by intro c hU;(repeat (first|with_reducible assumption|with_reducible refine RdUp.alloc ?_ _|with_reducible exact RdUp.of (Up.refl _)))) (by omega)
 have hbr: ¬ w2.heap.size=rb:=by omega
 have hbw:w.heap.size<w2.heap.size:=by omega
 generalize (w2.alloc (.cells #[.int .i64 k.set.ord,.int .i64 k.set.lit,.int .i64 k.set.most,.slice a k.ps.length cap,.int .i64 k.base,.int .i64 k.last] 27))=W at *
 generalize w2.heap.size=b at *
 clear D Z
 obtain ⟨hb1,q0,q1,q2,q3,q4,q5⟩:=KnAt.cells hKB;obtain ⟨hb0,s0,s1,s2,s3,s4,s5⟩:=KnAt.cells hRB;have hfr:=box_free hRB
 have c40:=fun w N h hN=>l1Data_as 40 40 rfl rb B k.set w N h hN (by omega) hk.set
 have cW:=fun w N h hN=>l1Wild_any rb B ⟨#[]⟩ w N h hN (by decide)
 simp only [setV] at *
 go_wp2_with (first|((go_at_call 30;((with_reducible refine (draw_atM (c40) HR.out hU (by intro c hU;(repeat (first|with_reducible assumption|with_reducible refine RdUp.alloc ?_ _|with_reducible exact RdUp.of (Up.refl _)))) (by omega)).mono ?_);rintro e w' ⟨v,rfl,⟨d,rfl,hd⟩,hU,U⟩;have D:=gcell U.1;have Z:=U.1.size;(try simp at Z);(try have Y0:w.heap.size<w'.heap.size:=(by omega));(try have Y1:w.heap.size+1<w'.heap.size:=(by omega));(try have Y2:w.heap.size+1+1<w'.heap.size:=(by omega));(try have X0:w.heap.size<w'.heap.size+1:=(by omega));(try have X1:w.heap.size+1<w'.heap.size+1:=(by omega));(try have X2:w.heap.size+1+1<w'.heap.size+1:=(by omega))));have hKB:=gbox U.1 hKB (by simp;omega);have hRB:=gbox U.1 hRB (by simp;omega);have hrk:=hrk.gr U.1 (Nat.lt_succ_self rb);clear q0 q1 q2 q3 q4 q5 hb1 s0 s1 s2 s3 s4 s5 hb0 hfr;obtain ⟨hb1,q0,q1,q2,q3,q4,q5⟩:=KnAt.cells hKB;obtain ⟨hb0,s0,s1,s2,s3,s4,s5⟩:=KnAt.cells hRB;have hfr:=box_free hRB)|fail)
 with_reducible refine (l3Parts_any rb B d w'.heap.size _ _ (hU.r hr) (by omega) (by omega) (Nat.le_refl _)).mono ?_
 rintro e w4 ⟨vp,rfl,⟨ls,ho,hln,hls⟩,hU4⟩
 obtain ⟨ap,cp,rfl⟩:=ownsRow_shape ho
 have hrk3:=hrk
 have hbp:b<w'.heap.size:=hb1
 have hw1p:=(RdUp.g hU).size
 have hwr:rb<w'.heap.size:=Nat.lt_of_lt_of_le hlt (RdUp.g hU).size
 have hU5:=hU4
 have hU:=hU.trans hU4
 have hKB:=gbox hU4.1 hKB (by simp;omega)
 have hRB:=gbox hU4.1 hRB (by simp;omega)
 clear q0 q1 q2 q3 q4 q5 hb1 s0 s1 s2 s3 s4 s5 hb0 hfr D Z U hrk
 obtain ⟨hb1,q0,q1,q2,q3,q4,q5⟩:=KnAt.cells hKB;obtain ⟨hb0,s0,s1,s2,s3,s4,s5⟩:=KnAt.cells hRB;have hfr:=box_free hRB
 have hPB:=Lib.hid hls
 obtain ⟨pb,hpb⟩: ∃ pb,pb=w'.heap.size:=⟨_,rfl⟩
 rw [← hpb] at ho hwr
 have hbpb:b<pb:=by rw [hpb];exact hbp
 have hwpb:w.heap.size<pb:=by omega
 have hw1p:w1.heap.size≤pb:=by omega
 have HPB:=Lib.hid hpb
 clear hpb hbp
 go_wp2_with ((go_at_call 31;((with_reducible refine (pick_at (n:=24) HR.out hU (by intro c hU;(repeat (first|with_reducible assumption|with_reducible refine RdUp.alloc ?_ _|with_reducible exact RdUp.of (Up.refl _)))) (by omega)).mono ?_);rintro e w' ⟨y,rfl,y0,y1,hU,U⟩;have D:=gcell U.1;have Z:=U.1.size;(try simp at Z);(try have Y0:w.heap.size<w'.heap.size:=(by omega));(try have Y1:w.heap.size+1<w'.heap.size:=(by omega));(try have Y2:w.heap.size+1+1<w'.heap.size:=(by omega));(try have X0:w.heap.size<w'.heap.size+1:=(by omega));(try have X1:w.heap.size+1<w'.heap.size+1:=(by omega));(try have X2:w.heap.size+1+1<w'.heap.size+1:=(by omega));((have hKB:=gbox U.1 hKB (by simp;omega);have hRB:=gbox U.1 hRB (by simp;omega);have ho:=own_rd ho hwr U.1;have hU5:=hU5.trans U;clear q0 q1 q2 q3 q4 q5 hb1 s0 s1 s2 s3 s4 s5 hb0 hfr;obtain ⟨hb1,q0,q1,q2,q3,q4,q5⟩:=KnAt.cells hKB;obtain ⟨hb0,s0,s1,s2,s3,s4,s5⟩:=KnAt.cells hRB;have hfr:=box_free hRB)))))
 ·go_wp2_with fail
  with_reducible refine (cW _ _ (hU.r hr) (by omega)).mono ?_
  rintro e w5 ⟨v5,rfl,⟨d2,rfl,hd2⟩,U⟩
  have hKB:=gbox U.1 hKB (by simp;omega)
  have hRB:=gbox U.1 hRB (by simp;omega)
  have ho:=own_rd ho hwr U.1
  have hU5:=hU5.trans U
  have hU:=hU.trans U
  have hpz:pb≤w5.heap.size:=by have h1:=(RdUp.g hU5).size;have:=HPB.out;omega
  clear q0 q1 q2 q3 q4 q5 hb1 s0 s1 s2 s3 s4 s5 hb0 hfr
  obtain ⟨hb1,q0,q1,q2,q3,q4,q5⟩:=KnAt.cells hKB;obtain ⟨hb0,s0,s1,s2,s3,s4,s5⟩:=KnAt.cells hRB;have hfr:=box_free hRB
  go_wp2_with (first|(at_builtin;refine wpList_append_own _ rfl _ _ 45 rfl pb 9 i0 (.string ByteArray.empty) 1 16 Tryz.underlying45 hib hz0 hz1 hz2 rfl (by decide) _ _ _ rfl ((ho).alloc _) ⟨(w5).heap.size,0,none⟩ 1 1 [.string d2] rfl rfl (new_cells [.string d2] _ rfl) (by intro u hu;simp at hu;subst hu;rfl) (by unfold maxLen;omega) (by omega) (by simp;omega) ?_;rintro v2 w2 hown2 hgr2 -;have hU5:=(hU5.alloc _).gr hgr2 (fun q hq=>by have:=row_ge ho q hq;have:=HPB.out;omega);have hU:=(hU.alloc _).gr hgr2 (fun q hq=>by have:=row_ge ho q hq;omega);have hKB:=gbox hgr2 (box_up ((Up.refl _).alloc _) hKB) (fun e=>by have:=row_ge ho _ e.symm;omega);have hRB:=gbox hgr2 (box_up ((Up.refl _).alloc _) hRB) (fun e=>by have:=row_ge ho _ e.symm;omega);have ho:=ownS_snoc hown2;have hPQ: ∀ t∈ls++ [d2],t.size≤2001:=mem_snocS (fun t ht=>by have:=hPB.out t ht;omega) hd2;obtain ⟨a7,c7,rfl⟩:=ownsRow_shape ho;clear q0 q1 q2 q3 q4 q5 hb1 s0 s1 s2 s3 s4 s5 hb0 hfr;obtain ⟨hb1,q0,q1,q2,q3,q4,q5⟩:=KnAt.cells hKB;obtain ⟨hb0,s0,s1,s2,s3,s4,s5⟩:=KnAt.cells hRB;have hfr:=box_free hRB)|fail)
  (with_reducible refine (l2Bad_any k _ rb B _ _ (hU.r hr) (by omega) hk (hrk3.gr (RdUp.g hU5) (Nat.lt_succ_self rb))).mono ?_)
  rintro e w9 ⟨k9,u9,rfl,hb9,hr9,hU9⟩
  obtain ⟨a9,c9,rfl,-⟩:=id hr9
  simp only [kV]
  have hRB:=gbox hU9.1 hRB (by simp;omega)
  have ho:=own_rd ho hwr hU9.1
  have hU:=hU.trans hU9
  clear q0 q1 q2 q3 q4 q5 hb1 s0 s1 s2 s3 s4 s5 hb0 hfr
  obtain ⟨hb0,s0,s1,s2,s3,s4,s5⟩:=KnAt.cells hRB
  have hfr:=box_free hRB
  go_wp2_with fail
  have hUw:=up_grownR hUp hU.1 (by omega)
  refine bodyPost_ret (v:=_) (by simp [results,Tryz.results18,go_sem,s0,s1,s2,s3,s4,s5,hb0,hne0];rfl) rfl ?_
  refine ⟨k9,.slice a9 k9.ps.length c9,_,ls++ [d2],rfl,RdP.low (lo:=rb+1) ?_ (by omega),hb9.1,hb9.2,ArgS.of_own (base:=pb) ?_ ?_,?_,?_,?_⟩
  ·repeat (with_reducible refine RdP.set ?_ (by omega) _ _)
   exact hr9
  ·unfold ownS
   (try rw [show (ls++ [d2]).length=ls.length+1 from by simp] at ho ⊢)
   exact KnW.own ho (low_ne (w:=w) ho hwpb) k9 _
  ·intro t ht;have:=hPQ t ht;unfold maxLen;omega
  ·first|omega|(rw [List.length_append,List.length_singleton];omega)
  ·exact hPQ
  ·(repeat (first|with_reducible exact Up.refl _|with_reducible assumption|with_reducible refine Up.set ?_ (by first|exact Nat.le_refl _|(simp only [];omega)|(simp;omega)) _|with_reducible refine Up.alloc ?_ _|refine Up.trans ?_ (by with_reducible assumption)))
 ·have hPQ: ∀ t∈ls,t.size≤2001:=fun t ht=>by have:=hPB.out t ht;omega
  go_wp2_with fail
  (with_reducible refine (l2Bad_any k _ rb B _ _ (hU.r hr) (by omega) hk (hrk3.gr (RdUp.g hU5) (Nat.lt_succ_self rb))).mono ?_)
  rintro e w9 ⟨k9,u9,rfl,hb9,hr9,hU9⟩
  obtain ⟨a9,c9,rfl,-⟩:=id hr9
  simp only [kV]
  have hRB:=gbox hU9.1 hRB (by simp;omega)
  have ho:=own_rd ho hwr hU9.1
  have hU:=hU.trans hU9
  clear q0 q1 q2 q3 q4 q5 hb1 s0 s1 s2 s3 s4 s5 hb0 hfr
  obtain ⟨hb0,s0,s1,s2,s3,s4,s5⟩:=KnAt.cells hRB
  have hfr:=box_free hRB
  go_wp2_with fail
  have hUw:=up_grownR hUp hU.1 (by omega)
  refine bodyPost_ret (v:=_) (by simp [results,Tryz.results18,go_sem,s0,s1,s2,s3,s4,s5,hb0,hne0];rfl) rfl ?_
  refine ⟨k9,.slice a9 k9.ps.length c9,_,ls,rfl,RdP.low (lo:=rb+1) ?_ (by omega),hb9.1,hb9.2,ArgS.of_own (base:=pb) ?_ ?_,?_,?_,?_⟩
  ·repeat (with_reducible refine RdP.set ?_ (by omega) _ _)
   exact hr9
  ·unfold ownS
   (try rw [show (ls++ [d2]).length=ls.length+1 from by simp] at ho ⊢)
   exact KnW.own ho (low_ne (w:=w) ho hwpb) k9 _
  ·intro t ht;have:=hPQ t ht;unfold maxLen;omega
  ·first|omega|(rw [List.length_append,List.length_singleton];omega)
  ·exact hPQ
  ·(repeat (first|with_reducible exact Up.refl _|with_reducible assumption|with_reducible refine Up.set ?_ (by first|exact Nat.le_refl _|(simp only [];omega)|(simp;omega)) _|with_reducible refine Up.alloc ?_ _|refine Up.trans ?_ (by with_reducible assumption)))
end Go.Proofs.YtekogcjdaolcbaaGreatDoor

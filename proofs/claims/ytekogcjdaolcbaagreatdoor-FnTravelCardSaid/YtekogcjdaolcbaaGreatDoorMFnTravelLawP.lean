/- Texts joined into one: the walks and laws that the last text leans on. Conditions: as each says. -/
import Derived.Test.YtekogcjdaolcbaaGreatDoorMFnTravelLawO
import Derived.Test.YtekogcjdaolcbaaGreatDoorMFnTravelLawF
import Derived.Test.YtekogcjdaolcbaaGreatDoorMFnTravelLawE
import Derived.Test.YtekogcjdaolcbaaGreatDoorMFnTravelLawN
import Derived.Test.YtekogcjdaolcbaaGreatDoorMFnTravelLawJ
import Derived.Test.YtekogcjdaolcbaaGreatDoorMFnTravelLawK
import Derived.SliceStrings
import Derived.Test.YtekogcjdaolcbaaGreatDoorMFnTravelLawI
import Derived.Test.YtekogcjdaolcbaaGreatDoorMFnTravelLawH
import Derived.Test.YtekogcjdaolcbaaGreatDoorMFnTravelLawA
import Derived.Shelf.Strings.Builder1
import Derived.Test.YtekogcjdaolcbaaGreatDoorMFnTravelLawC

set_option linter.unusedVariables false
set_option linter.unusedSimpArgs false
/- Walk of the reference's CloseWriter, for writers of any kind. Condition: the pairs can be read. -/
namespace Go.Proofs.YtekogcjdaolcbaaGreatDoor
open Go Go.RowKit
set_option maxRecDepth 100000 in
set_option maxHeartbeats 16000000 in
theorem wcS_any (x:WrD) (v:Value) (lo:Nat) (w:World) (hr:RdP lo w v x.k.ps) (hps:x.k.ps.length≤1048576) (hp:x.pend.length≤1048576) (hb:x.bits.length≤1048576) :
  Calls Tryz.prog 78  #[wrV x v] w (Same (optS (wcO x)) w):=by
 have cV:=fun wq hr=>wvS_any x v lo wq hr (by omega) (by omega) (by omega)
 have hrt:=fun (wq:World) (hu:Up w wq)=>hr.up hu
 cases hok:wrvB x
 ·rw [wcO_none hok,optS_no]
  rw [hok] at cV
  obtain ⟨a,cap,rfl,-,-,-,-⟩:=id hr
  clear hr hok
  unfold wrV at *
  go_enter Tryz.func78,Tryz.ntmps78
  go_wp2_with (first|(go_at_call 43;(with_reducible refine (cV _ (hrt _ (by (repeat (first|with_reducible exact Up.refl _|with_reducible assumption|with_reducible refine Up.set ?_ (by first|exact Nat.le_refl _|(simp only [];omega)|(simp;omega)) _|with_reducible refine Up.alloc ?_ _|refine Up.trans ?_ (by with_reducible assumption)))))).mono ?_);rintro e w1 ⟨rfl,U1⟩;have B1:=bcell U1;have Z1:=U1.size;(try simp at Z1);(try rw [Nat.add_one_le_iff] at Z1))|fail)
  go_ret2
  refine ⟨rfl,?_⟩
  (repeat (first|with_reducible exact Up.refl _|with_reducible assumption|with_reducible refine Up.set ?_ (by first|exact Nat.le_refl _|(simp only [];omega)|(simp;omega)) _|with_reducible refine Up.alloc ?_ _|refine Up.trans ?_ (by with_reducible assumption)))
 ·rw [wcO_some hok]
  rw [hok] at cV
  have hwo:=wrvB_ok hok
  have hk:=hwo.1
  have hb7:=hwo.2.2.2.2.2.1
  have hbit:=hwo.2.2.2.2.1
  have hp2:=hwo.2.2.2.1
  have cB:=fun wq hr=>begin_any x v lo wq hk hr (by omega)
  rw [show begW x=⟨x.open.2,x.pend,x.open.1,true⟩ from rfl] at cB
  have cE:=fun wq=>l1End_any x.k.set wq hk.set
  have hcb:=(clr_bd hk.set).2.1
  have hsp:=bs_size x.pend
  obtain ⟨hob1,hob2⟩:=open_len hwo
  obtain ⟨hok1,hos1⟩:=WrD.open_ok hk
  unfold optS
  simp only [Option.getD_some,Option.isSome_some]
  have HR:=Lib.hid hr
  obtain ⟨a,cap,rfl,-,-,-,-⟩:=id hr
  by_cases hpe:x.pend= []
  ·have HC:=Lib.hid (close_nil hpe)
   have hopw:=KnD.width_bd hok1
   rw [HC.out]
   have HPE:Hid (bs x.pend=⟨#[]⟩):=by unfold Hid;rw [hpe];rfl
   have HK9:=Lib.hid (And.intro hok1 (And.intro hos1 (And.intro hob1 hob2)))
   clear hok hwo hk hr hpe HC hob2 hbit hok1 hos1 hob1
   generalize x.open.1=b9 at *
   generalize x.open.2=k9 at *
   unfold wrV at *
   simp only [setV] at cE
   go_enter Tryz.func78,Tryz.ntmps78
   go_wp2_with (first|(go_at_call 43;(with_reducible refine (cV _ (hrt _ (by (repeat (first|with_reducible exact Up.refl _|with_reducible assumption|with_reducible refine Up.set ?_ (by first|exact Nat.le_refl _|(simp only [];omega)|(simp;omega)) _|with_reducible refine Up.alloc ?_ _|refine Up.trans ?_ (by with_reducible assumption)))))).mono ?_);rintro e w1 ⟨rfl,U1⟩;have B1:=bcell U1;have Z1:=U1.size;(try simp at Z1);(try rw [Nat.add_one_le_iff] at Z1))|fail)
   with_reducible refine (cB _ (hrt _ (by (repeat (first|with_reducible exact Up.refl _|with_reducible assumption|with_reducible refine Up.set ?_ (by first|exact Nat.le_refl _|(simp only [];omega)|(simp;omega)) _|with_reducible refine Up.alloc ?_ _|refine Up.trans ?_ (by with_reducible assumption)))))).mono ?_
   rintro e w2 ⟨v2,rfl,hp2',U2⟩
   obtain ⟨a2,c2,rfl⟩:=put_shape hp2'
   dsimp only at hp2'
   have hX:WrAt w.heap.size x (.slice a x.k.ps.length cap) w2:=box_up (U1.trans U2) (MapKept.heap_alloc w _).1
   have hU2:Up w w2:=by (repeat (first|with_reducible exact Up.refl _|with_reducible assumption|with_reducible refine Up.set ?_ (by first|exact Nat.le_refl _|(simp only [];omega)|(simp;omega)) _|with_reducible refine Up.alloc ?_ _|refine Up.trans ?_ (by with_reducible assumption)))
   have hrd2:=put_rd (y:=⟨k9,x.pend,b9,true⟩) hp2' (HR.out.up (show Up w w1 by (repeat (first|with_reducible exact Up.refl _|with_reducible assumption|with_reducible refine Up.set ?_ (by first|exact Nat.le_refl _|(simp only [];omega)|(simp;omega)) _|with_reducible refine Up.alloc ?_ _|refine Up.trans ?_ (by with_reducible assumption))))) U2
   have hl2:w.heap.size+1≤w2.heap.size:=by have h1:=U1.size;have h2:=U2.size;simp at h1;omega
   clear U1 U2 hp2' cB cV B1 Z1
   dsimp only at hrd2
   unfold wrV
   go_simp
   iterate 13 go_step
   have hUa:Up w2 (w2.alloc (.cells #[.int .i64 k9.set.ord,.int .i64 k9.set.lit,.int .i64 k9.set.most,.slice a2 k9.ps.length c2,.int .i64 k9.base,.int .i64 k9.last,.string (bs x.pend),.string (bs b9),.bool true] 29)):=(Up.refl _).alloc _
   have hA:WrAt w2.heap.size ⟨k9,x.pend,b9,true⟩ (.slice a2 k9.ps.length c2) (w2.alloc (.cells #[.int .i64 k9.set.ord,.int .i64 k9.set.lit,.int .i64 k9.set.most,.slice a2 k9.ps.length c2,.int .i64 k9.base,.int .i64 k9.last,.string (bs x.pend),.string (bs b9),.bool true] 29)):=(MapKept.heap_alloc w2 _).1
   have HA:=Lib.hid (And.intro hA (And.intro (hX.up hUa) (And.intro (hU2.trans hUa) (hrd2.up hUa))))
   have hzA:w2.heap.size<(w2.alloc (.cells #[.int .i64 k9.set.ord,.int .i64 k9.set.lit,.int .i64 k9.set.most,.slice a2 k9.ps.length c2,.int .i64 k9.base,.int .i64 k9.last,.string (bs x.pend),.string (bs b9),.bool true] 29)).heap.size:=by simp
   clear hA hX hU2 hrd2 hUa hrt
   generalize w2.alloc (.cells #[.int .i64 k9.set.ord,.int .i64 k9.set.lit,.int .i64 k9.set.most,.slice a2 k9.ps.length c2,.int .i64 k9.base,.int .i64 k9.last,.string (bs x.pend),.string (bs b9),.bool true] 29)=W3 at *
   obtain ⟨hbx,r0,r1,r2,r3,r4,r5,r6,r7,r8⟩:=HA.out.2.1.cells
   obtain ⟨hby,s0,s1,s2,s3,s4,s5,s6,s7,s8⟩:=HA.out.1.cells
   rw [HPE.out] at r6
   go_wp2_with fail
   have hw9:=KnD.width_bd HK9.out.1
   have hs9:=HK9.out.2.1
   have hl9:=HK9.out.2.2.1
   have hib:isBits (b9++codeL x.k.set.ord (clr x.k.set+1) k9.width):=HK9.out.2.2.2.app (isBits_code _ _ _)
   have hil:(b9++codeL x.k.set.ord (clr x.k.set+1) k9.width).length≤1000:=by rw [List.length_append,codeL_length];omega
   have cE9:=fun wq=>l1End_any k9.set wq HK9.out.1.set
   have cP:=fun wq hr=>put_any ⟨k9,x.pend,b9,true⟩ (.slice a2 k9.ps.length c2) 0 (clr k9.set+1) wq HK9.out.1 hr (by rw [hs9];omega) (by show b9.length≤900000;omega) (.inl (by show ((clr k9.set+1:Nat):Int)=(k9.c:Int)+1;unfold KnD.c;omega))
   have hpw:putW ⟨k9,x.pend,b9,true⟩ (clr k9.set+1)=⟨k9,x.pend,b9++codeL x.k.set.ord (clr x.k.set+1) k9.width,true⟩:=by
    unfold putW
    dsimp only
    rw [show k9.thru ((clr k9.set+1:Nat):Int)=k9 by unfold KnD.thru;rw [if_pos (by unfold KnD.c;omega)],hs9]
   rw [hpw,show ((clr k9.set+1:Nat):Int)=(clr k9.set:Int)+1 from by omega] at cP
   clear hpw hs9 cE
   generalize b9++codeL x.k.set.ord (clr x.k.set+1) k9.width=bz at *
   have cK:=fun wx=>l1Pack_any x.k.set.ord (bs bz) wx (by rw [bs_data];exact hib) (by rw [bs_size];omega)
   rw [bs_data] at cK
   unfold wrV at cP
   simp only [setV] at cE9
   refine wp_region_up 6 (by kernel_rfl) (by kernel_rfl) ?_
   simp only [List.take,List.drop]
   repeat (refine wpUp_step (fun K hK=>?_);go_simp;(try simp only [↓IntWalk.iteOmega]);first
    |(refine hK _ _ ?_;clear hK K)
    |(apply stepU_c
      ·intro wq hwq;(have hbq:=bcell hwq;(repeat (first|refine fills_no (by rfl) ?_|refine fills_yes (by rfl) (fun vq hvq=>?_)));simp only [List.filter_nil,fills];unfold upAt;(try (skip));go_simp;(try go_bits);(try simp only [↓IntWalk.iteOmega]);first|exact upOut_value|(apply upOut_call;(go_at_call 131;exact cE9 _)))
      go_simp;refine hK _ _ ?_;clear hK K)
    |(refine stepU_m (by kernel_rfl) (PutO W3.heap.size ⟨k9,x.pend,bz,true⟩ k9.ps (.slice a2 k9.ps.length c2)) (putO_closed _ _ _ _) (fun wq hwq=>?_) ?_
      ·(have hbq:=bcell hwq;(repeat (first|refine fills_no (by rfl) ?_|refine fills_yes (by rfl) (fun vq hvq=>?_)));simp only [List.filter_nil,fills];unfold upAt;(try (skip));go_simp;(try go_bits);(try simp only [↓IntWalk.iteOmega]);((with_reducible refine upOut_put ?_ hwq.size);go_at_call 107;exact cP _ (HA.out.2.2.2.up hwq)))
      refine hK _ _ ?_;clear hK K))
   refine wpUp_nil (fun wq hwq=>?_)
   simp only [fills]
   rintro u ⟨vz,rfl,hz⟩
   obtain ⟨az,cz,rfl⟩:=put_shape hz
   have HQ:=Lib.hid (And.intro (HA.out.1.up hwq) (And.intro (HA.out.2.1.up hwq) (HA.out.2.2.1.trans hwq)))
   have hzq:=hwq.size
   clear hwq hz HA cP cE9 r0 r1 r2 r3 r4 r5 r6 r7 r8 s0 s1 s2 s3 s4 s5 s6 s7 s8 hbx hby
   obtain ⟨hby,s0,s1,s2,s3,s4,s5,s6,s7,s8⟩:=HQ.out.1.cells
   have hfy:=box_free HQ.out.1
   dsimp only
   unfold wrV
   go_simp
   iterate 4 go_step
   have hY:WrAt w2.heap.size ⟨k9,x.pend,bz,true⟩ (.slice az k9.ps.length cz) (((((((((wq.setCell ⟨w2.heap.size,0,none⟩ (.int .i64 k9.set.ord)).setCell ⟨w2.heap.size,1,none⟩ (.int .i64 k9.set.lit)).setCell ⟨w2.heap.size,2,none⟩ (.int .i64 k9.set.most)).setCell ⟨w2.heap.size,3,none⟩ (.slice az k9.ps.length cz)).setCell ⟨w2.heap.size,4,none⟩ (.int .i64 k9.base)).setCell ⟨w2.heap.size,5,none⟩ (.int .i64 k9.last)).setCell ⟨w2.heap.size,6,none⟩ (.string (bs x.pend))).setCell ⟨w2.heap.size,7,none⟩ (.string (bs bz))).setCell ⟨w2.heap.size,8,none⟩ (.bool true)):=by
    have h0:=WrAt.store HQ.out.1 ⟨k9,x.pend,bz,true⟩ (.slice az k9.ps.length cz)
    simpa [WrW,KnW] using h0
   have hneb:w.heap.size≠w2.heap.size:=by omega
   have hX:WrAt w.heap.size x (.slice a x.k.ps.length cap) (((((((((wq.setCell ⟨w2.heap.size,0,none⟩ (.int .i64 k9.set.ord)).setCell ⟨w2.heap.size,1,none⟩ (.int .i64 k9.set.lit)).setCell ⟨w2.heap.size,2,none⟩ (.int .i64 k9.set.most)).setCell ⟨w2.heap.size,3,none⟩ (.slice az k9.ps.length cz)).setCell ⟨w2.heap.size,4,none⟩ (.int .i64 k9.base)).setCell ⟨w2.heap.size,5,none⟩ (.int .i64 k9.last)).setCell ⟨w2.heap.size,6,none⟩ (.string (bs x.pend))).setCell ⟨w2.heap.size,7,none⟩ (.string (bs bz))).setCell ⟨w2.heap.size,8,none⟩ (.bool true)):=(WrW.other hneb ⟨k9,x.pend,bz,true⟩ (.slice az k9.ps.length cz)).trans HQ.out.2.1
   have hU5:Up w (((((((((wq.setCell ⟨w2.heap.size,0,none⟩ (.int .i64 k9.set.ord)).setCell ⟨w2.heap.size,1,none⟩ (.int .i64 k9.set.lit)).setCell ⟨w2.heap.size,2,none⟩ (.int .i64 k9.set.most)).setCell ⟨w2.heap.size,3,none⟩ (.slice az k9.ps.length cz)).setCell ⟨w2.heap.size,4,none⟩ (.int .i64 k9.base)).setCell ⟨w2.heap.size,5,none⟩ (.int .i64 k9.last)).setCell ⟨w2.heap.size,6,none⟩ (.string (bs x.pend))).setCell ⟨w2.heap.size,7,none⟩ (.string (bs bz))).setCell ⟨w2.heap.size,8,none⟩ (.bool true)):=by
    have hU:=HQ.out.2.2
    (repeat (first|with_reducible exact Up.refl _|with_reducible assumption|with_reducible refine Up.set ?_ (by first|exact Nat.le_refl _|(simp only [];omega)|(simp;omega)) _|with_reducible refine Up.alloc ?_ _|refine Up.trans ?_ (by with_reducible assumption)))
   have HF:=Lib.hid (And.intro hY (And.intro hX hU5))
   clear hY hX hU5 HQ s0 s1 s2 s3 s4 s5 s6 s7 s8 hfy
   generalize (((((((((wq.setCell ⟨w2.heap.size,0,none⟩ (.int .i64 k9.set.ord)).setCell ⟨w2.heap.size,1,none⟩ (.int .i64 k9.set.lit)).setCell ⟨w2.heap.size,2,none⟩ (.int .i64 k9.set.most)).setCell ⟨w2.heap.size,3,none⟩ (.slice az k9.ps.length cz)).setCell ⟨w2.heap.size,4,none⟩ (.int .i64 k9.base)).setCell ⟨w2.heap.size,5,none⟩ (.int .i64 k9.last)).setCell ⟨w2.heap.size,6,none⟩ (.string (bs x.pend))).setCell ⟨w2.heap.size,7,none⟩ (.string (bs bz))).setCell ⟨w2.heap.size,8,none⟩ (.bool true))=W9 at HF ⊢
   obtain ⟨hby,s0,s1,s2,s3,s4,s5,s6,s7,s8⟩:=HF.out.1.cells
   obtain ⟨hbx,r0,r1,r2,r3,r4,r5,r6,r7,r8⟩:=HF.out.2.1.cells
   go_wp2_with (first|((go_at_call 47;(with_reducible refine (cK _).mono ?_);rintro e w8 ⟨rfl,U8⟩;have B8:=bcell U8;have Z8:=U8.size;(try simp at Z8);(try rw [Nat.add_one_le_iff] at Z8)))|fail)
   go_ret2
   exact ⟨rfl,HF.out.2.2.trans U8⟩
  ·have HPE:=isEmpty_bs hpe
   have hpos:=List.length_pos_iff.2 hpe
   have hbeg:x.beg=true:=by
    cases h:x.beg
    ·exact absurd (hwo.2.2.2.2.2.2.2 h).1 hpe
    ·rfl
   have hopen:x.open=(x.bits,x.k):=by unfold WrD.open;rw [hbeg];rfl
   have hlg:x.k.longest x.pend=x.pend:=(hwo.2.2.2.2.2.2.1).resolve_left hpe
   have hlit:=hwo.2.2.1
   obtain ⟨hfw,-⟩:=KnD.find_any hk hpe hlit
   rw [hlg] at hfw
   have hfb:=KnD.find_bd hk hfw
   have hne:=KnD.fol_ne hk hfw
   have cF:=fun wq v lo hr=>l2Find_any x.k v lo (bs x.pend) wq hk hr (by omega)
   rw [bs_data] at cF
   obtain ⟨n,hn⟩:=Int.eq_ofNat_of_zero_le hfb.1
   have hth:=KnD.thru_fol hk hfw
   have hka:=KnD.after_ok hk hfw
   have hwd:=KnD.width_bd hk
   rw [hn] at hth hne hka hfw cF hfb
   have HC:=Lib.hid (close_word hpe hopen hn hth)
   rw [HC.out]
   rw [hopen] at cB
   dsimp only at cB
   have hs9:(x.k.after n).set=x.k.set:=rfl
   have hbl:(x.bits++codeL x.k.set.ord n x.k.width).length≤100:=by rw [List.length_append,codeL_length];omega
   have hbits:isBits (x.bits++codeL x.k.set.ord n x.k.width):=hbit.app (isBits_code _ _ _)
   have hpwn:putW ⟨x.k,x.pend,x.bits,true⟩ n=⟨x.k.after n,x.pend,x.bits++codeL x.k.set.ord n x.k.width,true⟩:=by
    unfold putW
    dsimp only
    rw [hth]
   have cPn:=fun wq v lo hr=>put_any ⟨x.k,x.pend,x.bits,true⟩ v lo n wq hk hr (by omega) (by show x.bits.length≤900000;omega) (.inr (.inr ⟨hne.1,hne.2,hfw⟩))
   rw [hpwn] at cPn
   have HK9:=Lib.hid (And.intro hka (And.intro hs9 (And.intro hbl hbits)))
   clear hok hwo hk hr hpe HC hob2 hbit hok1 hos1 hob1 hpwn hth hfw hne hn hfb hlit hlg hopen hka hs9 hbl hbits hbeg
   generalize x.bits++codeL x.k.set.ord n x.k.width=b9 at *
   generalize x.k.after n=k9 at *
   unfold wrV at cPn
   simp only [kV] at cF
   unfold wrV at *
   simp only [setV] at cE
   go_enter Tryz.func78,Tryz.ntmps78
   go_wp2_with (first|(go_at_call 43;(with_reducible refine (cV _ (hrt _ (by (repeat (first|with_reducible exact Up.refl _|with_reducible assumption|with_reducible refine Up.set ?_ (by first|exact Nat.le_refl _|(simp only [];omega)|(simp;omega)) _|with_reducible refine Up.alloc ?_ _|refine Up.trans ?_ (by with_reducible assumption)))))).mono ?_);rintro e w1 ⟨rfl,U1⟩;have B1:=bcell U1;have Z1:=U1.size;(try simp at Z1);(try rw [Nat.add_one_le_iff] at Z1))|fail)
   with_reducible refine (cB _ (hrt _ (by (repeat (first|with_reducible exact Up.refl _|with_reducible assumption|with_reducible refine Up.set ?_ (by first|exact Nat.le_refl _|(simp only [];omega)|(simp;omega)) _|with_reducible refine Up.alloc ?_ _|refine Up.trans ?_ (by with_reducible assumption)))))).mono ?_
   rintro e w2 ⟨v2,rfl,hp2',U2⟩
   obtain ⟨a2,c2,rfl⟩:=put_shape hp2'
   dsimp only at hp2'
   have hX:WrAt w.heap.size x (.slice a x.k.ps.length cap) w2:=box_up (U1.trans U2) (MapKept.heap_alloc w _).1
   have hU2:Up w w2:=by (repeat (first|with_reducible exact Up.refl _|with_reducible assumption|with_reducible refine Up.set ?_ (by first|exact Nat.le_refl _|(simp only [];omega)|(simp;omega)) _|with_reducible refine Up.alloc ?_ _|refine Up.trans ?_ (by with_reducible assumption)))
   have hrd2:=put_rd (y:=⟨x.k,x.pend,x.bits,true⟩) hp2' (HR.out.up (show Up w w1 by (repeat (first|with_reducible exact Up.refl _|with_reducible assumption|with_reducible refine Up.set ?_ (by first|exact Nat.le_refl _|(simp only [];omega)|(simp;omega)) _|with_reducible refine Up.alloc ?_ _|refine Up.trans ?_ (by with_reducible assumption))))) U2
   have hl2:w.heap.size+1≤w2.heap.size:=by have h1:=U1.size;have h2:=U2.size;simp at h1;omega
   clear U1 U2 hp2' cB cV B1 Z1
   dsimp only at hrd2
   unfold wrV
   go_simp
   iterate 13 go_step
   have hUa:Up w2 (w2.alloc (.cells #[.int .i64 x.k.set.ord,.int .i64 x.k.set.lit,.int .i64 x.k.set.most,.slice a2 x.k.ps.length c2,.int .i64 x.k.base,.int .i64 x.k.last,.string (bs x.pend),.string (bs x.bits),.bool true] 29)):=(Up.refl _).alloc _
   have hA:WrAt w2.heap.size ⟨x.k,x.pend,x.bits,true⟩ (.slice a2 x.k.ps.length c2) (w2.alloc (.cells #[.int .i64 x.k.set.ord,.int .i64 x.k.set.lit,.int .i64 x.k.set.most,.slice a2 x.k.ps.length c2,.int .i64 x.k.base,.int .i64 x.k.last,.string (bs x.pend),.string (bs x.bits),.bool true] 29)):=(MapKept.heap_alloc w2 _).1
   have HA:=Lib.hid (And.intro hA (And.intro (hX.up hUa) (And.intro (hU2.trans hUa) (hrd2.up hUa))))
   have hzA:w2.heap.size<(w2.alloc (.cells #[.int .i64 x.k.set.ord,.int .i64 x.k.set.lit,.int .i64 x.k.set.most,.slice a2 x.k.ps.length c2,.int .i64 x.k.base,.int .i64 x.k.last,.string (bs x.pend),.string (bs x.bits),.bool true] 29)).heap.size:=by simp
   have HD:=Lib.hid (And.intro hrd2 hUa)
   clear hA hX hU2 hrd2 hUa hrt
   generalize w2.alloc (.cells #[.int .i64 x.k.set.ord,.int .i64 x.k.set.lit,.int .i64 x.k.set.most,.slice a2 x.k.ps.length c2,.int .i64 x.k.base,.int .i64 x.k.last,.string (bs x.pend),.string (bs x.bits),.bool true] 29)=W3 at *
   obtain ⟨hbx,r0,r1,r2,r3,r4,r5,r6,r7,r8⟩:=HA.out.2.1.cells
   obtain ⟨hby,s0,s1,s2,s3,s4,s5,s6,s7,s8⟩:=HA.out.1.cells
   go_wp2_with fail
   refine wp_region_up 7 (by kernel_rfl) (by kernel_rfl) ?_
   simp only [List.take,List.drop]
   repeat (refine wpUp_step (fun K hK=>?_);go_simp;(try simp only [↓IntWalk.iteOmega]);first
    |(refine hK _ _ ?_;clear hK K)
    |(apply stepU_c
      ·intro wq hwq;(have hbq:=bcell hwq;(repeat (first|refine fills_no (by rfl) ?_|refine fills_yes (by rfl) (fun vq hvq=>?_)));simp only [List.filter_nil,fills];unfold upAt;(try (skip));go_simp;(try go_bits);(try simp only [↓IntWalk.iteOmega]);first|exact upOut_value|(apply upOut_call;(go_at_call 102;exact cF _ _ _ (HA.out.2.2.2.up hwq))))
      go_simp;refine hK _ _ ?_;clear hK K)
    |(refine stepU_m (by kernel_rfl) (PutO W3.heap.size ⟨k9,x.pend,b9,true⟩ x.k.ps (.slice a2 x.k.ps.length c2)) (putO_closed _ _ _ _) (fun wq hwq=>?_) ?_
      ·(have hbq:=bcell hwq;(repeat (first|refine fills_no (by rfl) ?_|refine fills_yes (by rfl) (fun vq hvq=>?_)));simp only [List.filter_nil,fills];unfold upAt;(try (skip));go_simp;(try go_bits);(try simp only [↓IntWalk.iteOmega]);((with_reducible refine upOut_put ?_ hwq.size);go_at_call 107;exact cPn _ _ _ (HA.out.2.2.2.up hwq)))
      refine hK _ _ ?_;clear hK K))
   refine wpUp_nil (fun wq hwq=>?_)
   simp only [fills]
   rintro u ⟨v9,rfl,h9⟩
   obtain ⟨a9,c9,rfl⟩:=put_shape h9
   dsimp only at h9
   have hrd9:RdP 0 wq (.slice a9 k9.ps.length c9) k9.ps:=by
    rcases h9 with ⟨h1,h2⟩|h
    ·rw [h1,h2];exact HA.out.2.2.2.up hwq
    ·exact (RdP.of_own h).low (Nat.zero_le _)
   have HQ:=Lib.hid (And.intro (HA.out.1.up hwq) (And.intro (HA.out.2.1.up hwq) (And.intro (HA.out.2.2.1.trans hwq) hrd9)))
   have hzq:=hwq.size
   have H9:=Lib.hid h9
   have HUQ:=Lib.hid hwq
   clear hwq h9 hrd9 HA cF cPn r0 r1 r2 r3 r4 r5 r6 r7 r8 s0 s1 s2 s3 s4 s5 s6 s7 s8 hbx hby
   obtain ⟨hby,s0,s1,s2,s3,s4,s5,s6,s7,s8⟩:=HQ.out.1.cells
   have hfy:=box_free HQ.out.1
   unfold wrV
   go_simp
   iterate 4 go_step
   have hY:WrAt w2.heap.size ⟨k9,x.pend,b9,true⟩ (.slice a9 k9.ps.length c9) (((((((((wq.setCell ⟨w2.heap.size,0,none⟩ (.int .i64 k9.set.ord)).setCell ⟨w2.heap.size,1,none⟩ (.int .i64 k9.set.lit)).setCell ⟨w2.heap.size,2,none⟩ (.int .i64 k9.set.most)).setCell ⟨w2.heap.size,3,none⟩ (.slice a9 k9.ps.length c9)).setCell ⟨w2.heap.size,4,none⟩ (.int .i64 k9.base)).setCell ⟨w2.heap.size,5,none⟩ (.int .i64 k9.last)).setCell ⟨w2.heap.size,6,none⟩ (.string (bs x.pend))).setCell ⟨w2.heap.size,7,none⟩ (.string (bs b9))).setCell ⟨w2.heap.size,8,none⟩ (.bool true)):=by
    have h0:=WrAt.store HQ.out.1 ⟨k9,x.pend,b9,true⟩ (.slice a9 k9.ps.length c9)
    simpa [WrW,KnW] using h0
   have hneb:w.heap.size≠w2.heap.size:=by omega
   have hX:WrAt w.heap.size x (.slice a x.k.ps.length cap) (((((((((wq.setCell ⟨w2.heap.size,0,none⟩ (.int .i64 k9.set.ord)).setCell ⟨w2.heap.size,1,none⟩ (.int .i64 k9.set.lit)).setCell ⟨w2.heap.size,2,none⟩ (.int .i64 k9.set.most)).setCell ⟨w2.heap.size,3,none⟩ (.slice a9 k9.ps.length c9)).setCell ⟨w2.heap.size,4,none⟩ (.int .i64 k9.base)).setCell ⟨w2.heap.size,5,none⟩ (.int .i64 k9.last)).setCell ⟨w2.heap.size,6,none⟩ (.string (bs x.pend))).setCell ⟨w2.heap.size,7,none⟩ (.string (bs b9))).setCell ⟨w2.heap.size,8,none⟩ (.bool true)):=(WrW.other hneb ⟨k9,x.pend,b9,true⟩ (.slice a9 k9.ps.length c9)).trans HQ.out.2.1
   have hU5:Up w (((((((((wq.setCell ⟨w2.heap.size,0,none⟩ (.int .i64 k9.set.ord)).setCell ⟨w2.heap.size,1,none⟩ (.int .i64 k9.set.lit)).setCell ⟨w2.heap.size,2,none⟩ (.int .i64 k9.set.most)).setCell ⟨w2.heap.size,3,none⟩ (.slice a9 k9.ps.length c9)).setCell ⟨w2.heap.size,4,none⟩ (.int .i64 k9.base)).setCell ⟨w2.heap.size,5,none⟩ (.int .i64 k9.last)).setCell ⟨w2.heap.size,6,none⟩ (.string (bs x.pend))).setCell ⟨w2.heap.size,7,none⟩ (.string (bs b9))).setCell ⟨w2.heap.size,8,none⟩ (.bool true)):=by
    have hU:=HQ.out.2.2.1
    (repeat (first|with_reducible exact Up.refl _|with_reducible assumption|with_reducible refine Up.set ?_ (by first|exact Nat.le_refl _|(simp only [];omega)|(simp;omega)) _|with_reducible refine Up.alloc ?_ _|refine Up.trans ?_ (by with_reducible assumption)))
   have hRd:RdP 0 (((((((((wq.setCell ⟨w2.heap.size,0,none⟩ (.int .i64 k9.set.ord)).setCell ⟨w2.heap.size,1,none⟩ (.int .i64 k9.set.lit)).setCell ⟨w2.heap.size,2,none⟩ (.int .i64 k9.set.most)).setCell ⟨w2.heap.size,3,none⟩ (.slice a9 k9.ps.length c9)).setCell ⟨w2.heap.size,4,none⟩ (.int .i64 k9.base)).setCell ⟨w2.heap.size,5,none⟩ (.int .i64 k9.last)).setCell ⟨w2.heap.size,6,none⟩ (.string (bs x.pend))).setCell ⟨w2.heap.size,7,none⟩ (.string (bs b9))).setCell ⟨w2.heap.size,8,none⟩ (.bool true)) (.slice a9 k9.ps.length c9) k9.ps:=by
    rcases H9.out with ⟨h1,h2⟩|h
    ·have hr9:RdP 0 w2 (.slice a9 k9.ps.length c9) k9.ps:=by rw [h1,h2];exact HD.out.1
     have hU:Up w2 wq:=HD.out.2.trans HUQ.out
     refine hr9.up ?_
     (repeat (first|with_reducible exact Up.refl _|with_reducible assumption|with_reducible refine Up.set ?_ (by first|exact Nat.le_refl _|(simp only [];omega)|(simp;omega)) _|with_reducible refine Up.alloc ?_ _|refine Up.trans ?_ (by with_reducible assumption)))
    ·have hne1:=box_ne HQ.out.1 h (by decide)
     refine (RdP.of_own (base:=W3.heap.size) ?_).low (Nat.zero_le _)
     repeat (with_reducible refine ownsRow_setb ?_ hne1 _ _)
     exact h
   have HA:=Lib.hid (And.intro hY (And.intro hX (And.intro hU5 hRd)))
   have hzA:w2.heap.size<(((((((((wq.setCell ⟨w2.heap.size,0,none⟩ (.int .i64 k9.set.ord)).setCell ⟨w2.heap.size,1,none⟩ (.int .i64 k9.set.lit)).setCell ⟨w2.heap.size,2,none⟩ (.int .i64 k9.set.most)).setCell ⟨w2.heap.size,3,none⟩ (.slice a9 k9.ps.length c9)).setCell ⟨w2.heap.size,4,none⟩ (.int .i64 k9.base)).setCell ⟨w2.heap.size,5,none⟩ (.int .i64 k9.last)).setCell ⟨w2.heap.size,6,none⟩ (.string (bs x.pend))).setCell ⟨w2.heap.size,7,none⟩ (.string (bs b9))).setCell ⟨w2.heap.size,8,none⟩ (.bool true)).heap.size:=by simp [World.setCell];omega
   clear hY hX hU5 HQ hRd s0 s1 s2 s3 s4 s5 s6 s7 s8 hfy hby hzq hneb
   generalize (((((((((wq.setCell ⟨w2.heap.size,0,none⟩ (.int .i64 k9.set.ord)).setCell ⟨w2.heap.size,1,none⟩ (.int .i64 k9.set.lit)).setCell ⟨w2.heap.size,2,none⟩ (.int .i64 k9.set.most)).setCell ⟨w2.heap.size,3,none⟩ (.slice a9 k9.ps.length c9)).setCell ⟨w2.heap.size,4,none⟩ (.int .i64 k9.base)).setCell ⟨w2.heap.size,5,none⟩ (.int .i64 k9.last)).setCell ⟨w2.heap.size,6,none⟩ (.string (bs x.pend))).setCell ⟨w2.heap.size,7,none⟩ (.string (bs b9))).setCell ⟨w2.heap.size,8,none⟩ (.bool true))=W5 at *
   obtain ⟨hbx,r0,r1,r2,r3,r4,r5,r6,r7,r8⟩:=HA.out.2.1.cells
   obtain ⟨hby,s0,s1,s2,s3,s4,s5,s6,s7,s8⟩:=HA.out.1.cells
   go_wp2_with fail
   have hw9:=KnD.width_bd HK9.out.1
   have hs9:=HK9.out.2.1
   have hl9:=HK9.out.2.2.1
   have hib:isBits (b9++codeL x.k.set.ord (clr x.k.set+1) k9.width):=HK9.out.2.2.2.app (isBits_code _ _ _)
   have hil:(b9++codeL x.k.set.ord (clr x.k.set+1) k9.width).length≤1000:=by rw [List.length_append,codeL_length];omega
   have cE9:=fun wq=>l1End_any k9.set wq HK9.out.1.set
   have cP:=fun wq hr=>put_any ⟨k9,x.pend,b9,true⟩ (.slice a9 k9.ps.length c9) 0 (clr k9.set+1) wq HK9.out.1 hr (by rw [hs9];omega) (by show b9.length≤900000;omega) (.inl (by show ((clr k9.set+1:Nat):Int)=(k9.c:Int)+1;unfold KnD.c;omega))
   have hpw:putW ⟨k9,x.pend,b9,true⟩ (clr k9.set+1)=⟨k9,x.pend,b9++codeL x.k.set.ord (clr x.k.set+1) k9.width,true⟩:=by
    unfold putW
    dsimp only
    rw [show k9.thru ((clr k9.set+1:Nat):Int)=k9 by unfold KnD.thru;rw [if_pos (by unfold KnD.c;omega)],hs9]
   rw [hpw,show ((clr k9.set+1:Nat):Int)=(clr k9.set:Int)+1 from by omega] at cP
   clear hpw hs9 cE
   generalize b9++codeL x.k.set.ord (clr x.k.set+1) k9.width=bz at *
   have cK:=fun wx=>l1Pack_any x.k.set.ord (bs bz) wx (by rw [bs_data];exact hib) (by rw [bs_size];omega)
   rw [bs_data] at cK
   unfold wrV at cP
   simp only [setV] at cE9
   refine wp_region_up 6 (by kernel_rfl) (by kernel_rfl) ?_
   simp only [List.take,List.drop]
   repeat (refine wpUp_step (fun K hK=>?_);go_simp;(try simp only [↓IntWalk.iteOmega]);first
    |(refine hK _ _ ?_;clear hK K)
    |(apply stepU_c
      ·intro wq hwq;(have hbq:=bcell hwq;(repeat (first|refine fills_no (by rfl) ?_|refine fills_yes (by rfl) (fun vq hvq=>?_)));simp only [List.filter_nil,fills];unfold upAt;(try (skip));go_simp;(try go_bits);(try simp only [↓IntWalk.iteOmega]);first|exact upOut_value|(apply upOut_call;(go_at_call 131;exact cE9 _)))
      go_simp;refine hK _ _ ?_;clear hK K)
    |(refine stepU_m (by kernel_rfl) (PutO W5.heap.size ⟨k9,x.pend,bz,true⟩ k9.ps (.slice a9 k9.ps.length c9)) (putO_closed _ _ _ _) (fun wq hwq=>?_) ?_
      ·(have hbq:=bcell hwq;(repeat (first|refine fills_no (by rfl) ?_|refine fills_yes (by rfl) (fun vq hvq=>?_)));simp only [List.filter_nil,fills];unfold upAt;(try (skip));go_simp;(try go_bits);(try simp only [↓IntWalk.iteOmega]);((with_reducible refine upOut_put ?_ hwq.size);go_at_call 107;exact cP _ (HA.out.2.2.2.up hwq)))
      refine hK _ _ ?_;clear hK K))
   refine wpUp_nil (fun wq hwq=>?_)
   simp only [fills]
   rintro u ⟨vz,rfl,hz⟩
   obtain ⟨az,cz,rfl⟩:=put_shape hz
   have HQ:=Lib.hid (And.intro (HA.out.1.up hwq) (And.intro (HA.out.2.1.up hwq) (HA.out.2.2.1.trans hwq)))
   have hzq:=hwq.size
   clear hwq hz HA cP cE9 r0 r1 r2 r3 r4 r5 r6 r7 r8 s0 s1 s2 s3 s4 s5 s6 s7 s8 hbx hby
   obtain ⟨hby,s0,s1,s2,s3,s4,s5,s6,s7,s8⟩:=HQ.out.1.cells
   have hfy:=box_free HQ.out.1
   dsimp only
   unfold wrV
   go_simp
   iterate 4 go_step
   have hY:WrAt w2.heap.size ⟨k9,x.pend,bz,true⟩ (.slice az k9.ps.length cz) (((((((((wq.setCell ⟨w2.heap.size,0,none⟩ (.int .i64 k9.set.ord)).setCell ⟨w2.heap.size,1,none⟩ (.int .i64 k9.set.lit)).setCell ⟨w2.heap.size,2,none⟩ (.int .i64 k9.set.most)).setCell ⟨w2.heap.size,3,none⟩ (.slice az k9.ps.length cz)).setCell ⟨w2.heap.size,4,none⟩ (.int .i64 k9.base)).setCell ⟨w2.heap.size,5,none⟩ (.int .i64 k9.last)).setCell ⟨w2.heap.size,6,none⟩ (.string (bs x.pend))).setCell ⟨w2.heap.size,7,none⟩ (.string (bs bz))).setCell ⟨w2.heap.size,8,none⟩ (.bool true)):=by
    have h0:=WrAt.store HQ.out.1 ⟨k9,x.pend,bz,true⟩ (.slice az k9.ps.length cz)
    simpa [WrW,KnW] using h0
   have hneb:w.heap.size≠w2.heap.size:=by omega
   have hX:WrAt w.heap.size x (.slice a x.k.ps.length cap) (((((((((wq.setCell ⟨w2.heap.size,0,none⟩ (.int .i64 k9.set.ord)).setCell ⟨w2.heap.size,1,none⟩ (.int .i64 k9.set.lit)).setCell ⟨w2.heap.size,2,none⟩ (.int .i64 k9.set.most)).setCell ⟨w2.heap.size,3,none⟩ (.slice az k9.ps.length cz)).setCell ⟨w2.heap.size,4,none⟩ (.int .i64 k9.base)).setCell ⟨w2.heap.size,5,none⟩ (.int .i64 k9.last)).setCell ⟨w2.heap.size,6,none⟩ (.string (bs x.pend))).setCell ⟨w2.heap.size,7,none⟩ (.string (bs bz))).setCell ⟨w2.heap.size,8,none⟩ (.bool true)):=(WrW.other hneb ⟨k9,x.pend,bz,true⟩ (.slice az k9.ps.length cz)).trans HQ.out.2.1
   have hU5:Up w (((((((((wq.setCell ⟨w2.heap.size,0,none⟩ (.int .i64 k9.set.ord)).setCell ⟨w2.heap.size,1,none⟩ (.int .i64 k9.set.lit)).setCell ⟨w2.heap.size,2,none⟩ (.int .i64 k9.set.most)).setCell ⟨w2.heap.size,3,none⟩ (.slice az k9.ps.length cz)).setCell ⟨w2.heap.size,4,none⟩ (.int .i64 k9.base)).setCell ⟨w2.heap.size,5,none⟩ (.int .i64 k9.last)).setCell ⟨w2.heap.size,6,none⟩ (.string (bs x.pend))).setCell ⟨w2.heap.size,7,none⟩ (.string (bs bz))).setCell ⟨w2.heap.size,8,none⟩ (.bool true)):=by
    have hU:=HQ.out.2.2
    (repeat (first|with_reducible exact Up.refl _|with_reducible assumption|with_reducible refine Up.set ?_ (by first|exact Nat.le_refl _|(simp only [];omega)|(simp;omega)) _|with_reducible refine Up.alloc ?_ _|refine Up.trans ?_ (by with_reducible assumption)))
   have HF:=Lib.hid (And.intro hY (And.intro hX hU5))
   clear hY hX hU5 HQ s0 s1 s2 s3 s4 s5 s6 s7 s8 hfy
   generalize (((((((((wq.setCell ⟨w2.heap.size,0,none⟩ (.int .i64 k9.set.ord)).setCell ⟨w2.heap.size,1,none⟩ (.int .i64 k9.set.lit)).setCell ⟨w2.heap.size,2,none⟩ (.int .i64 k9.set.most)).setCell ⟨w2.heap.size,3,none⟩ (.slice az k9.ps.length cz)).setCell ⟨w2.heap.size,4,none⟩ (.int .i64 k9.base)).setCell ⟨w2.heap.size,5,none⟩ (.int .i64 k9.last)).setCell ⟨w2.heap.size,6,none⟩ (.string (bs x.pend))).setCell ⟨w2.heap.size,7,none⟩ (.string (bs bz))).setCell ⟨w2.heap.size,8,none⟩ (.bool true))=W9 at HF ⊢
   obtain ⟨hby,s0,s1,s2,s3,s4,s5,s6,s7,s8⟩:=HF.out.1.cells
   obtain ⟨hbx,r0,r1,r2,r3,r4,r5,r6,r7,r8⟩:=HF.out.2.1.cells
   go_wp2_with (first|((go_at_call 47;(with_reducible refine (cK _).mono ?_);rintro e w8 ⟨rfl,U8⟩;have B8:=bcell U8;have Z8:=U8.size;(try simp at Z8);(try rw [Nat.add_one_le_iff] at Z8)))|fail)
   go_ret2
   exact ⟨rfl,HF.out.2.2.trans U8⟩
end Go.Proofs.YtekogcjdaolcbaaGreatDoor
/- Plain: what WriteData leaves, valid or not, as one value; what szWriter says of the sizes. Conditions: none. -/
namespace Go.Proofs.YtekogcjdaolcbaaGreatDoor
open Go Go.RowKit
def oWr (o:Option (WrD × List UInt8)):WrD:=(o.map (·.1)).getD wr0
def oBy (o:Option (WrD × List UInt8)):List UInt8:=(o.map (·.2)).getD []
theorem ownPr_nil (w:World) (base:Nat):ownPr w base (.slice none 0 0) []:=⟨by simp [cellsPr],.inl ⟨rfl,rfl⟩⟩
theorem wdP_all {o:Option (WrD × List UInt8)} {w w':World} {e:Ending} (h:WdPost o w e w'): ∃ v,e= .returned (.tuple #[wrV (oWr o) v,.string (bs (oBy o)),.bool o.isSome])∧ownPr w' w.heap.size v (oWr o).k.ps∧Up w w':=by
 cases o with
 |none=>exact ⟨.slice none 0 0,h.1,ownPr_nil _ _,h.2⟩
 |some x=>obtain ⟨v,he,ho,hu⟩:=h;exact ⟨v,he,ho,hu⟩
end Go.Proofs.YtekogcjdaolcbaaGreatDoor
/- WriteAll of the reference, for what is known of any kind and any parts. Conditions: the parts are at most 2^20, each of at most 2^20 bytes. -/
namespace Go.Proofs.YtekogcjdaolcbaaGreatDoor
open Go Go.RowKit
def waW:WrD→List ByteArray→List UInt8→Option (List UInt8)
 |w,[],out=>(wcO w).map (out++ ·)
 |w,p :: ps,out=>match wdO w p.data.toList with
  |none=>none
  |some r=>waW r.1 ps (out++r.2)
def waG (k:KnD) (ps:List ByteArray):Option (List UInt8):=if validK k then waW ⟨k,[],[],false⟩ ps [] else none
def nwX (k:KnD):WrD:=if validK k then ⟨k,[],[],false⟩ else wr0
theorem nwP_all {k:KnD} {w w':World} {e:Ending} (h:NwPost k w e w'): ∃ v,e= .returned (.tuple #[wrV (nwX k) v,.bool (validK k)])∧ownPr w' w.heap.size v (nwX k).k.ps∧Up w w':=by
 unfold NwPost at h
 unfold nwX
 split at h
 ·rename_i hv
  rw [if_pos hv,hv]
  exact h
 ·rename_i hv
  rw [if_neg hv,Bool.eq_false_iff.2 hv]
  exact ⟨.slice none 0 0,h.1,ownPr_nil _ _,h.2⟩
theorem wdO_case {x:WrD} {d:List UInt8} :(wdO x d=none∧oWr (wdO x d)=wr0∧oBy (wdO x d)= [])∨(∃ r,wdO x d=some r∧oWr (wdO x d)=r.1∧oBy (wdO x d)=r.2∧wrOk r.1∧r.2.length≤41000):=by
 cases hb:(wrvB x && fitsB x.k.set (x.pend++d))
 ·left
  rw [wdO_none hb]
  exact ⟨rfl,rfl,rfl⟩
 ·right
  obtain ⟨h1,h2⟩:=Bool.and_eq_true_iff.1 hb
  obtain ⟨-,h3,h4⟩:=fitsB_lits h2
  have hx:=wrvB_ok h1
  have hl: ∀ b∈d,b.toNat<clr x.k.set:=fun b hb=>h4 b (List.mem_append_right _ hb)
  rw [wdO_some hb]
  refine ⟨x.write d,rfl,rfl,rfl,(wrOk_write hx hl h3).1,?_⟩
  unfold WrD.write
  split
  ·exact Nat.zero_le _
  ·rename_i h
   have hs:=(WlD.outs _ _ _ _ (WlD.start hx h hl h3)).2
   show (packL _ _).length≤41000
   rw [packL_length,List.length_take]
   have hs':(x.all d).length≤41000:=hs
   omega
theorem wrOk_new {k:KnD} (h:validK k=true):wrOk ⟨k,[],[],false⟩:=by
 obtain ⟨h1,h2⟩:=ok_of_valid h
 exact ⟨h1,h2,(fun b hb=>absurd hb (List.not_mem_nil)),Nat.zero_le _,(fun b hb=>absurd hb (List.not_mem_nil)),Nat.zero_le _,.inl rfl,fun _=>⟨rfl,rfl⟩⟩
theorem wrOk_bd {x:WrD} (h:wrOk x):(-9223372036854775808≤x.k.set.lit∧x.k.set.lit≤9223372036854775807)∧x.k.ps.length≤1048576∧x.pend.length≤1048576∧x.bits.length≤1048576:=by
 have h1:=h.1.nums
 have h2:=h.2.2.2.1
 have h3:=h.2.2.2.2.2.1
 obtain ⟨-,⟨g1,g2⟩,-,-⟩:=setOk_bd h.1.set
 exact ⟨by omega,by omega,by omega,by omega⟩
theorem close_len {x:WrD} (h:wrOk x):x.close.length≤1000:=by
 obtain ⟨h1,-⟩:=open_len h
 obtain ⟨hok,-⟩:=WrD.open_ok h.1
 have h7:=h.2.2.2.2.2.1
 by_cases hpe:x.pend= []
 ·have:=KnD.width_bd hok
  rw [close_nil hpe,packL_length,List.length_append,codeL_length];omega
 ·have hbeg:x.beg=true:=by
   cases hb:x.beg
   ·exact absurd (h.2.2.2.2.2.2.2 hb).1 hpe
   ·rfl
  have hopen:x.open=(x.bits,x.k):=by unfold WrD.open;rw [hbeg];rfl
  have hlg:x.k.longest x.pend=x.pend:=(h.2.2.2.2.2.2.1).resolve_left hpe
  obtain ⟨hfw,-⟩:=KnD.find_any h.1 hpe h.2.2.1
  rw [hlg] at hfw
  have hfb:=KnD.find_bd h.1 hfw
  obtain ⟨n,hn⟩:=Int.eq_ofNat_of_zero_le hfb.1
  have hth:=KnD.thru_fol h.1 hfw
  have hwd:=KnD.width_bd h.1
  have hwa:=KnD.width_bd (KnD.after_ok h.1 hfw)
  rw [hn] at hth hwa
  rw [close_word hpe hopen hn hth,packL_length,List.length_append,List.length_append,codeL_length,codeL_length];omega
structure WaAt (T:Option (List UInt8)) (ps:List ByteArray) (j:Nat) (ok:Bool) (x:WrD) (out:List UInt8):Prop where
 le:j≤ps.length
 len:out.length≤41000 * j
 yes:ok=true→wrOk x∧waW x (ps.drop j) out=T
 no:ok=false→x=wr0∧T=none
theorem WaAt.bd {T:Option (List UInt8)} {ps:List ByteArray} {j:Nat} {ok:Bool} {x:WrD} {out:List UInt8} (h:WaAt T ps j ok x out):(-9223372036854775808≤x.k.set.lit∧x.k.set.lit≤9223372036854775807)∧x.k.ps.length≤1048576∧x.pend.length≤1048576∧x.bits.length≤1048576:=by
 cases ok
 ·rw [(h.no rfl).1];decide
 ·exact wrOk_bd (h.yes rfl).1
theorem WaAt.start (k:KnD) (ps:List ByteArray):WaAt (waG k ps) ps 0 (validK k) (nwX k) []:=by
 unfold waG nwX
 refine WaAt.mk (Nat.zero_le _) (Nat.zero_le _) (fun h=>?_) (fun h=>?_)
 ·rw [if_pos h,if_pos h]
  exact ⟨wrOk_new h,rfl⟩
 ·rw [if_neg (by rw [h];simp),if_neg (by rw [h];simp)]
  exact ⟨rfl,rfl⟩
theorem WaAt.next {T:Option (List UInt8)} {ps:List ByteArray} {j:Nat} {x:WrD} {out:List UInt8} (h:WaAt T ps j true x out) (hj:j<ps.length) :
  WaAt T ps (j+1) (wdO x ps[j].data.toList).isSome (oWr (wdO x ps[j].data.toList)) (out++oBy (wdO x ps[j].data.toList))∧(oBy (wdO x ps[j].data.toList)).length≤41000:=by
 have hT:=(h.yes rfl).2
 rw [List.drop_eq_getElem_cons hj,waW] at hT
 have hl:=h.len
 generalize ps[j].data.toList=d at *
 obtain h0|⟨r,h1,h2,h3,h4,h5⟩:=wdO_case (x:=x) (d:=d)
 ·obtain ⟨h1,h2,h3⟩:=h0
  rw [h2,h3]
  rw [h1] at hT ⊢
  exact ⟨WaAt.mk hj (by rw [List.append_nil];omega) (fun e=>by cases e) (fun _=>⟨rfl,hT.symm⟩),Nat.zero_le _⟩
 ·rw [h2,h3]
  rw [h1] at hT ⊢
  exact ⟨WaAt.mk hj (by rw [List.length_append];omega) (fun _=>⟨h4,hT⟩) (fun e=>by cases e),h5⟩
theorem WaAt.fin {T:Option (List UInt8)} {ps:List ByteArray} {j:Nat} {x:WrD} {out:List UInt8} (h:WaAt T ps j true x out) (hj:j=ps.length):wcO x=some x.close∧T=some (out++x.close)∧x.close.length≤1000:=by
 obtain ⟨h1,h2⟩:=h.yes rfl
 rw [hj,List.drop_length,waW,wcO_some (wrvB_of h1)] at h2
 exact ⟨wcO_some (wrvB_of h1),h2.symm,close_len h1⟩
def RelWs (T:Option (List UInt8)) (ps:List ByteArray) (b:Nat) (w1:World) (ok out by' i:Value) (wr:World):Prop:= ∃ (j:Nat) (o:Bool) (x:WrD) (v:Value) (out':List UInt8) (s:ByteArray),
 ok= .bool o∧out= .string (bs out')∧by'= .string s∧i= .int .i64 j∧WaAt T ps j o x out'∧WrAt b x v wr∧RdP 0 wr v x.k.ps∧Up w1 wr
def PtO (lo:Nat) (o:Option (WrD × List UInt8)) (u:Value) (w:World):Prop:= ∃ v,u= .tuple #[wrV (oWr o) v,.string (bs (oBy o)),.bool o.isSome]∧RdP lo w v (oWr o).k.ps
theorem ptO_closed {lo:Nat} {o:Option (WrD × List UInt8)} : ∀ u,UpClosed (PtO lo o u):=fun u w w' ⟨v,h1,h2⟩ hu=>⟨v,h1,h2.up hu⟩
def WrO' (lo:Nat) (y:WrD) (u:Value) (w:World):Prop:= ∃ v,u=wrV y v∧RdP lo w v y.k.ps
theorem wrO'_closed {lo:Nat} {y:WrD} : ∀ u,UpClosed (WrO' lo y u):=fun u w w' ⟨v,h1,h2⟩ hu=>⟨v,h1,h2.up hu⟩
theorem upOut_ptO {f:FuncId} {args:Array Value} {w:World} {o:Option (WrD × List UInt8)} {lo:Nat} (h:Calls Tryz.prog f args w (WdPost o w)) (hb:lo≤w.heap.size):upOut Tryz.prog (PtO lo o) w (.ok (.enter f args) w) :=
 ⟨rfl,h.mono fun e w' hP=>by obtain ⟨v,he,ho,hu⟩:=wdP_all hP;exact ⟨_,he,hu,v,rfl,(RdP.of_own ho).low hb⟩⟩
set_option maxRecDepth 100000 in
set_option maxHeartbeats 8000000 in
theorem waS_any (k:KnD) (v vp:Value) (lo:Nat) (ps:List ByteArray) (w:World) (hr:RdP lo w v k.ps) (hps:k.ps.length≤1048576) (hp:ArgS w vp ps) (hn:ps.length≤1048576) (hsz: ∀ s∈ps,s.size≤1048576) :
  Calls Tryz.prog 20  #[kV k v,vp] w (Same (optS (waG k ps)) w):=by
 have cN:=fun wq hr=>nwS_any k v lo wq hr hps
 have hrt:=fun (wq:World) (hu:Up w wq)=>hr.up hu
 have hpt:=fun (wq:World) (hu:Up w wq)=>hp.up hu
 have hS:=Lib.hid (WaAt.start k ps)
 obtain ⟨a,cap,rfl,-,-,-,-⟩:=id hr
 obtain ⟨ap,cp,rfl,hpm,-,-⟩:=id hp
 obtain ⟨T,hT⟩: ∃ T,Hid (T=waG k ps):=⟨_,rfl⟩
 rw [← hT.out] at hS ⊢
 unfold maxLen at hpm
 simp only [kV] at *
 go_enter Tryz.func20,Tryz.ntmps20
 go_wp2_with fail
 (with_reducible refine (cN _ (hrt _ (by (repeat (first|with_reducible exact Up.refl _|with_reducible assumption|with_reducible refine Up.alloc ?_ _|refine Up.trans ?_ (by with_reducible assumption)))))).mono ?_);rintro e w1 hP;obtain ⟨v1,rfl,ho1,U1⟩:=nwP_all hP
 obtain ⟨a1,c1,rfl⟩:=ownsRow_shape ho1
 have hU1:Up w w1:=by (repeat (first|with_reducible exact Up.refl _|with_reducible assumption|with_reducible refine Up.alloc ?_ _|refine Up.trans ?_ (by with_reducible assumption)))
 generalize nwX k=x0 at *
 generalize validK k=ok0 at *
 clear hP U1 cN hr hp
 unfold wrV
 go_wp2_with fail
 have hX1:WrAt w1.heap.size x0 (.slice a1 x0.k.ps.length c1) (w1.alloc (.cells #[.int .i64 x0.k.set.ord,.int .i64 x0.k.set.lit,.int .i64 x0.k.set.most,.slice a1 x0.k.ps.length c1,.int .i64 x0.k.base,.int .i64 x0.k.last,.string (bs x0.pend),.string (bs x0.bits),.bool x0.beg] 29)):=(MapKept.heap_alloc w1 _).1
 have hUa:Up w1 (w1.alloc (.cells #[.int .i64 x0.k.set.ord,.int .i64 x0.k.set.lit,.int .i64 x0.k.set.most,.slice a1 x0.k.ps.length c1,.int .i64 x0.k.base,.int .i64 x0.k.last,.string (bs x0.pend),.string (bs x0.bits),.bool x0.beg] 29)):=(Up.refl _).alloc _
 have hr1:RdP 0 (w1.alloc (.cells #[.int .i64 x0.k.set.ord,.int .i64 x0.k.set.lit,.int .i64 x0.k.set.most,.slice a1 x0.k.ps.length c1,.int .i64 x0.k.base,.int .i64 x0.k.last,.string (bs x0.pend),.string (bs x0.bits),.bool x0.beg] 29)) (.slice a1 x0.k.ps.length c1) x0.k.ps:=((RdP.of_own ho1).low (Nat.zero_le _)).up hUa
 have HL0:=Lib.hid (And.intro hX1 (And.intro hUa hr1))
 clear hX1 hUa hr1 ho1
 generalize (w1.alloc (.cells #[.int .i64 x0.k.set.ord,.int .i64 x0.k.set.lit,.int .i64 x0.k.set.most,.slice a1 x0.k.ps.length c1,.int .i64 x0.k.base,.int .i64 x0.k.last,.string (bs x0.pend),.string (bs x0.bits),.bool x0.beg] 29))=W at *
 go_loopw [7,8,9,10] (fun ok out by' i wr=>RelWs T ps w1.heap.size w1 ok out by' i wr) (fun _ _ _ i _=>ps.length - (intOf i).toNat)
 case atStart=>exact ⟨0,ok0,x0,_,[],_,rfl,rfl,rfl,rfl,hS.out,HL0.out.1,HL0.out.2.2,HL0.out.2.1⟩
 case round =>
  clear HL0 hS
  obtain ⟨j,o,x,v,out',s,rfl,rfl,rfl,rfl,hM,hX,hrx,hU⟩:=hrel
  have hUw:=hU1.trans hU
  obtain ⟨hb1,hb2,hb3,hb4⟩:=hM.bd
  have hol:=hM.len
  have hj:=hM.le
  have hos:=bs_size out'
  obtain ⟨av,cv,rfl,-⟩:=id hrx
  obtain ⟨hbk,r0,r1,r2,r3,r4,r5,r6,r7,r8⟩:=hX.cells
  cases o
  ·obtain ⟨hx0,hT0⟩:=hM.no rfl
   have cC:=fun wq h=>wcS_any x (.slice av x.k.ps.length cv) 0 wq h hb2 hb3 hb4
   obtain ⟨sa,sb,hsab⟩: ∃ sa sb,optS (wcO x)= .tuple #[.string sa,.bool sb]:=⟨_,_,rfl⟩
   rw [hsab] at cC
   have HT0:=Lib.hid hT0
   clear hsab hM hx0 hT0
   unfold wrV at cC
   by_cases hlt:j<ps.length
   ·go_wp2_with fail
    (with_reducible refine (cC _ hrx).mono ?_);rintro e w7 ⟨rfl,U7⟩
    go_wp2_with fail
    go_ret2
    exact ⟨by rw [HT0.out];rfl,hUw.trans U7⟩
   ·go_wp2_with fail
    (with_reducible refine (cC _ hrx).mono ?_);rintro e w7 ⟨rfl,U7⟩
    go_wp2_with fail
    go_ret2
    exact ⟨by rw [HT0.out];rfl,hUw.trans U7⟩
  ·by_cases hlt:j<ps.length
   ·obtain ⟨gb,off,rfl,hgb,hgk,-,hnc,hcm⟩:=(hpt _ hUw).at hlt
    unfold maxLen at hcm
    have hs1:=hsz _ (List.getElem_mem hlt)
    obtain ⟨hN,hNl⟩:=hM.next hlt
    have HN:=Lib.hid hN
    have hsl:(ps[j]).data.toList.length=(ps[j]).size:=rfl
    have cI1: ∀ wq v,RdP 0 wq v x.k.ps→Calls Tryz.prog 8  #[wrV x v,.string (ps[j])] wq (WdPost (wdO x (ps[j]).data.toList) wq):=fun wq v h=>wdS_any x v 0 (ps[j]).data.toList wq h hb2 hb3 hb4 (by omega)
    clear hN hM hsl
    generalize wdO x (ps[j]).data.toList=X at *
    generalize ps[j]=s1 at *
    have hyl:=bs_size (oBy X)
    have hcat:bs out'++bs (oBy X)=bs (out'++oBy X):=bs_app _ _
    unfold wrV at cI1
    have hgw:gb<wr.heap.size:=hgb
    go_wp2_with fail
    refine wp_region_upf 10 (by kernel_rfl) (by kernel_rfl) ?_
    simp only [List.take,List.drop]
    repeat (refine wpUp_step (fun K hK=>?_);go_simp;(try simp only [↓IntWalk.iteOmega]);first
     |(refine hK _ _ ?_;clear hK K)
     |(apply stepU_c
       ·intro wq hwq;(have hbq:=bcell hwq;(repeat (first|refine fills_no (by rfl) ?_|refine fills_yes (by rfl) (fun vq hvq=>?_)));simp only [List.filter_nil,fills];unfold upAt;(try ((obtain ⟨v',rfl,hv'⟩:=hvq)));go_simp;(try go_bits);(try simp only [↓IntWalk.iteOmega]);first|exact upOut_value)
       go_simp;refine hK _ _ ?_;clear hK K)
     |(refine stepU_m (by kernel_rfl) (PtO (w1.heap.size+1) X) (ptO_closed) (fun wq hwq=>?_) ?_
       ·(have hbq:=bcell hwq;(repeat (first|refine fills_no (by rfl) ?_|refine fills_yes (by rfl) (fun vq hvq=>?_)));simp only [List.filter_nil,fills];unfold upAt;(try ((obtain ⟨v',rfl,hv'⟩:=hvq)));go_simp;(try go_bits);(try simp only [↓IntWalk.iteOmega]);((with_reducible refine upOut_ptO ?_ (by have:=hwq.size;omega));exact cI1 _ _ (hrx.up hwq)))
       refine hK _ _ ?_;clear hK K)
     |(refine stepU_m (by kernel_rfl) (PtO (w1.heap.size+1) X) (ptO_closed) (fun wq hwq=>?_) ?_
       ·(have hbq:=bcell hwq;(repeat (first|refine fills_no (by rfl) ?_|refine fills_yes (by rfl) (fun vq hvq=>?_)));simp only [List.filter_nil,fills];unfold upAt;(try ((obtain ⟨v',rfl,hv'⟩:=hvq)));go_simp;(try go_bits);(try simp only [↓IntWalk.iteOmega]);(exact ⟨Up.refl _,v',rfl,hv'⟩))
       refine hK _ _ ?_;clear hK K)
     |(refine stepU_m (by kernel_rfl) (WrO' (w1.heap.size+1) (oWr X)) (wrO'_closed) (fun wq hwq=>?_) ?_
       ·(have hbq:=bcell hwq;(repeat (first|refine fills_no (by rfl) ?_|refine fills_yes (by rfl) (fun vq hvq=>?_)));simp only [List.filter_nil,fills];unfold upAt;(try ((obtain ⟨v',rfl,hv'⟩:=hvq)));go_simp;(try go_bits);(try simp only [↓IntWalk.iteOmega]);(exact ⟨Up.refl _,v',rfl,hv'⟩))
       refine hK _ _ ?_;clear hK K))
    refine wpUp_nil (fun wq hwq=>?_)
    simp only [fills]
    rintro u1 ⟨v9,rfl,hv9⟩ u2 ⟨v2',rfl,-⟩ u3 ⟨v3',rfl,-⟩
    obtain ⟨a9,c9,rfl,-⟩:=id hv9
    have hXq:=hX.up hwq
    generalize oWr X=y1 at *
    have hK2:WrAt w1.heap.size y1 (.slice a9 y1.k.ps.length c9) (WrW wq w1.heap.size y1 (.slice a9 y1.k.ps.length c9)):=WrAt.store hXq y1 _
    have hr9:RdP 0 (WrW wq w1.heap.size y1 (.slice a9 y1.k.ps.length c9)) (.slice a9 y1.k.ps.length c9) y1.k.ps:=by
     unfold WrW KnW
     refine RdP.low (lo:=w1.heap.size+1) ?_ (Nat.zero_le _)
     (repeat (with_reducible refine RdP.set ?_ (Nat.lt_succ_self _) _ _));exact hv9
    have hU9:Up w1 (WrW wq w1.heap.size y1 (.slice a9 y1.k.ps.length c9)):=WrW.up (hU.trans hwq) (Nat.le_refl _) y1 _
    have HH:=Lib.hid (And.intro hK2 (And.intro hr9 hU9))
    obtain ⟨hbq,q0,q1,q2,q3,q4,q5,q6,q7,q8⟩:=hXq.cells
    have hfr:=box_free hXq
    clear hK2 hr9 hU9 hXq hv9 hrx hX r0 r1 r2 r3 r4 r5 r6 r7 r8
    unfold wrV
    go_simp
    iterate 4 go_step
    rw [show (((((((((wq.setCell ⟨w1.heap.size,0,none⟩ (.int .i64 y1.k.set.ord)).setCell ⟨w1.heap.size,1,none⟩ (.int .i64 y1.k.set.lit)).setCell ⟨w1.heap.size,2,none⟩ (.int .i64 y1.k.set.most)).setCell ⟨w1.heap.size,3,none⟩ (.slice a9 y1.k.ps.length c9)).setCell ⟨w1.heap.size,4,none⟩ (.int .i64 y1.k.base)).setCell ⟨w1.heap.size,5,none⟩ (.int .i64 y1.k.last)).setCell ⟨w1.heap.size,6,none⟩ (.string (bs y1.pend))).setCell ⟨w1.heap.size,7,none⟩ (.string (bs y1.bits))).setCell ⟨w1.heap.size,8,none⟩ (.bool y1.beg))=WrW wq w1.heap.size y1 (.slice a9 y1.k.ps.length c9) from rfl]
    generalize WrW wq w1.heap.size y1 (.slice a9 y1.k.ps.length c9)=W9 at *
    clear q0 q1 q2 q3 q4 q5 q6 q7 q8 hfr hbq
    go_wp2_with fail
    rw [onlyN_normal]
    go_wp2_with fail
    go_roundw
    case rel=>exact ⟨j+1,_,y1,_,out'++oBy X,_,rfl,rfl,rfl,by go_num,HN.out,HH.out.1,HH.out.2.1,HH.out.2.2⟩
    case measure=>simp [intOf];omega
   ·obtain ⟨h1,h2,h3⟩:=hM.fin (by omega)
    have cC:=fun wq h=>wcS_any x (.slice av x.k.ps.length cv) 0 wq h hb2 hb3 hb4
    rw [h1] at cC
    have hcs:=bs_size x.close
    have hcat:bs out'++bs x.close=bs (out'++x.close):=bs_app _ _
    have HT2:=Lib.hid h2
    clear h1 h2 hM
    unfold optS at cC
    simp only [Option.getD_some,Option.isSome_some] at cC
    unfold wrV at cC
    generalize x.close=cl at *
    go_wp2_with fail
    (with_reducible refine (cC _ hrx).mono ?_);rintro e w7 ⟨rfl,U7⟩
    go_wp2_with fail
    go_ret2
    exact ⟨by rw [HT2.out];rfl,hUw.trans U7⟩
end Go.Proofs.YtekogcjdaolcbaaGreatDoor
/- Walks of the program's advance and walkCodes. Conditions: what is known is valid and can be read; the codes can follow, and their data fits. -/
namespace Go.Proofs.YtekogcjdaolcbaaGreatDoor
open Go Go.RowKit
def AdvPost (k:KnD) (B:Nat) (v:Value) (w:World) (e:Ending) (w':World):Prop:= ∃ v',e= .returned (kV k v')∧ownPr w' B v' k.ps∧Fr (fun b=>v.ownBlock=some b) w w'
set_option maxRecDepth 100000 in
set_option maxHeartbeats 4000000 in
theorem advC_any (k:KnD) (v:Value) (B:Nat) (y:Int) (w:World) (h:k.Ok) (hB:B≤w.heap.size) (hown:ownPr w B v k.ps) :
  Calls Tryz.prog 137  #[kV k v,.int .i64 (k.c:Nat),.int .u8 y] w (AdvPost k.cleared B v w):=by
 have h0:=h.base0
 have h1:=h.base1
 have hpl:=h.nums.2.2.2.1
 have cK:=fun w=>clearI_any k.set w h.set
 obtain ⟨m,hm⟩: ∃ m:Nat,k.base=m:=⟨k.base.toNat,by omega⟩
 have hml:m≤k.ps.length:=by omega
 have e:Hid (k.cleared=⟨k.set,k.ps.take m,m,-1⟩):=by unfold Hid KnD.cleared;rw [hm];rfl
 obtain ⟨a,cap,rfl⟩:=ownsRow_shape hown
 have hcp:=ownsRow_cap hown
 have hcut:=ownsRow_cut hown hml
 rw [cellsPr_take] at hcut
 have hlt:(k.ps.take m).length=m:=by rw [List.length_take];omega
 have HC:Hid (ownPr w B (.slice a m cap) (k.ps.take m)):=by unfold Hid ownPr;rw [hlt];exact hcut
 have ec:k.c=clr k.set:=rfl
 have hnil:a=none→m=0∧cap=0:=fun ha=>by
  subst ha
  rcases hown.2 with ⟨e1,e2⟩|⟨g,cp,cur,e1,_⟩
  ·simp only [Value.slice.injEq] at e1;exact ⟨by omega,e1.2.2⟩
  ·simp at e1
 have HK0:KnAt w.heap.size k (.slice a k.ps.length cap) (w.alloc (.cells #[.int .i64 k.set.ord,.int .i64 k.set.lit,.int .i64 k.set.most,.slice a k.ps.length cap,.int .i64 k.base,.int .i64 k.last] 27)):=(MapKept.heap_alloc w _).1
 rw [e.out,ec]
 simp only [kV]
 rw [hm] at HK0 ⊢
 clear h e hown hcut hlt h0 h1 ec
 cases a with
 |none =>
  obtain ⟨e1,e2⟩:=hnil rfl
  subst e1;subst e2
  go_enter Tryz.func137,Tryz.ntmps137
  go_wp2_with ((go_at_call 40;(with_reducible refine (cK _).mono ?_);rintro e w1 ⟨rfl,U1⟩;have B1:=bcell U1;have Z1:=U1.size;(try simp at Z1);(try rw [Nat.add_one_le_iff] at Z1));obtain ⟨hb0,r0,r1,r2,r3,r4,r5⟩:=box_up U1 (box_up ((Up.refl _).alloc _) (MapKept.heap_alloc w (.cells #[.int .i64 k.set.ord,.int .i64 k.set.lit,.int .i64 k.set.most,.slice none k.ps.length 0,.int .i64 ((0:Nat):Int),.int .i64 k.last] 27)).1) |> fun h=>KnAt.cells (b:=w.heap.size) (k:=⟨k.set,[],((0:Nat):Int),k.last⟩) (v:= .slice none k.ps.length 0) h;have hf0:=box_free (box_up U1 (box_up ((Up.refl _).alloc _) (MapKept.heap_alloc w (.cells #[.int .i64 k.set.ord,.int .i64 k.set.lit,.int .i64 k.set.most,.slice none k.ps.length 0,.int .i64 ((0:Nat):Int),.int .i64 k.last] 27)).1));obtain ⟨hb1,q0,q1,q2,q3,q4,q5⟩:=KnAt.cells (b:=w.heap.size+1) (k:=⟨⟨0,0,0⟩,[],0,0⟩) (v:= .slice none 0 0) (box_up U1 (alloc2 w _ _));have hf1:=box_free (box_up U1 (alloc2 w _ _)))
  refine bodyPost_ret (v:=kV ⟨k.set,k.ps.take 0,((0:Nat):Int),-1⟩ (.slice none 0 0)) (by simp [results,Tryz.results137,go_sem,q0,q1,q2,q3,q4,q5]) rfl ⟨_,rfl,?_,?_⟩
  ·exact World.ownsRow_nil _ _ _ _
  ·refine Fr.of _ ?_
   (repeat (first|with_reducible exact Up.refl _|with_reducible assumption|with_reducible refine Up.set ?_ (by first|exact Nat.le_refl _|(simp only [];omega)|(simp;omega)) _|with_reducible refine Up.alloc ?_ _|refine Up.trans ?_ (by with_reducible assumption)))
 |some ad =>
  go_enter Tryz.func137,Tryz.ntmps137
  go_wp2_with ((go_at_call 40;(with_reducible refine (cK _).mono ?_);rintro e w1 ⟨rfl,U1⟩;have B1:=bcell U1;have Z1:=U1.size;(try simp at Z1);(try rw [Nat.add_one_le_iff] at Z1));obtain ⟨hb0,r0,r1,r2,r3,r4,r5⟩:=KnAt.cells (b:=w.heap.size) (k:=⟨k.set,k.ps,(m:Int),k.last⟩) (v:= .slice (some ad) k.ps.length cap) (box_up U1 (box_up ((Up.refl _).alloc _) (MapKept.heap_alloc w _).1));have hf0:=box_free (box_up U1 (box_up ((Up.refl _).alloc _) (MapKept.heap_alloc w (.cells #[.int .i64 k.set.ord,.int .i64 k.set.lit,.int .i64 k.set.most,.slice (some ad) k.ps.length cap,.int .i64 (m:Int),.int .i64 k.last] 27)).1));obtain ⟨hb1,q0,q1,q2,q3,q4,q5⟩:=KnAt.cells (b:=w.heap.size+1) (k:=⟨⟨0,0,0⟩,[],0,0⟩) (v:= .slice none 0 0) (box_up U1 (alloc2 w _ _));have hf1:=box_free (box_up U1 (alloc2 w _ _)))
  have hU:Up w w1:=by (repeat (first|with_reducible exact Up.refl _|with_reducible assumption|with_reducible refine Up.set ?_ (by first|exact Nat.le_refl _|(simp only [];omega)|(simp;omega)) _|with_reducible refine Up.alloc ?_ _|refine Up.trans ?_ (by with_reducible assumption)))
  refine bodyPost_ret (v:=kV ⟨k.set,k.ps.take m,(m:Int),-1⟩ (.slice (some ad) m cap)) (by simp [results,Tryz.results137,go_sem,q0,q1,q2,q3,q4,q5]) rfl ⟨_,rfl,?_,?_⟩
  ·refine ownsRow_up HC.out ?_
   (repeat (first|with_reducible exact Up.refl _|with_reducible assumption|with_reducible refine Up.set ?_ (by first|exact Nat.le_refl _|(simp only [];omega)|(simp;omega)) _|with_reducible refine Up.alloc ?_ _|refine Up.trans ?_ (by with_reducible assumption)))
  ·refine Fr.of _ ?_
   (repeat (first|with_reducible exact Up.refl _|with_reducible assumption|with_reducible refine Up.set ?_ (by first|exact Nat.le_refl _|(simp only [];omega)|(simp;omega)) _|with_reducible refine Up.alloc ?_ _|refine Up.trans ?_ (by with_reducible assumption)))
set_option maxRecDepth 100000 in
set_option maxHeartbeats 4000000 in
theorem advW_any (k:KnD) (v:Value) (B:Nat) (x:Int) (w:World) (h:k.Ok) (hB:B≤w.heap.size) (hown:ownPr w B v k.ps) (hf:k.follows x=true) (hxc:x≠(k.c:Int)) :
  Calls Tryz.prog 137  #[kV k v,.int .i64 x,.int .u8 (k.first x)] w (AdvPost (k.after x) B v w):=by
 obtain ⟨i0,hi,hz0,hz1,hz2⟩:=info_parts infoPair
 have hpl:=h.nums.2.2.2.1
 have hcb:=h.c_bd.2.1
 have cK:=fun w=>clearI_any k.set w h.set
 obtain ⟨f1,f2⟩:=KnD.first_bd h hf
 obtain ⟨a,cap,rfl⟩:=ownsRow_shape hown
 have cG:=fun w=>growI_any k.set k.base k.last a k.ps.length cap w h.set (by omega)
 rw [growN_eq] at cG
 have hxb:(x == ((clr k.set:Nat):Int))=false:=by
  have h2: ¬ x=((clr k.set:Nat):Int):=hxc
  simpa using h2
 have HO:=Lib.hid hown
 cases hg:k.grow
 ·have e:Hid (k.after x=⟨k.set,k.ps,k.base,x⟩):=by unfold Hid KnD.after;rw [hg];simp
  rw [e.out]
  rw [hg] at cG
  generalize k.first x=fx at *
  simp only [kV,knV] at *
  clear h e hg hf hxc hown
  go_enter Tryz.func137,Tryz.ntmps137
  go_wp2_with (first|(go_at_call 40;(with_reducible refine (cK _).mono ?_);rintro e w1 ⟨rfl,U1⟩;have B1:=bcell U1;have Z1:=U1.size;(try simp at Z1);(try rw [Nat.add_one_le_iff] at Z1))|((go_at_call 92;(with_reducible refine (cG _).mono ?_);rintro e w2 ⟨rfl,U2⟩;have B2:=bcell U2;have Z2:=U2.size;(try simp at Z2);(try rw [Nat.add_one_le_iff] at Z2));obtain ⟨hb0,r0,r1,r2,r3,r4,r5⟩:=KnAt.cells (b:=w.heap.size) (k:=k) (v:= .slice a k.ps.length cap) (box_up (U1.trans U2) (box_up ((Up.refl _).alloc _) (MapKept.heap_alloc w _).1));have hf0:=box_free (box_up (U1.trans U2) (box_up ((Up.refl _).alloc _) (MapKept.heap_alloc w (.cells #[.int .i64 k.set.ord,.int .i64 k.set.lit,.int .i64 k.set.most,.slice a k.ps.length cap,.int .i64 k.base,.int .i64 k.last] 27)).1));obtain ⟨hb1,q0,q1,q2,q3,q4,q5⟩:=KnAt.cells (b:=w.heap.size+1) (k:=⟨⟨0,0,0⟩,[],0,0⟩) (v:= .slice none 0 0) (box_up (U1.trans U2) (alloc2 w _ _));have hf1:=box_free (box_up (U1.trans U2) (alloc2 w _ _))))
  refine bodyPost_ret (v:=kV ⟨k.set,k.ps,k.base,x⟩ (.slice a k.ps.length cap)) (by simp [results,Tryz.results137,go_sem,q0,q1,q2,q3,q4,q5]) rfl ⟨_,rfl,?_,?_⟩
  ·refine ownsRow_up HO.out ?_
   (repeat (first|with_reducible exact Up.refl _|with_reducible assumption|with_reducible refine Up.set ?_ (by first|exact Nat.le_refl _|(simp only [];omega)|(simp;omega)) _|with_reducible refine Up.alloc ?_ _|refine Up.trans ?_ (by with_reducible assumption)))
  ·refine Fr.of _ ?_
   (repeat (first|with_reducible exact Up.refl _|with_reducible assumption|with_reducible refine Up.set ?_ (by first|exact Nat.le_refl _|(simp only [];omega)|(simp;omega)) _|with_reducible refine Up.alloc ?_ _|refine Up.trans ?_ (by with_reducible assumption)))
 ·have e:Hid (k.after x=⟨k.set,k.ps++ [⟨k.last,k.first x⟩],k.base,x⟩):=by unfold Hid KnD.after;rw [hg];rfl
  rw [e.out]
  rw [hg] at cG
  generalize k.first x=fx at *
  have HS:Hid (∀ w' v',w'.ownsRow B 133 2 v' (k.ps.length+1) (cellsPr k.ps++ [.int .i64 k.last,.int .i64 fx])→ownPr w' B v' (k.ps++ [⟨k.last,fx⟩])):=fun w' v' h'=>by
   unfold ownPr
   rw [List.length_append,cellsPr_snoc]
   exact h'
  have hfx:fx<256:=by omega
  simp only [kV,knV] at *
  clear h e hg hf hxc hown hcb
  go_enter Tryz.func137,Tryz.ntmps137
  go_wp2_with (first|(go_at_call 40;(with_reducible refine (cK _).mono ?_);rintro e w1 ⟨rfl,U1⟩;have B1:=bcell U1;have Z1:=U1.size;(try simp at Z1);(try rw [Nat.add_one_le_iff] at Z1))|((go_at_call 92;(with_reducible refine (cG _).mono ?_);rintro e w2 ⟨rfl,U2⟩;have B2:=bcell U2;have Z2:=U2.size;(try simp at Z2);(try rw [Nat.add_one_le_iff] at Z2));have hK2:KnAt w.heap.size k (.slice a k.ps.length cap) w2:=box_up (U1.trans U2) (box_up ((Up.refl _).alloc _) (MapKept.heap_alloc w _).1);have hR2:KnAt (w.heap.size+1) ⟨⟨0,0,0⟩,[],0,0⟩ (.slice none 0 0) w2:=box_up (U1.trans U2) (alloc2 w _ _);obtain ⟨hb0,r0,r1,r2,r3,r4,r5⟩:=hK2.cells;have HK2:=Lib.hid hK2;have HR2:=Lib.hid hR2;have hU2:Up w w2:=(by (repeat (first|with_reducible exact Up.refl _|with_reducible assumption|with_reducible refine Up.set ?_ (by first|exact Nat.le_refl _|(simp only [];omega)|(simp;omega)) _|with_reducible refine Up.alloc ?_ _|refine Up.trans ?_ (by with_reducible assumption))));have HU2:=Lib.hid hU2;clear hK2 hR2 U1 U2 hU2 B1 B2 Z1)|(at_builtin;refine wpList_append_own _ rfl _ _ 25 rfl B 133 i0 (.agg #[.int .i64 0,.int .i64 0]) 2 16 Tryz.underlying25 hi hz0 hz1 hz2 rfl (by decide) _ _ _ rfl (ownsRow_up (ownsRow_up HO.out HU2.out) (Up.alloc (Up.refl _) _)) ⟨w2.heap.size,0,none⟩ 1 1 [.int .i64 k.last,.int .i64 fx] rfl rfl (new_cells [.int .i64 k.last,.int .i64 fx] _ rfl) (by intro u hu;simp at hu;rcases hu with rfl|rfl <;> rfl) (by unfold maxLen;omega) (by omega) (by have:=HU2.out.size;simp;omega) ?_;rintro v4 w4 hown4 hgr4 -;obtain ⟨a4,c4,rfl⟩:=ownsRow_shape hown4;have hK4:=gbox hgr4 (box_up ((Up.refl _).alloc _) HK2.out) (box_ne HK2.out (ownsRow_up HO.out HU2.out) (by decide));have hR4:=gbox hgr4 (box_up ((Up.refl _).alloc _) HR2.out) (box_ne HR2.out (ownsRow_up HO.out HU2.out) (by decide));obtain ⟨hb4,r0,r1,r2,r3,r4,r5⟩:=KnAt.cells (k:=k) (v:= .slice a k.ps.length cap) hK4;have hf0:=box_free hK4;obtain ⟨hb5,q0,q1,q2,q3,q4,q5⟩:=KnAt.cells (k:=⟨⟨0,0,0⟩,[],0,0⟩) (v:= .slice none 0 0) hR4;have hf1:=box_free hR4;have hFr:Fr (fun b=>Value.ownBlock (.slice a k.ps.length cap)=some b) w w4:=((Fr.of _ HU2.out).alloc _).gr hgr4 (fun b hb=> .inl hb);have HV4:=Lib.hid (HS.out _ _ hown4);have HF4:=Lib.hid hFr;have HN1:=Lib.hid (box_ne hK4 hown4 (by decide));have HN2:=Lib.hid (box_ne hR4 hown4 (by decide));clear hown4 hgr4 hK4 hR4 hFr))
  refine bodyPost_ret (v:=kV ⟨k.set,k.ps++ [⟨k.last,fx⟩],k.base,x⟩ (.slice a4 (k.ps.length+1) c4)) (by simp [results,Tryz.results137,go_sem,q0,q1,q2,q3,q4,q5]) rfl ⟨_,rfl,?_,?_⟩
  ·have hn1:=HN1.out
   have hn2:=HN2.out
   repeat (with_reducible first|refine ownsRow_setb ?_ hn1 _ _|refine ownsRow_setb ?_ hn2 _ _)
   exact HV4.out
  ·repeat (with_reducible refine Fr.set ?_ (.inr (by first|exact Nat.le_refl _|(simp;done)|(simp;omega))) _)
   exact HF4.out
structure WcB (w:World) (k:KnD) (v:Value) (ws:List Int) (d:List UInt8) (vw vd:Value) (wr:World):Prop where
 kn:KnAt w.heap.size k v wr
 pr:ownPr wr (w.heap.size+1) v k.ps
 own:ownI wr (w.heap.size+1) vw ws
 dat:ownU wr (w.heap.size+1) vd d
 up:Up w wr
structure WcAt (T:WkR) (s0:SetD) (codes:List Int) (w:World) (k:KnD) (v:Value) (i:Nat) (ws:List Int) (d:List UInt8) (vw vd:Value) (wr:World):Prop where
 le:i≤codes.length
 tot:walkN k (codes.drop i) ws d=T
 wl:ws.length=i
 dl:d.length≤2000
 ok:k.Ok
 set:k.set=s0
 mem:WcB w k v ws d vw vd wr
end Go.Proofs.YtekogcjdaolcbaaGreatDoor
/- Plain law: data that fits has no more than 3002 greedy codes. Conditions: what is known is valid, and the data has only literals. -/
namespace Go.Proofs.YtekogcjdaolcbaaGreatDoor
open Go Go.RowKit
theorem KnD.cleared_len {k:KnD} (h:k.Ok):((k.cleared.ps.length:Nat):Int)=k.base:=by
 have h0:=h.base0;have h1:=h.base1
 show ((k.ps.take k.base.toNat).length:Int)=k.base
 rw [List.length_take];omega
theorem greedyN_tight: ∀ (n:Nat) (k:KnD) (d:List UInt8),k.Ok→(∀ b∈d,b.toNat<k.c)→d.length≤n→(k.last= -1→(k.ps.length:Int)=k.base) →
  2 * (greedyN n k d).length≤3 * d.length+2+(if k.last= -1 then 0 else 1):=by
 intro n
 induction n with
 |zero =>
  intro k d hk hl hd hb
  have:d= []:=List.length_eq_zero_iff.1 (by omega)
  subst this
  simp [greedyN]
 |succ n ih =>
  intro k d hk hl hd hb
  by_cases hde:d= []
  ·subst hde;rw [greedyN_nil];simp
  ·have hlp:=KnD.longest_pos (k:=k) hde
   have hll:=KnD.longest_le (k:=k) d
   obtain ⟨hfw,-⟩:=KnD.find_any hk hde hl
   have hx:=KnD.find_bd hk hfw
   rw [greedyN,if_neg hde]
   generalize k.find (k.longest d)=x at *
   generalize (k.longest d).length=n1 at *
   have hok:=KnD.after_ok hk hfw
   have hl2: ∀ b∈d.drop n1,b.toNat<(k.after x).c:=fun b hb=>hl b (List.mem_of_mem_drop hb)
   have hdl:(d.drop n1).length=d.length - n1:=List.length_drop
   have hla:(k.after x).last=x:=rfl
   split
   ·next hf =>
    have hne: ¬ k.last= -1:=by
     intro e
     have h1:=hf.1
     unfold KnD.full at h1
     simp only [Bool.and_eq_true,decide_eq_true_eq] at h1
     have hg:k.grow=false:=by unfold KnD.grow;rw [e];rfl
     have h2:(k.after x).ps=k.ps:=by unfold KnD.after;rw [hg];simp
     have h3:=h1.2
     rw [h2] at h3
     have h4:=hb e
     have h5:(k.after x).base=k.base:=rfl
     omega
    have:=ih (k.after x).cleared (d.drop n1) (KnD.cleared_ok hok) hl2 (by omega) (fun _=>KnD.cleared_len hok)
    rw [if_pos (show (k.after x).cleared.last= -1 from rfl)] at this
    rw [if_neg hne,List.length_cons,List.length_cons]
    omega
   ·next hf =>
    have:=ih (k.after x) (d.drop n1) hok hl2 (by omega) (fun e=>by omega)
    rw [if_neg (by omega)] at this
    rw [List.length_cons]
    split <;> omega
theorem greedy_tight {k:KnD} {d:List UInt8} (hk:k.Ok) (hl: ∀ b∈d,b.toNat<k.c) (hd:d.length≤2000):(greedy k d).length≤3002:=by
 have h:=greedyN_tight d.length k.cleared d (KnD.cleared_ok hk) hl (Nat.le_refl _) (fun _=>KnD.cleared_len hk)
 rw [if_pos (show k.cleared.last= -1 from rfl)] at h
 unfold greedy
 rw [List.length_cons];omega
end Go.Proofs.YtekogcjdaolcbaaGreatDoor
/- Walks of the program's PackCodes, GreedyCodes, Compress. Conditions: what is known is valid and can be read. -/
namespace Go.Proofs.YtekogcjdaolcbaaGreatDoor
open Go Go.RowKit
theorem packC_len10 (o:Int): ∀ (xs ws:List Int),(∀ w∈ws,0≤w∧w≤10)→(packC o xs ws).length≤10 * ws.length
 | [],ws,_=>by simp [packC]
 |_ :: _,[],_=>by simp [packC]
 |x :: xs,w :: ws,h=>by
  simp only [packC,List.length_append,codeL_length,List.length_cons]
  have h1:=h w (List.mem_cons_self ..)
  have h2:=packC_len10 o xs ws fun v hv=>h v (List.mem_cons_of_mem _ hv)
  omega
end Go.Proofs.YtekogcjdaolcbaaGreatDoor
/- Compress of both sides for what is known of any kind. Conditions: the pairs can be read, the setting's number of literals is a number of 64 bits. -/
namespace Go.Proofs.YtekogcjdaolcbaaGreatDoor
open Go Go.RowKit
def compG (k:KnD) (d:List UInt8):Option (List UInt8):=if validK k then compO k d else none
theorem compG_none {k:KnD} {d:List UInt8} (h:(validK k && fitsB k.set d)=false):compG k d=none:=by
 unfold compG compO
 cases h1:validK k
 ·rfl
 ·rw [h1,Bool.true_and] at h
  rw [h];rfl
theorem compG_some {k:KnD} {d:List UInt8} (h1:validK k=true) (h2:fitsB k.set d=true):compG k d=some (compL k d):=by
 unfold compG compO
 rw [h1,h2];rfl
end Go.Proofs.YtekogcjdaolcbaaGreatDoor
/- Writing all parts is compressing their data, whatever is known; the laws' soJoined. Conditions: as each says. -/
namespace Go.Proofs.YtekogcjdaolcbaaGreatDoor
open Go Go.RowKit
def joinL (ps:List ByteArray):List UInt8:=(ps.map (·.data.toList)).flatten
theorem joinL_snoc (ps:List ByteArray) (p:ByteArray):joinL (ps++ [p])=joinL ps++p.data.toList:=by simp [joinL]
theorem joinL_cons (p:ByteArray) (ps:List ByteArray):joinL (p :: ps)=p.data.toList++joinL ps:=by simp [joinL]
theorem joinL_take (ps:List ByteArray) {j:Nat} (h:j<ps.length):joinL (ps.take (j+1))=joinL (ps.take j)++ps[j].data.toList:=by
 rw [List.take_succ_eq_append_getElem h,joinL_snoc]
theorem joinL_len {n:Nat} : ∀ (ps:List ByteArray),(∀ t∈ps,t.size≤n)→(joinL ps).length≤n * ps.length:=by
 intro ps
 induction ps with
 |nil=>intro _;exact Nat.zero_le _
 |cons p ps ih =>
  intro h
  have h1:=ih fun t ht=>h t (List.mem_cons_of_mem _ ht)
  have h2:=h p (List.mem_cons_self ..)
  have h3:p.data.toList.length=p.size:=rfl
  rw [joinL_cons,List.length_append,List.length_cons,Nat.mul_add]
  omega
theorem wdO_wrd {w:WrD} (h:wrOk w) (d:List UInt8):wdO w d=wrdO w d:=by
 unfold wdO wrdO
 rw [wrvB_of h,Bool.true_and]
theorem waW_eq: ∀ (ps:List ByteArray) {w:WrD} {out:List UInt8},wrOk w→waW w ps out=waO w (ps.map (·.data.toList)) out:=by
 intro ps
 induction ps with
 |nil =>
  intro w out h
  rw [waW,List.map_nil,waO,wcO_some (wrvB_of h)]
  rfl
 |cons p ps ih =>
  intro w out h
  rw [waW,List.map_cons,waO,wdO_wrd h]
  have hc:=wdO_case (x:=w) (d:=p.data.toList)
  rw [wdO_wrd h] at hc
  rcases hc with ⟨h1,-,-⟩|⟨r,h1,-,-,h4,-⟩
  ·rw [h1]
  ·rw [h1]
   exact ih h4
theorem waG_comp (k:KnD) (ps:List ByteArray) (hd:(joinL ps).length≤2000):waG k ps=compG k (joinL ps):=by
 unfold waG compG
 cases hv:validK k
 ·rfl
 ·rw [if_pos rfl,if_pos rfl,waW_eq ps (wrOk_new hv)]
  exact waO_all (ok_of_valid hv).1 _ hd
def RelJn (ps:List ByteArray) (w:World) (s i:Value) (wr:World):Prop:= ∃ j:Nat,j≤ps.length∧s= .string (bs (joinL (ps.take j)))∧i= .int .i64 j∧w=wr
set_option maxRecDepth 100000 in
set_option maxHeartbeats 2000000 in
theorem soJoined_any (ps:List ByteArray) (v:Value) (w:World) (h:ArgS w v ps) (hn:ps.length≤1000) (hs: ∀ t∈ps,t.size≤10000) :
  Calls Tryz.prog 21  #[v] w (fun e w'=>e= .returned (.string (bs (joinL ps)))∧w=w'):=by
 have hat:=h
 obtain ⟨a,cap,rfl,hm,hms,-⟩:=h
 unfold maxLen at hm
 go_enter Tryz.func21,Tryz.ntmps21
 go_wp2
 go_loopw [3,4] (fun s i wr=>RelJn ps w s i wr) (fun _ i _=>ps.length - (intOf i).toNat)
 case atStart=>exact ⟨0,Nat.zero_le _,rfl,rfl,rfl⟩
 case round =>
  obtain ⟨j,hj,rfl,rfl,rfl⟩:=hrel
  by_cases hlt:j<ps.length
  ·obtain ⟨b,off,rfl,hbl,hx,-,hnc,hcm⟩:=hat.at hlt
   have HS:=Lib.hid (joinL_take ps hlt)
   have hl1:=joinL_len (n:=10000) (ps.take j) (fun t ht=>hs t (List.mem_of_mem_take ht))
   have hl2:(ps.take j).length≤1000:=by rw [List.length_take];omega
   have hsm:=hs _ (List.getElem_mem hlt)
   have hbz:=bs_size (joinL (ps.take j))
   unfold maxLen at hcm
   have hcat:bs (joinL (ps.take j))++ps[j]=bs (joinL (ps.take j)++(ps[j]).data.toList):=by rw [← bs_app];rfl
   generalize joinL (ps.take j)=J at *
   generalize ps[j]=s at *
   have hJ:J.length≤10000000:=by omega
   clear hl1 hl2 hms
   go_wp2
   go_roundw
   case rel=>exact ⟨j+1,by omega,by rw [HS.out,←hcat],by go_num,rfl⟩
   case measure=>simp [intOf];omega
  ·have e:j=ps.length:=by omega
   subst e
   rw [List.take_length]
   go_wp2
   go_ret
   exact ⟨rfl,rfl⟩
end Go.Proofs.YtekogcjdaolcbaaGreatDoor
/- strings.Builder: copyCheck and WriteString at a builder that the call has made itself. Conditions: the bytes are fewer than 2^47. -/
namespace Go.Proofs.YtekogcjdaolcbaaGreatDoor
open Go Go.RowKit
theorem infoByteB:(Tryz.prog.info? 5).map (fun i=>(i.zero,i.size,i.bytes))=some (some (.int .u8 0),1,1):=by kernel_rfl
theorem sizeSb:(Tryz.prog.info? 105).map (·.size)=some 2:=by kernel_rfl
theorem liesSb:liesAt Tryz.prog Tryz.prog.depth 105 (2 / Tryz.prog.cellsOf 105) 0 105 1=true:=by kernel_rfl
abbrev SbAt (B b:Nat) (p:Value) (l:List Value) (w:World):Prop:=Lib.BuilderAt 105 5 B b p l w
abbrev IsSb (B b:Nat) (l:List Value) (w:World):Prop:=Lib.IsBuilder 105 5 B b l w
set_option maxHeartbeats 1000000 in
set_option maxRecDepth 100000 in
theorem sbCheck_used (b:Nat) (w:World) (h0:w.cell? ⟨b,0,none⟩=some (.pointer (some ⟨b,0,none⟩))) :
  Calls Tryz.prog 132 #[.pointer (some ⟨b,0,none⟩)] w fun e w'=>e= .returned (.tuple #[])∧w'=w:=by
 obtain ⟨j,hj,_⟩:=Option.map_eq_some_iff.1 sizeSb
 go_enter Tryz.func132,Tryz.ntmps132
 go_wp2
 rw [Lib.run_neq_ptr_same w _ Tryz.underlying103 hj]
 go_wp2
 go_end0
 exact ⟨rfl,rfl⟩
set_option maxHeartbeats 1000000 in
set_option maxRecDepth 100000 in
theorem sbCheck_fresh (b:Nat) (w:World) (h0:w.cell? ⟨b,0,none⟩=some (.pointer none)) (hsh:w.shape? b=some (105,2)) (hfz:w.frozen? ⟨b,0,none⟩=false) :
  Calls Tryz.prog 132 #[.pointer (some ⟨b,0,none⟩)] w fun e w'=>e= .returned (.tuple #[])∧w'=w.setCell ⟨b,0,none⟩ (.pointer (some ⟨b,0,none⟩)):=by
 obtain ⟨j,hj,hjs⟩:=Option.map_eq_some_iff.1 sizeSb
 go_enter Tryz.func132,Tryz.ntmps132
 go_wp2
 rw [Lib.run_to_unsafe w ⟨b,0,none⟩ Tryz.underlying103 Tryz.underlying161 hj (by rw [hjs];decide) hsh (Nat.zero_lt_succ 1)]
 simp only [Result.andThen]
 rw [Oper.upon_value]
 go_wp2
 rw [run_callFunc_extern Tryz.func160 (by kernel_rfl) (by kernel_rfl) (by kernel_rfl) (e:=Extern.AbiNoEscape.same) (by kernel_rfl)]
 rw [Lib.run_noEscape]
 simp only [Result.andThen]
 rw [Oper.upon_value]
 go_wp2
 rw [Lib.run_from_unsafe w ⟨b,0,none⟩ Tryz.underlying161 Tryz.underlying103 hj hsh liesSb]
 simp only [Result.andThen]
 rw [Oper.upon_value]
 go_wp2
 go_end0
 exact ⟨rfl,rfl⟩
end Go.Proofs.YtekogcjdaolcbaaGreatDoor
/- strings.Builder: what WriteString leaves as it was; rows of pairs behind it. Conditions: the bytes are fewer than 2^47. -/
namespace Go.Proofs.YtekogcjdaolcbaaGreatDoor
open Go Go.RowKit
def SbV (B b:Nat) (v:Value) (l:List UInt8) (w:World):Prop:=B≤b∧(∃ p,(p= .pointer none∨p= .pointer (some ⟨b,0,none⟩))∧w.heap[b]? =some (.cells #[p,v] 105))∧w.ownsRow B 5 1 v l.length (Lib.byteCells l)∧v.ownBlock≠some b
theorem SbV.is {B b:Nat} {v:Value} {l:List UInt8} {w:World} (h:SbV B b v l w):IsSb B b (Lib.byteCells l) w:=by
 obtain ⟨h1,⟨p,hp,h2⟩,h3,h4⟩:=h
 have h3':w.ownsRow B 5 1 v (Lib.byteCells l).length (Lib.byteCells l):=by rw [Lib.byteCells_length];exact h3
 rcases hp with rfl|rfl
 ·exact .inl ⟨h1,v,h2,h3',h4⟩
 ·exact .inr ⟨h1,v,h2,h3',h4⟩
theorem SbV.up {B b:Nat} {v:Value} {l:List UInt8} {w w':World} (h:SbV B b v l w) (hu:Up w w'):SbV B b v l w':=by
 obtain ⟨h1,⟨p,hp,h2⟩,h3,h4⟩:=h
 exact ⟨h1,⟨p,hp,box_up hu h2⟩,ownsRow_up h3 hu,h4⟩
theorem SbV.lt {B b:Nat} {v:Value} {l:List UInt8} {w:World} (h:SbV B b v l w):b<w.heap.size∧ ∀ k,v.ownBlock=some k→B≤k∧k<w.heap.size:=by
 obtain ⟨h1,⟨p,hp,h2⟩,h3,h4⟩:=h
 exact ⟨(Array.getElem?_eq_some_iff.1 h2).1,h3.lt⟩
theorem SbV.gr {B b:Nat} {v:Value} {l:List UInt8} {w w':World} (h:SbV B b v l w) {g:Nat} (hg:w.grownBy w' (some g)) (hl:g<B):SbV B b v l w':=by
 obtain ⟨h1,⟨p,hp,h2⟩,h3,h4⟩:=h
 refine ⟨h1,⟨p,hp,gbox hg h2 (fun e=>by cases e;omega)⟩,h3.kept hg ?_,h4⟩
 cases hv:v.ownBlock with
 |none=>exact .inl rfl
 |some k=>exact .inr fun e=>by have:=(h3.lt k hv).1;cases e;omega
theorem sbV_new (w:World):SbV w.heap.size w.heap.size (.slice none 0 0) [] (w.alloc (.cells #[.pointer none,.slice none 0 0] 105)) :=
 ⟨Nat.le_refl _,⟨_,.inl rfl,(MapKept.heap_alloc w _).1⟩,World.ownsRow_nil _ _ _ _,by simp [Value.ownBlock]⟩
theorem sbCells_app (a:List UInt8) (s:ByteArray):Lib.byteCells a++Lib.strCells s=Lib.byteCells (a++s.data.toList):=by simp [Lib.strCells,Lib.byteCells]
set_option maxHeartbeats 2000000 in
set_option maxRecDepth 100000 in
theorem sbW_any (B b:Nat) (v:Value) (l:List UInt8) (s:ByteArray) (w:World) (h:SbV B b v l w) (hlen:l.length+s.size≤140737488355328) (hBw:B≤w.heap.size) :
  Calls Tryz.prog 75 #[.pointer (some ⟨b,0,none⟩),.string s] w fun e w'=>e= .returned (.tuple #[.int .i64 s.size,.nilIface])∧(∃ v',SbV B b v' (l++s.data.toList) w')∧Below B w w'∧w.heap.size≤w'.heap.size∧ ∀ k,k<w.heap.size→k≠b→v.ownBlock≠some k→w'.heap[k]? =w.heap[k]? :=by
 obtain ⟨i0,hi,hz0,hz1,hz2⟩:=info_parts infoByteB
 obtain ⟨hB,⟨p,hp,hbk⟩,hown,hne⟩:=h
 have hlt:b<w.heap.size:=(Array.getElem?_eq_some_iff.1 hbk).1
 have hK: ∀ wx,wx=w→Calls Tryz.prog 132 #[.pointer (some ⟨b,0,none⟩)] wx (fun e w'=>e= .returned (.tuple #[])∧w'.heap[b]? =some (.cells #[.pointer (some ⟨b,0,none⟩),v] 105)∧w.grownBy w' (some b)∧Below B w w'∧w'.heap.size=w.heap.size):=by
  rintro wx rfl
  rcases hp with rfl|rfl
  ·have hA:SbAt B b (.pointer none) (Lib.byteCells l) wx:=⟨hB,v,hbk,by rw [Lib.byteCells_length];exact hown,hne⟩
   refine (sbCheck_fresh b wx hA.cell0 hA.shape hA.frozen0).mono ?_
   rintro e w' ⟨rfl,rfl⟩
   refine ⟨rfl,?_,grownBy_set (grownBy_refl _ _) _ _,(Below.refl B wx).setCell (p:=⟨b,0,none⟩) hB _,by simp [World.setCell]⟩
   have:=box_set hbk 0 (.pointer (some ⟨b,0,none⟩))
   simpa using this
  ·have hA:SbAt B b (.pointer (some ⟨b,0,none⟩)) (Lib.byteCells l) wx:=⟨hB,v,hbk,by rw [Lib.byteCells_length];exact hown,hne⟩
   refine (sbCheck_used b wx hA.cell0).mono ?_
   rintro e w' ⟨rfl,rfl⟩
   exact ⟨rfl,hbk,grownBy_refl _ _,Below.refl B _,rfl⟩
 have hnb:v.ownBlock=none∨v.ownBlock≠some b:= .inr hne
 clear hp hbk
 go_enter Tryz.func75,Tryz.ntmps75
 go_wp2_with fail
 (with_reducible refine (hK _ rfl).mono ?_)
 rintro e w1 ⟨rfl,hbk,hg1,hb1,hsz1⟩
 have hown:=hown.kept hg1 hnb
 have c0:w1.cell? ⟨b,0,none⟩=some (.pointer (some ⟨b,0,none⟩)):=by rw [Lib.cell_of_heap hbk];rfl
 have c1:w1.cell? ⟨b,1,none⟩=some v:=by rw [Lib.cell_of_heap hbk];rfl
 have HW:=Lib.hid (And.intro hg1 (And.intro hb1 hsz1))
 clear hK hg1
 go_wp2_with (at_builtin;refine Lib.wpList_append_own_string _ rfl _ _ 22 9 rfl B 5 i0 Tryz.underlying22 Tryz.underlying9 hi hz0 hz1 hz2 _ _ _ rfl hown s rfl ?c3 ?c4 ?c5 ?_)
 case c3=>unfold maxLen;omega
 case c4=>omega
 case c5=>omega
 intro v' w2 hown' hgrow _
 have hlt1:b<w1.heap.size:=by omega
 have hb2:w2.heap[b]? =some (.cells #[.pointer (some ⟨b,0,none⟩),v] 105 (0,0)):=by
  rw [hgrow.block b hlt1 (fun e=>hne e.symm)]
  exact hbk
 have d0:w2.cell? ⟨b,0,none⟩=some (.pointer (some ⟨b,0,none⟩)):=by rw [Lib.cell_of_heap hb2];rfl
 have d1:w2.cell? ⟨b,1,none⟩=some v:=by rw [Lib.cell_of_heap hb2];rfl
 have f1:w2.frozen? ⟨b,1,none⟩=false:=Lib.frozen_of_heap hb2 1
 obtain ⟨ao,n',cap,rfl⟩: ∃ ao n' cap,v'= .slice ao n' cap:=by
  rcases hown'.2 with ⟨hv,_⟩|⟨g,cap,cur,hv,_⟩
  ·exact ⟨_,_,_,hv⟩
  ·exact ⟨_,_,_,hv⟩
 have HG:=Lib.hid hgrow
 have HV:=Lib.hid (And.intro hown hne)
 clear hgrow hsz1 hb1
 go_wp2
 go_ret2
 rw [sbCells_app] at hown'
 have hlen2:(l++s.data.toList).length=l.length+s.size:=by rw [List.length_append];rfl
 refine ⟨rfl,⟨.slice ao n' cap,?_⟩,?_,?_,?_⟩
 ·obtain ⟨q1,u,q2,q3,q4⟩:=Lib.BuilderAt.put (T:=105) (e:=5) hB hb2 (bs':=Lib.byteCells (l++s.data.toList)) (v':= .slice ao n' cap) (by rw [Lib.byteCells_length,hlen2];exact hown') (by decide)
  have hu:u= .slice ao n' cap:=by
   have hx:=box_set hb2 1 (.slice ao n' cap)
   have:=q2.symm.trans hx
   simpa using this
  subst hu
  exact ⟨q1,⟨_,.inr rfl,q2⟩,by rw [Lib.byteCells_length] at q3;exact q3,q4⟩
 ·exact (HW.out.2.1.grown HG.out (by have:=HW.out.2.1.size;omega) (fun k hk=>(HV.out.1.lt k hk).1)).setCell (p:=⟨b,1,none⟩) hB _
 ·have h1:=HG.out.size;have h2:=HW.out.2.2;simp [World.setCell];omega
 ·intro k hk hkb hkv
  have h2:=HW.out.2.2
  rw [Below.heap_setCell _ _ _ _ (fun e=>hkb (by simpa using e))]
  rw [HG.out.block k (by omega) (fun e=>hkv e.symm)]
  exact HW.out.1.block k hk (fun e=>hkb (by cases e;rfl))
theorem sbS_any (B b:Nat) (v:Value) (l:List UInt8) (w:World) (h:SbV B b v l w) (hB:B≤w.heap.size) :
  Calls Tryz.prog 76 #[.pointer (some ⟨b,0,none⟩)] w (fun e w'=>e= .returned (.string (bs l))∧Below B w w') :=
 (Tryz.Builder_String_any_f B b l w (Lib.IsBuilderF.of h.is) hB).mono fun e w' ⟨he,h1,h2⟩=>⟨he,h2⟩
theorem RdP.frame {lo:Nat} {w w':World} {v:Value} {ps:List PairD} (h:RdP lo w v ps) (hz:w.heap.size≤w'.heap.size) (hf: ∀ k,lo≤k→k<w.heap.size→w'.heap[k]? =w.heap[k]?):RdP lo w' v ps:=by
 obtain ⟨a,cap,h1,h2,h2',h2'',h3⟩:=h
 refine ⟨a,cap,h1,h2,h2',h2'',fun hp=>?_⟩
 obtain ⟨b,off,e1,e2,e4,e5⟩:=h3 hp
 have hc: ∀ i,w'.cell? ⟨b,i,none⟩=w.cell? ⟨b,i,none⟩:=fun i=>by unfold World.cell?;rw [hf b e2 e4]
 exact ⟨b,off,e1,e2,Nat.lt_of_lt_of_le e4 hz,fun i p hi=>⟨(hc _).trans (e5 i p hi).1,(hc _).trans (e5 i p hi).2⟩⟩
end Go.Proofs.YtekogcjdaolcbaaGreatDoor
/- WriteAll of the program, for what is known of any kind and any parts. Conditions: the parts are at most 2^20, each of at most 2^20 bytes. -/
namespace Go.Proofs.YtekogcjdaolcbaaGreatDoor
open Go Go.RowKit
theorem alloc_sz (w:World) (o:Obj):(w.alloc o).heap.size=w.heap.size+1:=by simp
def RelWi (T:Option (List UInt8)) (ps:List ByteArray) (b:Nat) (w1:World) (i:Value) (wr:World):Prop:= ∃ (j:Nat) (x:WrD) (v u:Value) (out':List UInt8),
 i= .int .i64 j∧WaAt T ps j true x out'∧WrAt b x v wr∧RdP 0 wr v x.k.ps∧SbV (b+1) (b+1) u out' wr∧Up w1 wr
set_option maxRecDepth 100000 in
set_option maxHeartbeats 8000000 in
theorem waI_any (k:KnD) (v vp:Value) (lo:Nat) (ps:List ByteArray) (w:World) (hl: -9223372036854775808≤k.set.lit∧k.set.lit≤9223372036854775807) (hr:RdP lo w v k.ps) (hps:k.ps.length≤1048576) (hp:ArgS w vp ps) (hn:ps.length≤1048576) (hsz: ∀ s∈ps,s.size≤1048576) :
  Calls Tryz.prog 19  #[kV k v,vp] w (Same (optS (waG k ps)) w):=by
 have cN:=fun wq hr=>nwI_any k v lo wq hl hr hps
 have hrt:=fun (wq:World) (hu:Up w wq)=>hr.up hu
 have hpt:=fun (wq:World) (hu:Up w wq)=>hp.up hu
 have hS:=WaAt.start k ps
 obtain ⟨a,cap,rfl,-,-,-,-⟩:=id hr
 obtain ⟨ap,cp,rfl,hpm,-,-⟩:=id hp
 obtain ⟨T,hT⟩: ∃ T,Hid (T=waG k ps):=⟨_,rfl⟩
 rw [← hT.out] at hS ⊢
 unfold maxLen at hpm
 simp only [kV] at *
 go_enter Tryz.func19,Tryz.ntmps19
 go_wp2_with fail
 (with_reducible refine (cN _ (hrt _ (by (repeat (first|with_reducible exact Up.refl _|with_reducible assumption|with_reducible refine Up.alloc ?_ _|refine Up.trans ?_ (by with_reducible assumption)))))).mono ?_);rintro e w1 hP;obtain ⟨v1,rfl,ho1,U1⟩:=nwP_all hP
 obtain ⟨a1,c1,rfl⟩:=ownsRow_shape ho1
 have hU1:Up w w1:=by (repeat (first|with_reducible exact Up.refl _|with_reducible assumption|with_reducible refine Up.alloc ?_ _|refine Up.trans ?_ (by with_reducible assumption)))
 generalize nwX k=x0 at *
 generalize validK k=ok0 at *
 clear hP U1 cN hr hp
 unfold wrV
 cases ok0
 ·have HT0:=Lib.hid (hS.no rfl).2
  clear hS
  go_wp2_with fail
  go_ret2
  refine ⟨by rw [HT0.out];rfl,?_⟩
  (repeat (first|with_reducible exact Up.refl _|with_reducible assumption|with_reducible refine Up.alloc ?_ _|refine Up.trans ?_ (by with_reducible assumption)))
 have hS:=Lib.hid hS
 go_wp2_with fail
 have hX1:WrAt w1.heap.size x0 (.slice a1 x0.k.ps.length c1) (w1.alloc (.cells #[.int .i64 x0.k.set.ord,.int .i64 x0.k.set.lit,.int .i64 x0.k.set.most,.slice a1 x0.k.ps.length c1,.int .i64 x0.k.base,.int .i64 x0.k.last,.string (bs x0.pend),.string (bs x0.bits),.bool x0.beg] 29)):=(MapKept.heap_alloc w1 _).1
 have hUa:Up w1 (w1.alloc (.cells #[.int .i64 x0.k.set.ord,.int .i64 x0.k.set.lit,.int .i64 x0.k.set.most,.slice a1 x0.k.ps.length c1,.int .i64 x0.k.base,.int .i64 x0.k.last,.string (bs x0.pend),.string (bs x0.bits),.bool x0.beg] 29)):=(Up.refl _).alloc _
 have hUb:Up (w1.alloc (.cells #[.int .i64 x0.k.set.ord,.int .i64 x0.k.set.lit,.int .i64 x0.k.set.most,.slice a1 x0.k.ps.length c1,.int .i64 x0.k.base,.int .i64 x0.k.last,.string (bs x0.pend),.string (bs x0.bits),.bool x0.beg] 29)) ((w1.alloc (.cells #[.int .i64 x0.k.set.ord,.int .i64 x0.k.set.lit,.int .i64 x0.k.set.most,.slice a1 x0.k.ps.length c1,.int .i64 x0.k.base,.int .i64 x0.k.last,.string (bs x0.pend),.string (bs x0.bits),.bool x0.beg] 29)).alloc (.cells #[.pointer none,.slice none 0 0] 105)):=(Up.refl _).alloc _
 have hZ1:(w1.alloc (.cells #[.int .i64 x0.k.set.ord,.int .i64 x0.k.set.lit,.int .i64 x0.k.set.most,.slice a1 x0.k.ps.length c1,.int .i64 x0.k.base,.int .i64 x0.k.last,.string (bs x0.pend),.string (bs x0.bits),.bool x0.beg] 29)).heap.size=w1.heap.size+1:=alloc_sz _ _
 have hB1:=sbV_new (w1.alloc (.cells #[.int .i64 x0.k.set.ord,.int .i64 x0.k.set.lit,.int .i64 x0.k.set.most,.slice a1 x0.k.ps.length c1,.int .i64 x0.k.base,.int .i64 x0.k.last,.string (bs x0.pend),.string (bs x0.bits),.bool x0.beg] 29))
 rw [hZ1] at hB1
 have hr1:RdP 0 ((w1.alloc (.cells #[.int .i64 x0.k.set.ord,.int .i64 x0.k.set.lit,.int .i64 x0.k.set.most,.slice a1 x0.k.ps.length c1,.int .i64 x0.k.base,.int .i64 x0.k.last,.string (bs x0.pend),.string (bs x0.bits),.bool x0.beg] 29)).alloc (.cells #[.pointer none,.slice none 0 0] 105)) (.slice a1 x0.k.ps.length c1) x0.k.ps:=(((RdP.of_own ho1).low (Nat.zero_le _)).up hUa).up hUb
 have HL0:=Lib.hid (And.intro (hX1.up hUb) (And.intro (hUa.trans hUb) (And.intro hr1 hB1)))
 clear hX1 hUa hUb hr1 hB1 ho1 hZ1
 generalize (w1.alloc (.cells #[.int .i64 x0.k.set.ord,.int .i64 x0.k.set.lit,.int .i64 x0.k.set.most,.slice a1 x0.k.ps.length c1,.int .i64 x0.k.base,.int .i64 x0.k.last,.string (bs x0.pend),.string (bs x0.bits),.bool x0.beg] 29)).alloc (.cells #[.pointer none,.slice none 0 0] 105)=W at *
 go_loopw [22] (fun i wr=>RelWi T ps w1.heap.size w1 i wr) (fun i _=>ps.length - (intOf i).toNat)
 case atStart=>exact ⟨0,x0,_,_,[],rfl,hS.out,HL0.out.1,HL0.out.2.2.1,HL0.out.2.2.2,HL0.out.2.1⟩
 case round =>
  clear HL0 hS
  obtain ⟨j,x,v,u,out',rfl,hM,hX,hrx,hSb,hU⟩:=hrel
  have hUw:=hU1.trans hU
  obtain ⟨hb1,hb2,hb3,hb4⟩:=hM.bd
  have hol:=hM.len
  have hj:=hM.le
  have hos:=bs_size out'
  have hsl1:=hSb.lt.1
  obtain ⟨av,cv,rfl,-⟩:=id hrx
  obtain ⟨hbk,r0,r1,r2,r3,r4,r5,r6,r7,r8⟩:=hX.cells
  by_cases hlt:j<ps.length
  ·obtain ⟨gb,off,rfl,hgb,hgk,-,hnc,hcm⟩:=(hpt _ hUw).at hlt
   unfold maxLen at hcm
   have hs1:=hsz _ (List.getElem_mem hlt)
   obtain ⟨hN,hNl⟩:=hM.next hlt
   have HN:=Lib.hid hN
   have hsl:(ps[j]).data.toList.length=(ps[j]).size:=rfl
   have cI1: ∀ wq v,RdP 0 wq v x.k.ps→Calls Tryz.prog 7  #[wrV x v,.string (ps[j])] wq (WdPost (wdO x (ps[j]).data.toList) wq):=fun wq v h=>wdI_any x v 0 (ps[j]).data.toList wq hb1 h hb2 hb3 hb4 (by omega)
   clear hN hM hsl
   generalize wdO x (ps[j]).data.toList=X at *
   generalize ps[j]=s1 at *
   have hyl:=bs_size (oBy X)
   unfold wrV at cI1
   have HSb:=Lib.hid hSb
   have HX:=Lib.hid hX
   clear hSb hX
   have hgw:gb<wr.heap.size:=hgb
   go_wp2_with fail
   (with_reducible refine (cI1 _ _ hrx).mono ?_);rintro e w5 hP;obtain ⟨v5,rfl,ho5,U5⟩:=wdP_all hP
   obtain ⟨a5,c5,rfl⟩:=ownsRow_shape ho5
   clear hP cI1 hrx
   have hXq:=HX.out.up U5
   generalize oWr X=y1 at *
   generalize oBy X=by1 at *
   generalize X.isSome=ok1 at *
   have hK2:WrAt w1.heap.size y1 (.slice a5 y1.k.ps.length c5) (WrW w5 w1.heap.size y1 (.slice a5 y1.k.ps.length c5)):=WrAt.store hXq y1 _
   have hr9:RdP wr.heap.size (WrW w5 w1.heap.size y1 (.slice a5 y1.k.ps.length c5)) (.slice a5 y1.k.ps.length c5) y1.k.ps:=by
    unfold WrW KnW
    (repeat (with_reducible refine RdP.set ?_ hbk _ _));exact RdP.of_own ho5
   have hU9:Up w1 (WrW w5 w1.heap.size y1 (.slice a5 y1.k.ps.length c5)):=WrW.up (hU.trans U5) (Nat.le_refl _) y1 _
   have hgw:w5.grownBy (WrW w5 w1.heap.size y1 (.slice a5 y1.k.ps.length c5)) (some w1.heap.size):=by
    unfold WrW KnW
    (repeat (with_reducible refine grownBy_set ?_ _ _));exact grownBy_refl _ _
   have hS9:=(HSb.out.up U5).gr hgw (Nat.lt_succ_self _)
   have HH:=Lib.hid (And.intro hK2 (And.intro hr9 (And.intro hU9 (And.intro hS9 HSb.out.lt))))
   have hz9:=hU9.size
   obtain ⟨hbq,q0,q1,q2,q3,q4,q5,q6,q7,q8⟩:=hXq.cells
   have hfr:=box_free hXq
   clear hK2 hr9 hU9 hXq ho5 r0 r1 r2 r3 r4 r5 r6 r7 r8 hgw HX hS9 HSb
   unfold wrV
   go_simp
   iterate 20 go_step
   rw [show (((((((((w5.setCell ⟨w1.heap.size,0,none⟩ (.int .i64 y1.k.set.ord)).setCell ⟨w1.heap.size,1,none⟩ (.int .i64 y1.k.set.lit)).setCell ⟨w1.heap.size,2,none⟩ (.int .i64 y1.k.set.most)).setCell ⟨w1.heap.size,3,none⟩ (.slice a5 y1.k.ps.length c5)).setCell ⟨w1.heap.size,4,none⟩ (.int .i64 y1.k.base)).setCell ⟨w1.heap.size,5,none⟩ (.int .i64 y1.k.last)).setCell ⟨w1.heap.size,6,none⟩ (.string (bs y1.pend))).setCell ⟨w1.heap.size,7,none⟩ (.string (bs y1.bits))).setCell ⟨w1.heap.size,8,none⟩ (.bool y1.beg))=WrW w5 w1.heap.size y1 (.slice a5 y1.k.ps.length c5) from rfl]
   generalize WrW w5 w1.heap.size y1 (.slice a5 y1.k.ps.length c5)=W9 at *
   clear q0 q1 q2 q3 q4 q5 q6 q7 q8 hfr hbq U5
   cases ok1
   ·have HT0:=Lib.hid (HN.out.no rfl).2
    go_wp2_with fail
    go_ret2
    exact ⟨by rw [HT0.out];rfl,hU1.trans HH.out.2.2.1⟩
   ·have hlt2:=HH.out.2.2.2.1.lt.1
    have cW:=sbW_any (w1.heap.size+1) (w1.heap.size+1) u out' (bs by1) W9 HH.out.2.2.2.1 (by omega) (by omega)
    go_wp2_with fail
    (with_reducible refine cW.mono ?_);rintro e w10 ⟨rfl,⟨u',hS'⟩,hb10,hz10,hf10⟩
    rw [bs_data] at hS'
    have hX':WrAt w1.heap.size y1 (.slice a5 y1.k.ps.length c5) w10:=(hb10.block _ (Nat.lt_succ_self _)).trans HH.out.1
    have hr':RdP 0 w10 (.slice a5 y1.k.ps.length c5) y1.k.ps:=(RdP.frame HH.out.2.1 hz10 (fun k h1 h2=>hf10 k h2 (by omega) (fun e=>by have:=(HH.out.2.2.2.2.2 k e).2;omega))).low (Nat.zero_le _)
    have hU':Up w1 w10:=Below.trans HH.out.2.2.1 (hb10.mono (Nat.le_succ _))
    have HF:=Lib.hid (And.intro hX' (And.intro hr' (And.intro hU' hS')))
    clear hX' hr' hU' hS' hb10 hf10 cW
    go_wp2_with fail
    go_roundw
    case rel=>exact ⟨j+1,y1,_,u',out'++by1,by go_num,HN.out,HF.out.1,HF.out.2.1,HF.out.2.2.2,HF.out.2.2.1⟩
    case measure=>simp [intOf];omega
  ·obtain ⟨h1,h2,h3⟩:=hM.fin (by omega)
   have cC:=fun wq h=>wcI_any x (.slice av x.k.ps.length cv) 0 wq hb1 h hb2 hb3 hb4
   rw [h1] at cC
   have hcs:=bs_size x.close
   have hcat:bs out'++bs x.close=bs (out'++x.close):=bs_app _ _
   have HT2:=Lib.hid h2
   clear h1 h2 hM
   unfold optS at cC
   simp only [Option.getD_some,Option.isSome_some] at cC
   unfold wrV at cC
   generalize x.close=cl at *
   have HSb:=Lib.hid hSb
   clear hSb
   go_wp2_with fail
   (with_reducible refine (cC _ hrx).mono ?_);rintro e w7 ⟨rfl,U7⟩
   have hz7:=U7.size
   go_wp2_with fail
   (with_reducible refine (sbS_any _ _ u out' w7 (HSb.out.up U7) (by omega)).mono ?_);rintro e w8 ⟨rfl,hb8⟩
   have hU8:Up w w8:=hU1.trans (Below.trans (hU.trans U7) (hb8.mono (Nat.le_succ _)))
   clear hb8
   go_wp2_with fail
   go_ret2
   exact ⟨by rw [HT2.out];rfl,hU8⟩
end Go.Proofs.YtekogcjdaolcbaaGreatDoor

/- Texts joined into one: the walks and laws that the last text leans on. Conditions: as each says. -/
import Derived.Test.YtekogcjdaolcbaaGreatDoorMFnTravelLawV
import Derived.Lib.AtoiTie
import Derived.Test.YtekogcjdaolcbaaGreatDoorMFnTravelLawT
import Derived.Test.YtekogcjdaolcbaaGreatDoorMFnTravelLawH
import Derived.Test.YtekogcjdaolcbaaGreatDoorMFnTravelLawU
import Derived.Test.YtekogcjdaolcbaaGreatDoorMFnTravelLawB
import Derived.Test.YtekogcjdaolcbaaGreatDoorMFnTravelLawA
import Derived.Test.YtekogcjdaolcbaaGreatDoorMFnTravelLawE
import Derived.Test.YtekogcjdaolcbaaGreatDoorMFnTravelLawM
import Derived.Test.YtekogcjdaolcbaaGreatDoorMFnTravelLawN
import Derived.Test.YtekogcjdaolcbaaGreatDoorMFnTravelLawR
import Derived.Test.YtekogcjdaolcbaaGreatDoorMFnTravelLawJ

set_option linter.unusedVariables false
set_option linter.unusedSimpArgs false
/- Plain: a number's decimal text is read back as that number. Conditions: at most a million. -/
namespace Go.Proofs.YtekogcjdaolcbaaGreatDoor
open Go
theorem decFrom_snoc: ∀ (l:List UInt8) (acc n:Nat) (b:UInt8) (d:Nat),Lib.decFrom acc l=some n→Lib.digitVal b=some d→Lib.decFrom acc (l++ [b])=some (n * 10+d)
 | [],acc,n,b,d,h,hb=>by
   simp only [Lib.decFrom,Option.some.injEq] at h
   subst h
   simp [Lib.decFrom,hb]
 |x :: r,acc,n,b,d,h,hb=>by
  rw [List.cons_append]
  unfold Lib.decFrom at h ⊢
  cases hx:Lib.digitVal x with
  |none=>rw [hx] at h;simp at h
  |some e=>rw [hx] at h;exact decFrom_snoc r _ n b d h hb
theorem digit_val (m:Nat) (h:m<10):Lib.digitVal (UInt8.ofNat (48+m))=some m:=by
 have e:(UInt8.ofNat (48+m)).toNat=48+m:=by rw [UInt8.toNat_ofNat'];omega
 unfold Lib.digitVal
 rw [e,if_pos (by omega)]
 simp
theorem decFrom_dec (m:Nat):Lib.decFrom 0 (Lib.decDigits m)=some m:=by
 induction m using Nat.strongRecOn with
 |ind m ih =>
  by_cases h:m<10
  ·rw [Lib.decDigits_one h]
   unfold Lib.decFrom
   rw [digit_val m h]
   simp only [Lib.decFrom,Nat.zero_mul,Nat.zero_add]
  ·rw [dec_big h,decFrom_snoc _ _ _ _ _ (ih (m / 10) (by omega)) (digit_val (m % 10) (by omega))]
   congr 1;omega
theorem dec_ne (m:Nat):Lib.decDigits m≠ []:=by
 intro h
 have h1:=congrArg List.length h
 rw [Lib.decDigits_length] at h1
 have:=Lib.nDigits_pos m
 simp at h1;omega
theorem dec_digit (m:Nat): ∀ b∈Lib.decDigits m,48≤b.toNat∧b.toNat≤57:=by
 intro b hb
 obtain ⟨k,hk,rfl⟩:=List.getElem_of_mem hb
 obtain ⟨d,hd⟩:=Lib.digit_of_decFrom _ _ _ (decFrom_dec m) k _ (List.getElem?_eq_getElem hk)
 have:=Lib.digitVal_eq hd
 omega
theorem nDigits_le: ∀ (k u:Nat),u<10 ^ (k+1)→Lib.nDigits u≤k+1
 |0,u,h=>by rw [Lib.nDigits_small (by simpa using h)];exact Nat.le_refl _
 |k+1,u,h=>by
  by_cases hu:u<10
  ·rw [Lib.nDigits_small hu];omega
  ·rw [Lib.nDigits_big hu]
   have:=nDigits_le k (u / 10) (by rw [Nat.pow_succ] at h;omega)
   omega
theorem dec_len7 {m:Nat} (h:m≤1000000):(Lib.decDigits m).length≤7:=by
 rw [Lib.decDigits_length];exact nDigits_le 6 m (by omega)
theorem decNat_dec (m:Nat):Lib.decNat (Lib.decDigits m)=some m:=by
 unfold Lib.decNat
 cases h:Lib.decDigits m with
 |nil=>exact absurd h (dec_ne m)
 |cons b r=>rw [← h];simp [h];rw [← h];exact decFrom_dec m
theorem atoi_itoa (n:Int):Lib.atoi (Lib.itoa n)=some n:=by
 unfold Lib.itoa
 by_cases hn:n<0
 ·rw [if_pos hn]
  simp only [Lib.atoi,decNat_dec,Option.map_some,BEq.rfl,if_true]
  congr 1;omega
 ·rw [if_neg hn]
  have hd:=dec_digit n.toNat
  cases h:Lib.decDigits n.toNat with
  |nil=>exact absurd h (dec_ne _)
  |cons b r =>
   have hb:=hd b (by rw [h];exact List.mem_cons_self ..)
   have h1:(b == 45)=false:=by rw [beq_eq_false_iff_ne];rintro rfl;simp at hb
   have h2:(b == 43)=false:=by rw [beq_eq_false_iff_ne];rintro rfl;simp at hb
   simp only [Lib.atoi,h1,h2]
   rw [← h,decNat_dec]
   simp;omega
theorem numP_itoa {n:Int} (h0: -1000000≤n) (h1:n≤1000000):numP (Lib.itoa n)=some n:=by
 have hl:(Lib.itoa n).length≤18:=by
  unfold Lib.itoa
  split
  ·have:=dec_len7 (m:=n.natAbs) (by omega);simp;omega
  ·have:=dec_len7 (m:=n.toNat) (by omega);omega
 unfold numP
 rw [Lib.atoiAll_short _ hl,atoi_itoa]
 simp [Lib.NumEnd.ofOption]
end Go.Proofs.YtekogcjdaolcbaaGreatDoor
/- Plain: reading the text of places. Conditions: none. -/
namespace Go.Proofs.YtekogcjdaolcbaaGreatDoor
open Go
theorem itoa_chr {n:Int} : ∀ b∈Lib.itoa n,b=45∨48≤b.toNat∧b.toNat≤57:=by
 intro b hb
 unfold Lib.itoa at hb
 split at hb
 ·rcases List.mem_cons.1 hb with rfl|hb
  ·exact .inl rfl
  ·exact .inr (dec_digit _ b hb)
 ·exact .inr (dec_digit _ b hb)
theorem itoa_no {c:UInt8} (n:Int) (h:c≠45) (hc:c.toNat<48∨57<c.toNat):c ∉ Lib.itoa n:=by
 intro hm
 rcases itoa_chr c hm with e|e
 ·exact h e
 ·omega
theorem numP_text {l:List UInt8} {n:Int} (h:numP l=some n):l=Lib.itoa n:=by
 unfold numP at h
 split at h
 ·split at h
  ·rename_i v _ e
   simp only [Option.some.injEq] at h
   rw [← e,h]
  ·cases h
 ·cases h
def pairP (c:UInt8) (l:List UInt8):Option (Int × Int):=match cutL c l with
 |none=>none
 |some (x,y)=>match numP x,numP y with
  |some a,some b=>some (a,b)
  |_,_=>none
theorem pairP_text {c:UInt8} {l:List UInt8} {a b:Int} (h:pairP c l=some (a,b)):l=Lib.itoa a++c :: Lib.itoa b:=by
 unfold pairP at h
 split at h
 ·cases h
 ·rename_i x y hc
  split at h
  ·rename_i a' b' h1 h2
   simp only [Option.some.injEq,Prod.mk.injEq] at h
   obtain ⟨rfl,rfl⟩:=h
   rw [(cutL_some hc).1,←numP_text h1,←numP_text h2]
  ·cases h
theorem pairP_fmt {c:UInt8} {a b:Int} (hc:c≠45) (hd:c.toNat<48∨57<c.toNat) (h0: -1000000≤a) (h1:a≤1000000) (h2: -1000000≤b) (h3:b≤1000000):pairP c (Lib.itoa a++c :: Lib.itoa b)=some (a,b):=by
 unfold pairP
 rw [cutL_app (itoa_no a hc hd)]
 simp only [numP_itoa h0 h1,numP_itoa h2 h3]
end Go.Proofs.YtekogcjdaolcbaaGreatDoor
/- Plain: the texts of settings and of what is known, and reading them. Conditions: none. -/
namespace Go.Proofs.YtekogcjdaolcbaaGreatDoor
open Go
def ordT (o:Int):List UInt8:=if o=1 then [104,105,103,104] else [108,111,119]
def setL (s:SetD):List UInt8:=Lib.join [ordT s.ord,Lib.itoa s.lit,Lib.itoa s.most] [32]
theorem joinTail_no {c s:UInt8} (hs:c≠s): ∀ {t:List (List UInt8)},(∀ x∈t,c ∉ x)→c ∉ Lib.joinTail [s] t
 | [],_=>by simp [Lib.joinTail]
 |y :: t,h=>by
  rw [joinTail_cons]
  intro hm
  rcases List.mem_cons.1 hm with hm|hm
  ·exact hs hm
  ·rcases List.mem_append.1 hm with hm|hm
   ·exact h y (List.mem_cons_self ..) hm
   ·exact joinTail_no hs (fun z hz=>h z (List.mem_cons_of_mem _ hz)) hm
theorem join_no {c s:UInt8} {xs:List (List UInt8)} (h: ∀ x∈xs,c ∉ x) (hs:c≠s):c ∉ Lib.join xs [s]:=by
 cases xs with
 |nil=>simp [Lib.join_nil]
 |cons x t =>
  rw [Lib.join_cons]
  intro hm
  rcases List.mem_append.1 hm with hm|hm
  ·exact h x (List.mem_cons_self ..) hm
  ·exact joinTail_no hs (fun y hy=>h y (List.mem_cons_of_mem _ hy)) hm
theorem join3_len (a b c:List UInt8) (s:UInt8):(Lib.join [a,b,c] [s]).length=a.length+b.length+c.length+2:=by
 simp [Lib.join_cons,Lib.joinTail];omega
theorem join4_len (a b c d:List UInt8) (s:UInt8):(Lib.join [a,b,c,d] [s]).length=a.length+b.length+c.length+d.length+3:=by
 simp [Lib.join_cons,Lib.joinTail];omega
def fmtSet (s:SetD):List UInt8:=if setOk s then setL s else []
def ordP (l:List UInt8):Option Int:=if l= [108,111,119] then some 0 else if l= [104,105,103,104] then some 1 else none
def set3 (a b c:List UInt8):Option SetD:=match ordP a,numP b,numP c with
 |some o,some l,some m=>if setOk ⟨o,l,m⟩ then some ⟨o,l,m⟩ else none
 |_,_,_=>none
def prsSet (t:List UInt8):Option SetD:=match splL 32 t with
 | [a,b,c]=>set3 a b c
 |_=>none
theorem ordP_text {l:List UInt8} {o:Int} (h:ordP l=some o):l=ordT o:=by
 unfold ordP at h
 split at h
 ·rename_i e;simp only [Option.some.injEq] at h;subst h;rw [e];rfl
 ·split at h
  ·rename_i e;simp only [Option.some.injEq] at h;subst h;rw [e];rfl
  ·cases h
theorem ordP_fmt {o:Int} (h:o=0∨o=1):ordP (ordT o)=some o:=by
 rcases h with rfl|rfl <;> rfl
theorem itoa_no' {c:UInt8} (n:Int) (h:(c == 45 || (decide (48≤c.toNat) && decide (c.toNat≤57)))=false):c ∉ Lib.itoa n:=by
 simp only [Bool.or_eq_false_iff,Bool.and_eq_false_iff,beq_eq_false_iff_ne,decide_eq_false_iff_not] at h
 exact itoa_no n h.1 (by omega)
theorem fmtSet_prs {t:List UInt8} {s:SetD} (h:prsSet t=some s):fmtSet s=t∧setOk s=true:=by
 unfold prsSet at h
 split at h
 ·rename_i a b c hx
  unfold set3 at h
  split at h
  ·rename_i o l m h1 h2 h3
   split at h
   ·rename_i hv
    simp only [Option.some.injEq] at h
    subst h
    refine ⟨?_,hv⟩
    unfold fmtSet
    rw [hv,if_pos rfl]
    unfold setL
    rw [← ordP_text h1,←numP_text h2,←numP_text h3,←hx]
    exact join_splL 32 t
   ·cases h
  ·cases h
 ·cases h
theorem setOk_small {s:SetD} (h:setOk s=true):(s.ord=0∨s.ord=1)∧1≤s.lit∧s.lit≤8∧3≤s.most∧s.most≤10:=by
 obtain ⟨h1,h2,h3,h4⟩:=setOk_bd h
 exact ⟨h1,h2.1,h2.2,by omega,h4⟩
theorem fmtSet_spl {s:SetD} (h:setOk s=true):splL 32 (fmtSet s)= [ordT s.ord,Lib.itoa s.lit,Lib.itoa s.most]:=by
 unfold fmtSet
 rw [h,if_pos rfl]
 unfold setL
 refine splL_join (by simp) fun x hx=>?_
 simp only [List.mem_cons,List.not_mem_nil,or_false] at hx
 rcases hx with rfl|rfl|rfl
 ·unfold ordT;split <;> decide
 ·exact itoa_no' _ (by decide)
 ·exact itoa_no' _ (by decide)
theorem prsSet_fmt {s:SetD} (h:setOk s=true):prsSet (fmtSet s)=some s:=by
 obtain ⟨h1,h2,h3,h4,h5⟩:=setOk_small h
 unfold prsSet
 rw [fmtSet_spl h]
 simp only [set3,ordP_fmt h1,numP_itoa (n:=s.lit) (by omega) (by omega),numP_itoa (n:=s.most) (by omega) (by omega)]
 rw [if_pos h]
theorem fmtSet_no {s:SetD} {c:UInt8} (hc:(c == 45 || (decide (48≤c.toNat) && decide (c.toNat≤57)))=false) (h1:c ∉ ordT 0) (h2:c ∉ ordT 1) (h3:c≠32):c ∉ fmtSet s:=by
 unfold fmtSet
 split
 ·have ho:c ∉ ordT s.ord:=by unfold ordT at *;split <;> assumption
  unfold setL
  refine join_no (fun x hx=>?_) h3
  simp only [List.mem_cons,List.not_mem_nil,or_false] at hx
  rcases hx with rfl|rfl|rfl
  ·exact ho
  ·exact itoa_no' _ hc
  ·exact itoa_no' _ hc
 ·simp
theorem fmtSet_le (s:SetD):(fmtSet s).length≤50:=by
 unfold fmtSet
 split
 ·rename_i h
  obtain ⟨h1,h2,h3,h4,h5⟩:=setOk_small h
  have e1:=itoa_le (n:=s.lit) (by omega) (by omega)
  have e2:=itoa_le (n:=s.most) (by omega) (by omega)
  have e3:(ordT s.ord).length≤4:=by unfold ordT;split <;> decide
  unfold setL
  rw [join3_len]
  omega
 ·simp
def pairT (p:PairD):List UInt8:=Lib.itoa p.pre++46 :: Lib.itoa p.byt
def prsT (ps:List PairD):List UInt8:=Lib.join (ps.map pairT) [44]
def knL (k:KnD):List UInt8:=Lib.join [fmtSet k.set,Lib.itoa k.base,Lib.itoa k.last,someL (prsT k.ps)] [59]
def fmtK (k:KnD):List UInt8:=if validK k then knL k else []
def prP (l:List UInt8):Option PairD:=(pairP 46 l).map fun p=>⟨p.1,p.2⟩
def prsP (d:List UInt8):Option (List PairD):=if d= [45] then some [] else allP prP (splL 44 d)
def kn4 (a b c d:List UInt8):Option KnD:=match prsSet a,numP b,numP c with
 |some s,some ba,some la=>match prsP d with
  |some ps=>if validK ⟨s,ps,ba,la⟩ then some ⟨s,ps,ba,la⟩ else none
  |none=>none
 |_,_,_=>none
def prsK (t:List UInt8):Option KnD:=match splL 59 t with
 | [a,b,c,d]=>kn4 a b c d
 |_=>none
theorem prP_text {l:List UInt8} {p:PairD} (h:prP l=some p):l=pairT p:=by
 unfold prP at h
 obtain ⟨⟨a,b⟩,h1,rfl⟩:=Option.map_eq_some_iff.1 h
 exact pairP_text h1
theorem prsP_text {d:List UInt8} {ps:List PairD} (h:prsP d=some ps):d=someL (prsT ps):=by
 unfold prsP at h
 split at h
 ·rename_i e
  simp only [Option.some.injEq] at h
  subst h;rw [e];rfl
 ·have ht:=allP_text h (fun x y=>prP_text)
  have hj:prsT ps=d:=by unfold prsT;rw [← ht];exact join_splL 44 d
  rw [hj]
  unfold someL
  rw [if_neg]
  rintro rfl
  have:=allP_iff.1 h
  cases ps with
  |nil=>simp [splL] at this
  |cons p r =>
   simp only [splL,List.map_cons,List.map_nil,List.cons.injEq] at this
   exact absurd this.1 (by simp [prP,pairP,cutL])
theorem fmtK_prs {t:List UInt8} {k:KnD} (h:prsK t=some k):fmtK k=t∧validK k=true:=by
 unfold prsK at h
 split at h
 ·rename_i a b c d hx
  unfold kn4 at h
  split at h
  ·rename_i s ba la h1 h2 h3
   split at h
   ·rename_i ps h4
    split at h
    ·rename_i hv
     simp only [Option.some.injEq] at h
     subst h
     refine ⟨?_,hv⟩
     unfold fmtK
     rw [hv,if_pos rfl]
     unfold knL
     simp only []
     rw [(fmtSet_prs h1).1,←numP_text h2,←numP_text h3,←prsP_text h4,←hx]
     exact join_splL 59 t
    ·cases h
   ·cases h
  ·cases h
 ·cases h
theorem validK_small {k:KnD} (h:validK k=true):setOk k.set=true∧k.ps.length≤1024∧(0≤k.base∧k.base≤1024)∧(-1≤k.last∧k.last≤2000)∧ ∀ p∈k.ps,0≤p.pre∧p.pre≤2000∧0≤p.byt∧p.byt≤255:=by
 obtain ⟨hok,-⟩:=ok_of_valid h
 have h1:=hok.c_bd
 have h2:=hok.len
 have h3:=hok.base0
 have h4:=hok.base1
 have hcb:=clr_bd hok.set
 refine ⟨hok.set,by omega,by omega,?_,fun p hp=>?_⟩
 ·rcases hok.last with e|e
  ·omega
  ·rw [codeOk_iff] at e;omega
 ·obtain ⟨i,hi,rfl⟩:=List.getElem_of_mem hp
  obtain ⟨a,b,c⟩:=hok.ps.get hi
  rw [codeOk_iff] at a
  omega
theorem pairT_chr {c:UInt8} (p:PairD) (hc:(c == 45 || (decide (48≤c.toNat) && decide (c.toNat≤57)))=false) (h:c≠46):c ∉ pairT p:=by
 intro hm
 rcases List.mem_append.1 hm with hm|hm
 ·exact itoa_no' _ hc hm
 ·rcases List.mem_cons.1 hm with hm|hm
  ·exact h hm
  ·exact itoa_no' _ hc hm
theorem prsT_dot {p:PairD} {r:List PairD} :(46:UInt8)∈prsT (p :: r):=by
 unfold prsT
 rw [List.map_cons,Lib.join_cons]
 exact List.mem_append_left _ (by simp [pairT])
theorem prsT_some {p:PairD} {r:List PairD} :someL (prsT (p :: r))=prsT (p :: r)∧prsT (p :: r)≠ [45]:=by
 have hd:= @prsT_dot p r
 refine ⟨?_,fun e=>?_⟩
 ·unfold someL
  rw [if_neg]
  intro e
  rw [e] at hd;simp at hd
 ·rw [e] at hd
  exact absurd hd (by decide)
theorem prsT_spl {p:PairD} {r:List PairD} :splL 44 (prsT (p :: r))=(p :: r).map pairT :=
 splL_join (by simp) (fun x hx=>by
  obtain ⟨q,-,rfl⟩:=List.mem_map.1 hx
  exact pairT_chr q (by decide) (by decide))
theorem prsP_fmt {ps:List PairD} (h: ∀ p∈ps,0≤p.pre∧p.pre≤2000∧0≤p.byt∧p.byt≤255):prsP (someL (prsT ps))=some ps:=by
 cases ps with
 |nil=>rfl
 |cons p r =>
  obtain ⟨e1,e2⟩:= @prsT_some p r
  rw [e1]
  unfold prsP
  rw [if_neg e2,prsT_spl,allP_map (q:=fun p=>p) (fun q hq=>by
   obtain ⟨a,b,c,d⟩:=h q hq
   unfold prP pairT
   rw [pairP_fmt (by decide) (.inl (by decide)) (by omega) (by omega) (by omega) (by omega)]
   rfl)]
  simp
theorem someL_no {c:UInt8} {l:List UInt8} (h:c ∉ l) (hc:c≠45):c ∉ someL l:=by
 unfold someL
 split
 ·intro e;exact hc (by simpa using e)
 ·exact h
theorem prsT_no {c:UInt8} {ps:List PairD} (hc:(c == 45 || (decide (48≤c.toNat) && decide (c.toNat≤57)))=false) (h:c≠46) (h2:c≠44):c ∉ prsT ps :=
 join_no (fun x hx=>by
  obtain ⟨q,-,rfl⟩:=List.mem_map.1 hx
  exact pairT_chr q hc h) h2
theorem knL_spl (k:KnD):splL 59 (knL k)= [fmtSet k.set,Lib.itoa k.base,Lib.itoa k.last,someL (prsT k.ps)]:=by
 unfold knL
 refine splL_join (by simp) fun x hx=>?_
 simp only [List.mem_cons,List.not_mem_nil,or_false] at hx
 rcases hx with rfl|rfl|rfl|rfl
 ·exact fmtSet_no (by decide) (by decide) (by decide) (by decide)
 ·exact itoa_no' _ (by decide)
 ·exact itoa_no' _ (by decide)
 ·exact someL_no (prsT_no (by decide) (by decide) (by decide)) (by decide)
theorem fmtK_spl {k:KnD} (h:validK k=true):splL 59 (fmtK k)= [fmtSet k.set,Lib.itoa k.base,Lib.itoa k.last,someL (prsT k.ps)]:=by
 unfold fmtK
 rw [h,if_pos rfl]
 exact knL_spl k
theorem prsK_fmt {k:KnD} (h:validK k=true):prsK (fmtK k)=some k:=by
 obtain ⟨h1,h2,h3,h4,h5⟩:=validK_small h
 unfold prsK
 rw [fmtK_spl h]
 simp only [kn4,prsSet_fmt h1,numP_itoa (n:=k.base) (by omega) (by omega),numP_itoa (n:=k.last) (by omega) (by omega),prsP_fmt h5]
 rw [if_pos h]
end Go.Proofs.YtekogcjdaolcbaaGreatDoor
/- FormatSetting and FormatKnown of the reference. Conditions: the pairs can be read, at most 2^30. -/
namespace Go.Proofs.YtekogcjdaolcbaaGreatDoor
open Go Go.RowKit
theorem setL_bs (s:SetD):((bs (ordT s.ord)++(⟨#[32]⟩:ByteArray))++bs (Lib.itoa s.lit)++(⟨#[32]⟩:ByteArray))++bs (Lib.itoa s.most)=bs (setL s):=by
 rw [show (⟨#[32]⟩:ByteArray)=bs [32] from rfl]
 simp [bs_app,setL,Lib.join_cons,Lib.joinTail]
theorem pairT_le {p:PairD} (h:0≤p.pre∧p.pre≤2000∧0≤p.byt∧p.byt≤255):(pairT p).length≤43:=by
 have h1:=itoa_le (n:=p.pre) (by omega) (by omega)
 have h2:=itoa_le (n:=p.byt) (by omega) (by omega)
 simp only [pairT,List.length_append,List.length_cons]
 omega
theorem prsT_le {ps:List PairD} (hl:ps.length≤1024) (h: ∀ p∈ps,0≤p.pre∧p.pre≤2000∧0≤p.byt∧p.byt≤255) (k:Nat):(prsT (ps.take k)).length≤45056:=by
 have h1:=join_le 43 ((ps.take k).map pairT) 44 (fun x hx=>by
  obtain ⟨p,hp,rfl⟩:=List.mem_map.1 hx
  exact pairT_le (h p (List.mem_of_mem_take hp)))
 have h3:((ps.take k).map pairT).length≤1024:=by rw [List.length_map,List.length_take];omega
 unfold prsT
 have:=Nat.mul_le_mul_left 44 h3
 omega
theorem someL_le {l:List UInt8} {n:Nat} (h:l.length≤n) (hn:1≤n):(someL l).length≤n:=by
 unfold someL;split
 ·exact hn
 ·exact h
theorem fmtK_le (k:KnD):(fmtK k).length≤46000:=by
 unfold fmtK
 split
 ·rename_i hv
  obtain ⟨h1,h2,h3,h4,h5⟩:=validK_small hv
  have e1:=fmtSet_le k.set
  have e2:=itoa_le (n:=k.base) (by omega) (by omega)
  have e3:=itoa_le (n:=k.last) (by omega) (by omega)
  have e4:=prsT_le h2 h5 k.ps.length
  rw [List.take_length] at e4
  have e5:=someL_le e4 (by omega)
  unfold knL
  rw [join4_len]
  omega
 ·simp
end Go.Proofs.YtekogcjdaolcbaaGreatDoor
/- FormatSetting and FormatKnown of the program. Conditions: the pairs can be read, at most 2^30; the table of powers of ten lies where it was laid. -/
namespace Go.Proofs.YtekogcjdaolcbaaGreatDoor
open Go Go.RowKit
def MkS (base:Nat) (xs:List (List UInt8)) (v:Value) (w:World):Prop:=w.ownsRow base 9 1 v xs.length (cellsS (xs.map bs))
theorem mkS_closed (base:Nat) (xs:List (List UInt8)) (v:Value):UpClosed (MkS base xs v):=fun w w' h hu=>ownsRow_up h hu
theorem mkS_new {base:Nat} {w w':World} (hu:Up w w') (hb:base≤w.heap.size) (a b c d:List UInt8):MkS base [a,b,c,d] (.slice (some ⟨w'.heap.size,0,none⟩) 4 4) (w'.alloc (.cells #[.string (bs a),.string (bs b),.string (bs c),.string (bs d)] 9)) :=
 ⟨by simp [cellsS],.inr ⟨w'.heap.size,_,_,rfl,Nat.le_trans hb hu.size,(MapKept.heap_alloc w' _).1,Nat.le_refl _,by unfold maxLen;omega,by simp,by simp [cellsS]⟩⟩
theorem mkS_new5 {base:Nat} {w w':World} (hu:Up w w') (hb:base≤w.heap.size) (a b c d e:List UInt8):MkS base [a,b,c,d,e] (.slice (some ⟨w'.heap.size,0,none⟩) 5 5) (w'.alloc (.cells #[.string (bs a),.string (bs b),.string (bs c),.string (bs d),.string (bs e)] 9)) :=
 ⟨by simp [cellsS],.inr ⟨w'.heap.size,_,_,rfl,Nat.le_trans hb hu.size,(MapKept.heap_alloc w' _).1,Nat.le_refl _,by unfold maxLen;omega,by simp,by simp [cellsS]⟩⟩
theorem joinM_any {base:Nat} {xs:List (List UInt8)} {v:Value} {w:World} (sep:UInt8) (h:MkS base xs v w) (h0:xs≠ []) (hn:xs.length≤1048576) (hlen:(Lib.join xs [sep]).length≤140737488355328) :
  Calls Tryz.prog 53 #[v,.string ⟨#[sep]⟩] w (Same (.string (bs (Lib.join xs [sep]))) w):=by
 unfold MkS at h
 rcases ownsRow_read h with ⟨rfl,h2⟩|⟨g,cap,rfl,-⟩
 ·exact absurd (List.length_eq_zero_iff.1 h2) h0
 ·exact joinS_any g xs.length cap xs sep w base rfl hn h hlen
set_option maxRecDepth 100000 in
set_option maxHeartbeats 1000000 in
theorem fsetI_any (s:SetD) (w:World) (hT:Tab w) (hl: -9223372036854775808≤s.lit∧s.lit≤9223372036854775807):Calls Tryz.prog 117  #[setV s] w (Same (.string (bs (fmtSet s))) w):=by
 have cS:=fun w=>setI_any s.ord s.lit s.most w hl
 rw [setD_eta] at cS
 cases h:setOk s
 ·have e:Hid (fmtSet s= []):=by unfold Hid fmtSet;rw [h];rfl
  rw [h] at cS
  rw [e.out]
  clear h
  simp only [setV] at *
  go_enter Tryz.func117,Tryz.ntmps117
  go_wp2_with ((go_at_call 89;(with_reducible refine (cS _).mono ?_);rintro e w1 ⟨rfl,U1⟩;have B1:=bcell U1;have Z1:=U1.size;(try simp at Z1);(try rw [Nat.add_one_le_iff] at Z1)))
  go_ret
  exact ⟨rfl,by (repeat (first|with_reducible exact Up.refl _|with_reducible assumption|with_reducible refine Up.alloc ?_ _|refine Up.trans ?_ (by with_reducible assumption)))⟩
 ·obtain ⟨h1,h2,h3,h4,h5⟩:=setOk_small h
  have e:Hid (fmtSet s=setL s):=by unfold Hid fmtSet;rw [h];rfl
  rw [h] at cS
  rw [e.out]
  have HX:=Lib.hid (setL_bs s)
  have cA:=fun wx (hx:Up w wx)=>itoa_any s.lit wx (hT.up hx) (by omega) (by omega)
  have cB:=fun wx (hx:Up w wx)=>itoa_any s.most wx (hT.up hx) (by omega) (by omega)
  have lA:=itoa_le (n:=s.lit) (by omega) (by omega)
  have lB:=itoa_le (n:=s.most) (by omega) (by omega)
  have zA:=bs_size (Lib.itoa s.lit)
  have zB:=bs_size (Lib.itoa s.most)
  clear h e hT
  generalize Lib.itoa s.lit=A at *
  generalize Lib.itoa s.most=B at *
  simp only [setV] at *
  rcases h1 with ho|ho
  all_goals
   first
    |have HO:Hid (bs (ordT s.ord)=(⟨#[108,111,119]⟩:ByteArray)):=by unfold Hid;rw [ho];rfl
    |have HO:Hid (bs (ordT s.ord)=(⟨#[104,105,103,104]⟩:ByteArray)):=by unfold Hid;rw [ho];rfl
   rw [ho] at cS
   rw [ho]
   go_enter Tryz.func117,Tryz.ntmps117
   go_wp2_with ((go_at_call 89;(with_reducible refine (cS _).mono ?_);rintro e w1 ⟨rfl,U1⟩;have B1:=bcell U1;have Z1:=U1.size;(try simp at Z1);(try rw [Nat.add_one_le_iff] at Z1)))
   refine wp_region_up 11 (by kernel_rfl) (by kernel_rfl) ?_
   simp only [List.take,List.drop]
   repeat (refine wpUp_step (fun K hK=>?_);go_simp;(try simp only [↓IntWalk.iteOmega]);first
    |(refine hK _ _ ?_;clear hK K)
    |(apply stepU_c
      ·intro wq hwq;(have hbq:=bcell hwq;(repeat (first|refine fills_no (by rfl) ?_|refine fills_yes (by rfl) (fun vq hvq=>?_)));simp only [List.filter_nil,fills];unfold upAt;go_simp;(try go_bits);(try simp only [↓IntWalk.iteOmega]);first|exact upOut_value|(apply upOut_call;(go_at_call 80;first|with_reducible exact cA _ (by (repeat (first|with_reducible exact Up.refl _|with_reducible assumption|with_reducible refine Up.alloc ?_ _|refine Up.trans ?_ (by with_reducible assumption))))|with_reducible exact cB _ (by (repeat (first|with_reducible exact Up.refl _|with_reducible assumption|with_reducible refine Up.alloc ?_ _|refine Up.trans ?_ (by with_reducible assumption)))))))
      go_simp;refine hK _ _ ?_;clear hK K))
   refine wpUp_nil (fun wq hwq=>?_)
   simp only [fills]
   go_wp2
   go_ret
   exact ⟨by rw [← HX.out,HO.out];rfl,by (repeat (first|with_reducible exact Up.refl _|with_reducible assumption|with_reducible refine Up.alloc ?_ _|refine Up.trans ?_ (by with_reducible assumption)))⟩
theorem knL_le {k:KnD} (hv:validK k=true):(knL k).length≤46000:=by
 have:=fmtK_le k
 unfold fmtK at this
 rw [hv,if_pos rfl] at this
 exact this
def RelFki (k:KnD) (v:Value) (w W:World) (i:Value) (wr:World):Prop:= ∃ j:Nat,j≤k.ps.length∧i= .int .i64 j∧Up w wr∧KnAt w.heap.size k v wr∧w.heap.size<W.heap.size∧wr.ownsRow W.heap.size 9 1 (.slice (some ⟨W.heap.size,0,none⟩) k.ps.length k.ps.length) k.ps.length (cellsS (midS ((k.ps.map pairT).map bs) j))
set_option maxRecDepth 100000 in
set_option maxHeartbeats 8000000 in
theorem fkI_any (k:KnD) (v:Value) (lo:Nat) (w:World) (hT:Tab w) (hl: -9223372036854775808≤k.set.lit∧k.set.lit≤9223372036854775807) (hr:RdP lo w v k.ps) (hps:k.ps.length≤1073741824) :
  Calls Tryz.prog 54  #[kV k v] w (Same (.string (bs (fmtK k))) w):=by
 have cV:=fun wx h=>kvI_gen k v lo wx hl h hps
 have hrt:=fun (wq:World) (hu:Up w wq)=>hr.up hu
 obtain ⟨a,cap,rfl,hc1,hc2,hc3,hsome⟩:=hr
 unfold maxLen at hc2
 cases hv:validK k
 ·have e:Hid (fmtK k= []):=by unfold Hid fmtK;rw [hv];rfl
  rw [hv] at cV
  rw [e.out]
  clear hv hsome hc3 hT
  simp only [kV] at *
  go_enter Tryz.func54,Tryz.ntmps54
  go_wp2_with ((go_at_call 64;(with_reducible refine (cV _ (hrt _ (by (repeat (first|with_reducible exact Up.refl _|with_reducible assumption|with_reducible refine Up.set ?_ (by first|exact Nat.le_refl _|(simp only [];omega)|(simp;omega)) _|with_reducible refine Up.alloc ?_ _|refine Up.trans ?_ (by with_reducible assumption)))))).mono ?_);rintro e w1 ⟨rfl,U1⟩;have B1:=bcell U1;have Z1:=U1.size;(try simp at Z1);(try rw [Nat.add_one_le_iff] at Z1)))
  go_ret
  exact ⟨rfl,by (repeat (first|with_reducible exact Up.refl _|with_reducible assumption|with_reducible refine Up.set ?_ (by first|exact Nat.le_refl _|(simp only [];omega)|(simp;omega)) _|with_reducible refine Up.alloc ?_ _|refine Up.trans ?_ (by with_reducible assumption)))⟩
 ·obtain ⟨h1,h2,h3,h4,h5⟩:=validK_small hv
  have e:Hid (fmtK k=knL k):=by unfold Hid fmtK;rw [hv];rfl
  have hr:=Lib.hid h5
  have hle:=prsT_le h2 h5 k.ps.length
  rw [List.take_length] at hle
  have HLE:=Lib.hid hle
  have HKL:=Lib.hid (knL_le hv)
  have cF:=fun wx (hx:Up w wx)=>fsetI_any k.set wx (hT.up hx) hl
  have zF:=fmtSet_le k.set
  have HT:=Lib.hid hT
  rw [hv] at cV
  rw [e.out]
  obtain ⟨i0,hi0,hz0,hz1,hz2⟩:=info_parts infoStr
  have hmk: ∀ w:World,(Instr.makeSlice 45 (.int .i64 (k.ps.length:Int)) (.int .i64 (k.ps.length:Int))).run Tryz.prog w= .ok (.slice (some ⟨w.heap.size,0,none⟩) k.ps.length k.ps.length) (w.alloc (.cells (madeCells #[.string ByteArray.empty] k.ps.length) 9)):=fun w=>by
   have:=run_make (P:=Tryz.prog) w 45 9 i0 _ Tryz.underlying45 hi0 hz0 .i64 .i64 k.ps.length k.ps.length (by omega) (Int.le_refl _) (by rw [hz2];omega) (by omega)
   rw [hz1] at this
   simpa [Value.cells] using this
  clear hz0 hz1 hz2 hi0 hv h5 hT hle
  simp only [kV,setV] at *
  go_enter Tryz.func54,Tryz.ntmps54
  go_wp2_with ((go_at_call 64;(with_reducible refine (cV _ (hrt _ (by (repeat (first|with_reducible exact Up.refl _|with_reducible assumption|with_reducible refine Up.set ?_ (by first|exact Nat.le_refl _|(simp only [];omega)|(simp;omega)) _|with_reducible refine Up.alloc ?_ _|refine Up.trans ?_ (by with_reducible assumption)))))).mono ?_);rintro e w1 ⟨rfl,U1⟩;have B1:=bcell U1;have Z1:=U1.size;(try simp at Z1);(try rw [Nat.add_one_le_iff] at Z1)))
  have hU1:Up w w1:=by (repeat (first|with_reducible exact Up.refl _|with_reducible assumption|with_reducible refine Up.set ?_ (by first|exact Nat.le_refl _|(simp only [];omega)|(simp;omega)) _|with_reducible refine Up.alloc ?_ _|refine Up.trans ?_ (by with_reducible assumption)))
  have hKA:KnAt w.heap.size k (.slice a k.ps.length cap) w1:=box_up U1 (MapKept.heap_alloc w _).1
  have hw1:w.heap.size<w1.heap.size:=hKA.cells.1
  clear cV B1 Z1 U1
  go_loopw [16] (fun i wr=>RelFki k (.slice a k.ps.length cap) w w1 i wr) (fun i _=>k.ps.length - (intOf i).toNat)
  case atStart=>exact ⟨0,Nat.zero_le _,rfl,hU1.alloc _,hKA.up ((Up.refl _).alloc _),hw1,by rw [midS_zero,List.length_map,List.length_map];exact made_strs w1 _ (by unfold maxLen;omega)⟩
  case round =>
   clear hU1 hKA hw1
   obtain ⟨j,hj,rfl,hup,hkn,hw1,ho⟩:=hrel
   obtain ⟨b0,r0,r1,r2,r3,r4,r5⟩:=hkn.cells
   have HKN:=Lib.hid hkn
   have hrl:w1.heap.size<wr.heap.size:=(ho.lt _ rfl).2
   clear hkn
   by_cases hlt:j<k.ps.length
   ·obtain ⟨b,off,rfl,hlo,hbl,hcells⟩:=hsome (by omega)
    obtain ⟨q0,q1⟩:=hcells j k.ps[j] (List.getElem?_eq_getElem hlt)
    have p0:=(hup.cell (p:=⟨b,off+j * 2,none⟩) hbl).trans q0
    have p1:=(hup.cell (p:=⟨b,off+j * 2+1,none⟩) hbl).trans q1
    have hbw:=Nat.lt_of_lt_of_le hbl hup.size
    obtain ⟨n1,n2,n3,n4⟩:=hr.out k.ps[j] (List.getElem_mem _)
    have cA:=fun wx (hx:Up w wx)=>itoa_any k.ps[j].pre wx (HT.out.up hx) (by omega) (by omega)
    have cB:=fun wx (hx:Up w wx)=>itoa_any k.ps[j].byt wx (HT.out.up hx) (by omega) (by omega)
    have lA:=itoa_le (n:=k.ps[j].pre) (by omega) (by omega)
    have lB:=itoa_le (n:=k.ps[j].byt) (by omega) (by omega)
    have zA:=bs_size (Lib.itoa k.ps[j].pre)
    have zB:=bs_size (Lib.itoa k.ps[j].byt)
    have hkT:j<((k.ps.map pairT).map bs).length:=by simpa using hlt
    have HM:=Lib.hid (midS_set ((k.ps.map pairT).map bs) j hkT)
    have HX:Hid ((bs (Lib.itoa k.ps[j].pre)++(⟨#[46]⟩:ByteArray))++bs (Lib.itoa k.ps[j].byt)=((k.ps.map pairT).map bs)[j]):=by
     unfold Hid
     rw [List.getElem_map,List.getElem_map,show (⟨#[46]⟩:ByteArray)=bs [46] from rfl]
     simp [bs_app,pairT]
    have HF:=Lib.hid (fun wx (hx:Up wr wx)=>ownsRow_free (ownsRow_up ho hx) j)
    have HC:=Lib.hid (fun wx (hx:Up wr wx)=>ownsRow_cell (ownsRow_up ho hx) (midS_at ((k.ps.map pairT).map bs) j hkT))
    have HO:=Lib.hid ho
    generalize Lib.itoa k.ps[j].pre=A at *
    generalize Lib.itoa k.ps[j].byt=B at *
    generalize k.ps[j].pre=x at *
    generalize k.ps[j].byt=y at *
    clear hr hcells q0 q1 ho cF
    go_wp2
    refine wp_region_up 11 (by kernel_rfl) (by kernel_rfl) ?_
    simp only [List.take,List.drop]
    repeat (refine wpUp_step (fun K hK=>?_);go_simp;(try simp only [↓IntWalk.iteOmega]);first
     |(refine hK _ _ ?_;clear hK K)
     |(apply stepU_c
       ·intro wq hwq;(have hbq:=bcell hwq;(repeat (first|refine fills_no (by rfl) ?_|refine fills_yes (by rfl) (fun vq hvq=>?_)));simp only [List.filter_nil,fills];unfold upAt;go_simp;(try go_bits);(try simp only [↓IntWalk.iteOmega]);first|exact upOut_value|(apply upOut_call;(go_at_call 80;first|with_reducible exact cA _ (by (repeat (first|with_reducible exact Up.refl _|with_reducible assumption|with_reducible refine Up.set ?_ (by first|exact Nat.le_refl _|(simp only [];omega)|(simp;omega)) _|with_reducible refine Up.alloc ?_ _|refine Up.trans ?_ (by with_reducible assumption))))|with_reducible exact cB _ (by (repeat (first|with_reducible exact Up.refl _|with_reducible assumption|with_reducible refine Up.set ?_ (by first|exact Nat.le_refl _|(simp only [];omega)|(simp;omega)) _|with_reducible refine Up.alloc ?_ _|refine Up.trans ?_ (by with_reducible assumption))))))|(apply upOut_eq;(go_at_call 80;first|with_reducible exact cA _ (by (repeat (first|with_reducible exact Up.refl _|with_reducible assumption|with_reducible refine Up.set ?_ (by first|exact Nat.le_refl _|(simp only [];omega)|(simp;omega)) _|with_reducible refine Up.alloc ?_ _|refine Up.trans ?_ (by with_reducible assumption))))|with_reducible exact cB _ (by (repeat (first|with_reducible exact Up.refl _|with_reducible assumption|with_reducible refine Up.set ?_ (by first|exact Nat.le_refl _|(simp only [];omega)|(simp;omega)) _|with_reducible refine Up.alloc ?_ _|refine Up.trans ?_ (by with_reducible assumption)))))))
       go_simp;refine hK _ _ ?_;clear hK K))
    refine wpUp_nil (fun wq hwq=>?_)
    simp only [fills]
    have U3:Up wr wq:=by (repeat (first|with_reducible exact Up.refl _|with_reducible assumption|with_reducible refine Up.set ?_ (by first|exact Nat.le_refl _|(simp only [];omega)|(simp;omega)) _|with_reducible refine Up.alloc ?_ _|refine Up.trans ?_ (by with_reducible assumption)))
    have q0:=HC.out wq U3
    have f0:=HF.out wq U3
    have HO3:=Lib.hid (ownsRow_up HO.out U3)
    have HU3:=Lib.hid U3
    clear HC HF
    go_wp2
    go_roundw
    case rel=>exact ⟨j+1,by omega,by go_num,(hup.trans HU3.out).set (p:=⟨w1.heap.size,j,none⟩) (Nat.le_of_lt hw1) _,box_other (HKN.out.up HU3.out) (p:=⟨w1.heap.size,j,none⟩) (Nat.ne_of_lt hw1) _,hw1,by rw [← HM.out,←HX.out];exact ownsRow_set HO3.out j _⟩
    case measure=>simp [intOf];omega
   ·have hjl:j=k.ps.length:=by omega
    subst hjl
    have hall:midS ((k.ps.map pairT).map bs) k.ps.length=(k.ps.map pairT).map bs:=by
     have:=midS_all ((k.ps.map pairT).map bs)
     rwa [List.length_map,List.length_map] at this
    rw [hall] at ho
    have cJ:=fun wx (h:Up wr wx)=>joinS_any w1.heap.size k.ps.length k.ps.length (k.ps.map pairT) 44 wx w1.heap.size (by simp) (by omega) (ownsRow_up ho h) (by have:=HLE.out;unfold prsT at this;omega)
    have cD:=fun wx=>orDash_any (prsT k.ps) wx
    have cA:=fun wx (hx:Up w wx)=>itoa_any k.base wx (HT.out.up hx) (by omega) (by omega)
    have cB:=fun wx (hx:Up w wx)=>itoa_any k.last wx (HT.out.up hx) (by omega) (by omega)
    have HW:Hid (w.heap.size≤wr.heap.size):=hup.size
    rw [show Lib.join (k.ps.map pairT) [44]=prsT k.ps from rfl] at cJ
    have cM:=fun (v:Value) (wx:World) (h:MkS w.heap.size [fmtSet k.set,Lib.itoa k.base,Lib.itoa k.last,someL (prsT k.ps)] v wx)=>joinM_any 59 h (by simp) (by simp) (by have:=HKL.out;unfold knL at this;omega)
    rw [show Lib.join [fmtSet k.set,Lib.itoa k.base,Lib.itoa k.last,someL (prsT k.ps)] [59]=knL k from rfl] at cM
    clear hr hsome hc3 hall
    generalize knL k=R at *
    generalize hA:Lib.itoa k.base=A at *
    generalize hB:Lib.itoa k.last=B at *
    generalize hS:someL (prsT k.ps)=S at *
    generalize hJ:prsT k.ps=J at *
    generalize hF:fmtSet k.set=F at *
    clear hA hB hS hJ hF
    go_wp2
    refine wp_region_up 14 (by kernel_rfl) (by kernel_rfl) ?_
    simp only [List.take,List.drop]
    repeat (refine wpUp_step (fun K hK=>?_);go_simp;(try simp only [↓IntWalk.iteOmega]);first
     |(refine hK _ _ ?_;clear hK K)
     |(apply stepU_c
       ·intro wq hwq;(have hbq:=bcell hwq;(repeat (first|refine fills_no (by rfl) ?_|refine fills_yes (by rfl) (fun vq hvq=>?_)));simp only [List.filter_nil,fills];unfold upAt;(try (skip));go_simp;(try go_bits);(try simp only [↓IntWalk.iteOmega]);first|exact upOut_value|(apply upOut_call;(go_at_call 80;first|with_reducible exact cA _ (by (repeat (first|with_reducible exact Up.refl _|with_reducible assumption|with_reducible refine Up.set ?_ (by first|exact Nat.le_refl _|(simp only [];omega)|(simp;omega)) _|with_reducible refine Up.alloc ?_ _|refine Up.trans ?_ (by with_reducible assumption))))|with_reducible exact cB _ (by (repeat (first|with_reducible exact Up.refl _|with_reducible assumption|with_reducible refine Up.set ?_ (by first|exact Nat.le_refl _|(simp only [];omega)|(simp;omega)) _|with_reducible refine Up.alloc ?_ _|refine Up.trans ?_ (by with_reducible assumption))))))|(apply upOut_eq;(go_at_call 80;first|with_reducible exact cA _ (by (repeat (first|with_reducible exact Up.refl _|with_reducible assumption|with_reducible refine Up.set ?_ (by first|exact Nat.le_refl _|(simp only [];omega)|(simp;omega)) _|with_reducible refine Up.alloc ?_ _|refine Up.trans ?_ (by with_reducible assumption))))|with_reducible exact cB _ (by (repeat (first|with_reducible exact Up.refl _|with_reducible assumption|with_reducible refine Up.set ?_ (by first|exact Nat.le_refl _|(simp only [];omega)|(simp;omega)) _|with_reducible refine Up.alloc ?_ _|refine Up.trans ?_ (by with_reducible assumption))))))|(apply upOut_call;(go_at_call 117;with_reducible exact cF _ (by (repeat (first|with_reducible exact Up.refl _|with_reducible assumption|with_reducible refine Up.set ?_ (by first|exact Nat.le_refl _|(simp only [];omega)|(simp;omega)) _|with_reducible refine Up.alloc ?_ _|refine Up.trans ?_ (by with_reducible assumption))))))|(apply upOut_eq;(go_at_call 117;with_reducible exact cF _ (by (repeat (first|with_reducible exact Up.refl _|with_reducible assumption|with_reducible refine Up.set ?_ (by first|exact Nat.le_refl _|(simp only [];omega)|(simp;omega)) _|with_reducible refine Up.alloc ?_ _|refine Up.trans ?_ (by with_reducible assumption))))))|(apply upOut_call;(go_at_call 55;with_reducible exact cD _))|(apply upOut_eq;(go_at_call 55;with_reducible exact cD _))|(apply upOut_call;(go_at_call 53;first|with_reducible exact cJ _ (by (repeat (first|with_reducible exact Up.refl _|with_reducible assumption|with_reducible refine Up.set ?_ (by first|exact Nat.le_refl _|(simp only [];omega)|(simp;omega)) _|with_reducible refine Up.alloc ?_ _|refine Up.trans ?_ (by with_reducible assumption))))|exact cM _ _ hvq))|(apply upOut_eq;(go_at_call 53;first|with_reducible exact cJ _ (by (repeat (first|with_reducible exact Up.refl _|with_reducible assumption|with_reducible refine Up.set ?_ (by first|exact Nat.le_refl _|(simp only [];omega)|(simp;omega)) _|with_reducible refine Up.alloc ?_ _|refine Up.trans ?_ (by with_reducible assumption))))|exact cM _ _ hvq)))
       go_simp;refine hK _ _ ?_;clear hK K)
     |(refine stepU_m (by kernel_rfl) (MkS w.heap.size [F,A,B,S]) (mkS_closed _ _) (fun wq hwq=>?_) ?_
       ·(have hbq:=bcell hwq;(repeat (first|refine fills_no (by rfl) ?_|refine fills_yes (by rfl) (fun vq hvq=>?_)));simp only [List.filter_nil,fills];unfold upAt;(try (skip));go_simp;(try go_bits);(try simp only [↓IntWalk.iteOmega]);exact upOut_make ((Up.refl _).alloc _) (mkS_new hwq HW.out _ _ _ _))
       refine hK _ _ ?_;clear hK K))
    refine wpUp_nil (fun wq hwq=>?_)
    simp only [fills]
    intro v _
    go_wp2
    go_ret
    exact ⟨rfl,by (repeat (first|with_reducible exact Up.refl _|with_reducible assumption|with_reducible refine Up.set ?_ (by first|exact Nat.le_refl _|(simp only [];omega)|(simp;omega)) _|with_reducible refine Up.alloc ?_ _|refine Up.trans ?_ (by with_reducible assumption)))⟩
end Go.Proofs.YtekogcjdaolcbaaGreatDoor
/- Plain: text of bytes in hexadecimal. Conditions: none. -/
namespace Go.Proofs.YtekogcjdaolcbaaGreatDoor
open Go
def hexD (n:Nat):UInt8:=if n<10 then UInt8.ofNat (48+n) else UInt8.ofNat (87+n)
def hexV (b:UInt8):Option Nat:=if 48≤b.toNat∧b.toNat≤57 then some (b.toNat - 48) else if 97≤b.toNat∧b.toNat≤102 then some (b.toNat - 87) else none
def hexL:List UInt8→List UInt8
 | []=> []
 |b :: r=>hexD (b.toNat / 16) :: hexD (b.toNat % 16) :: hexL r
def fmtHex (l:List UInt8):List UInt8:=if l.length≤4000 then hexL l else []
def unhex:List UInt8→Option (List UInt8)
 | []=>some []
 | [_]=>none
 |a :: b :: r=>match hexV a,hexV b with
  |some x,some y=>(unhex r).map (UInt8.ofNat (16 * x+y) :: ·)
  |_,_=>none
def prsHex (t:List UInt8):Option (List UInt8):=if t.length≤8000 then unhex t else none
theorem hexV_hexD {n:Nat} (h:n<16):hexV (hexD n)=some n:=by
 have: ∀ m:Fin 16,hexV (hexD m.1)=some m.1:=by decide
 exact this ⟨n,h⟩
theorem hexV_lt {b:UInt8} {n:Nat} (h:hexV b=some n):n<16:=by
 unfold hexV at h
 split at h
 ·simp only [Option.some.injEq] at h;omega
 ·split at h
  ·simp only [Option.some.injEq] at h;omega
  ·cases h
theorem hexL_len: ∀ l,(hexL l).length=2 * l.length
 | []=>rfl
 |b :: r=>by
  have:=hexL_len r
  simp only [hexL,List.length_cons];omega
theorem hexL_app: ∀ a b,hexL (a++b)=hexL a++hexL b
 | [],b=>rfl
 |x :: a,b=>by simp [hexL,hexL_app a b]
theorem unhex_hexL: ∀ l,unhex (hexL l)=some l
 | []=>rfl
 |b :: r=>by
  have hb:=b.toNat_lt
  have h1:b.toNat / 16<16:=by omega
  have h2:b.toNat % 16<16:=by omega
  simp only [hexL,unhex,hexV_hexD h1,hexV_hexD h2,unhex_hexL r,Option.map_some]
  congr 2
  apply UInt8.toNat_inj.1
  rw [UInt8.toNat_ofNat'];omega
theorem prsHex_fmt {l:List UInt8} (h:l.length≤4000):prsHex (fmtHex l)=some l:=by
 unfold prsHex fmtHex
 rw [if_pos h,if_pos (by rw [hexL_len];omega),unhex_hexL]
theorem hexD_chr: ∀ n,n<16→(48≤(hexD n).toNat∧(hexD n).toNat≤57)∨(97≤(hexD n).toNat∧(hexD n).toNat≤102):=by
 have: ∀ m:Fin 16,(48≤(hexD m.1).toNat∧(hexD m.1).toNat≤57)∨(97≤(hexD m.1).toNat∧(hexD m.1).toNat≤102):=by decide
 exact fun n h=>this ⟨n,h⟩
theorem hexL_chr: ∀ {l:List UInt8},∀ b∈hexL l,(48≤b.toNat∧b.toNat≤57)∨(97≤b.toNat∧b.toNat≤102)
 | [],b,h=>by simp [hexL] at h
 |x :: r,b,h=>by
  have hx:=x.toNat_lt
  simp only [hexL,List.mem_cons] at h
  rcases h with rfl|rfl|h
  ·exact hexD_chr _ (by omega)
  ·exact hexD_chr _ (by omega)
  ·exact hexL_chr b h
theorem fmtHex_chr {l:List UInt8} : ∀ b∈fmtHex l,(48≤b.toNat∧b.toNat≤57)∨(97≤b.toNat∧b.toNat≤102):=by
 unfold fmtHex
 split
 ·exact hexL_chr
 ·simp
end Go.Proofs.YtekogcjdaolcbaaGreatDoor
/- FormatHex of both sides. Conditions: at most 4000 bytes. -/
namespace Go.Proofs.YtekogcjdaolcbaaGreatDoor
open Go Go.RowKit
theorem hexL_succ {l:List UInt8} {k:Nat} (h:k<l.length):hexL (l.take (k+1))=hexL (l.take k)++ [hexD (l[k].toNat / 16),hexD (l[k].toNat % 16)]:=by
 rw [List.take_succ_eq_append_getElem h,hexL_app];rfl
def NewU (row:Option Nat) (n:Nat) (v:Value) (w:World):Prop:= ∃ q,v= .slice (some ⟨q,0,none⟩) 2 2∧some q≠row∧w.heap[q]? =some (.cells #[.int .u8 ((hexD (n / 16)).toNat:Int),.int .u8 ((hexD (n % 16)).toNat:Int)] 5)
theorem newU_closed {row:Option Nat} {n:Nat} : ∀ v (w w':World),NewU row n v w→w.grownBy w' row→NewU row n v w':=fun v w w' ⟨q,h1,h2,h3⟩ hg=>⟨q,h1,h2,gbox hg h3 h2⟩
theorem newU_cells {w:World} {x:Nat} {n:Nat} (h:w.heap[x]? =some (.cells #[.int .u8 ((hexD (n / 16)).toNat:Int),.int .u8 ((hexD (n % 16)).toNat:Int)] 5)): ∀ j u,([.int .u8 ((hexD (n / 16)).toNat:Int),.int .u8 ((hexD (n % 16)).toNat:Int)]:List Value)[j]? =some u→w.cell? ((⟨x,0,none⟩:Addr).add j)=some u:=by
 intro j u hu
 have hadd:(⟨x,0,none⟩:Addr).add j=⟨x,j,none⟩:=by unfold Addr.add;split <;> simp_all
 rw [hadd,box_cell h]
 simpa using hu
theorem hexAt: ∀ (n:Nat) (h:n<16) (h':n<(⟨#[48,49,50,51,52,53,54,55,56,57,97,98,99,100,101,102]⟩:ByteArray).size),(⟨#[48,49,50,51,52,53,54,55,56,57,97,98,99,100,101,102]⟩:ByteArray)[n]=hexD n:=by
 have: ∀ m:Fin 16,(⟨#[48,49,50,51,52,53,54,55,56,57,97,98,99,100,101,102]⟩:ByteArray)[m.1]'(by have:=m.2;show m.1<16;omega)=hexD m.1:=by decide
 exact fun n h h'=>this ⟨n,h⟩
theorem hex_cells (l:List UInt8) (n:Nat):cellsU (l++ [hexD (n / 16),hexD (n % 16)])=cellsU l++ [.int .u8 ((hexD (n / 16)).toNat:Int),.int .u8 ((hexD (n % 16)).toNat:Int)]:=by simp [cellsU]
def RelFh (l:List UInt8) (w:World) (out i:Value) (wr:World):Prop:= ∃ k:Nat,k≤l.length∧i= .int .i64 k∧ownU wr w.heap.size out (hexL (l.take k))∧Up w wr
set_option maxRecDepth 100000 in
set_option maxHeartbeats 4000000 in
theorem fhI_any (l:List UInt8) (w:World) (hl:l.length≤4000) :
  Calls Tryz.prog 56  #[.string (bs l)] w (Same (.string (bs (fmtHex l))) w):=by
 obtain ⟨i0,hib,hz0,hz1,hz2⟩:=info_parts infoByte
 have hz:=bs_size l
 rw [show fmtHex l=hexL l from if_pos hl]
 have hmk: ∀ w:World,(Instr.makeSlice 22 (.int .i64 0) (.int .i64 (2 * (l.length:Int)))).run Tryz.prog w= .ok (.slice (some ⟨w.heap.size,0,none⟩) 0 (2 * l.length)) (w.alloc (.cells (madeCells #[.int .u8 0] (2 * l.length)) 5)):=fun w=>by
  have:=run_make (P:=Tryz.prog) w 22 5 i0 _ Tryz.underlying22 hib hz0 .i64 .i64 0 (2 * l.length:Nat) (by omega) (by omega) (by rw [hz2];omega) (by omega)
  rw [hz1] at this
  have hn:(2 * (l.length:Int)).toNat=2 * l.length:=by omega
  simpa [Value.cells,hn] using this
 go_enter Tryz.func56,Tryz.ntmps56
 go_wp2
 go_loopw [3,14] (fun out i wr=>RelFh l w out i wr) (fun _ i _=>l.length - (intOf i).toNat)
 case atStart=>exact ⟨0,Nat.zero_le _,rfl,⟨rfl,.inr ⟨w.heap.size,2 * l.length,_,rfl,Nat.le_refl _,(MapKept.heap_alloc w _).1,Nat.zero_le _,by unfold maxLen;omega,by simp [madeCells],rfl⟩⟩,(Up.refl _).alloc _⟩
 case round =>
  obtain ⟨k,hk,rfl,ho,hup⟩:=hrel
  have hpl:=hexL_len (l.take k)
  rw [List.length_take,Nat.min_eq_left hk] at hpl
  unfold ownU at ho
  obtain ⟨a,c,rfl⟩:=ownsRow_shape ho
  rw [hpl] at ho ⊢
  have HO:=Lib.hid ho
  have HPL:=Lib.hid hpl
  clear ho hpl
  have hsz:=hup.size
  by_cases hlt:k<l.length
  ·have hlt2:k<(bs l).size:=by omega
   have hu:=u8_bd (bs l)[k]
   have HX:=Lib.hid (hexL_succ hlt)
   have hn16:(bs l)[k].toNat / 16<16:=by omega
   have hm16:(bs l)[k].toNat % 16<16:=by omega
   have hx1:=hexAt ((bs l)[k].toNat / 16) hn16 hn16
   have hx2:=hexAt ((bs l)[k].toNat % 16) hm16 hm16
   go_wp2
   refine wp_region_own 13 12 (Value.ownBlock (.slice a (2 * k) c)) (by kernel_rfl) (by kernel_rfl) ?_
   simp only [List.take,List.drop]
   repeat (refine wpG_step (fun K hK=>?_);go_simp;(try simp only [↓IntWalk.iteOmega]);first
    |(refine hK _ _ ?_;clear hK K)
    |(refine stepG_own (by rfl) (by kernel_rfl) ((fun v w'=>w'.ownsRow w.heap.size 5 1 v (2 * k+2) (cellsU (hexL (l.take k))++ [.int .u8 ((hexD ((bs l)[k].toNat / 16)).toNat:Int),.int .u8 ((hexD ((bs l)[k].toNat % 16)).toNat:Int)]))) ((fun v w w' h hu=>ownsRow_up h hu)) (fun wq hwq=>?_) ?_
      ·((repeat (first|refine fills_no (by rfl) ?_|refine fills_yes (by rfl) (fun vq hvq=>?_)));simp only [List.filter_nil,fills];(obtain ⟨bq,eqb,nb,hcb⟩:=hvq;exact gAt_append (.tmp 17) (.tmp 28) 22 (by rfl) w.heap.size 5 i0 (.int .u8 0) 1 1 Tryz.underlying22 hib hz0 hz1 hz2 rfl (by decide) (.slice a (2 * k) c) (2 * k) (cellsU (hexL (l.take k))) (by rfl) (ownsRow_up HO.out hwq) ⟨bq,0,none⟩ 2 2 [.int .u8 ((hexD ((bs l)[k].toNat / 16)).toNat:Int),.int .u8 ((hexD ((bs l)[k].toNat % 16)).toNat:Int)] (by exact eqb) rfl (newU_cells hcb) (by intro u hu;simp at hu;rcases hu with rfl|rfl <;> rfl) (by unfold maxLen;omega) (by omega) (by have:=hwq.size;omega) _ rfl))
      refine hK _ _ ?_;clear hK K)
    |(refine stepG_c (by rfl) ?_ ?_ ?_
      rotate_left
      ·intro wq hwq;(have hbq:=gcell hwq;(repeat (first|refine fills_no (by rfl) ?_|refine fills_yes (by rfl) (fun vq hvq=>?_)));simp only [List.filter_nil,fills];unfold upAt;(try (skip));go_simp;(try go_bits);(try simp only [↓IntWalk.iteOmega]);(try (rw [dif_pos (by omega)];go_simp;try go_bits));first|exact upOut_value)
      go_simp;refine hK _ _ ?_;clear hK K)
    |(refine stepG_m (by rfl) (by kernel_rfl) (NewU (Value.ownBlock (.slice a (2 * k) c)) (bs l)[k].toNat) (newU_closed) (fun wq hwq=>?_) ?_
      ·(have hbq:=gcell hwq;(repeat (first|refine fills_no (by rfl) ?_|refine fills_yes (by rfl) (fun vq hvq=>?_)));simp only [List.filter_nil,fills];unfold upAt;(try (skip));go_simp;(try go_bits);(try simp only [↓IntWalk.iteOmega]);(try (rw [dif_pos (by omega)];go_simp;try go_bits));exact upOut_make ((Up.refl _).alloc _) ⟨_,rfl,own_ne HO.out hwq.size,(MapKept.heap_alloc _ _).1⟩)
      refine hK _ _ ?_;clear hK K))
   refine wpG_nil (by rfl) (fun wq hwq=>?_)
   simp only [fills]
   rintro v11 h11 v10 -
   have hU:Up w wq:=hup.grown hwq (fun y hy=>(HO.out.lt y hy).1)
   obtain ⟨a3,c3,rfl⟩:=ownsRow_shape h11
   have H9:=Lib.hid (And.intro hU h11)
   clear hU h11 hwq
   go_wp2
   go_roundw
   case rel=>exact ⟨k+1,by omega,by go_num,by
    have h1:=H9.out.2
    rw [← hex_cells] at h1
    have e:hexL (l.take (k+1))=hexL (l.take k)++ [hexD ((bs l)[k].toNat / 16),hexD ((bs l)[k].toNat % 16)]:=HX.out
    unfold ownU
    rw [e,List.length_append,HPL.out]
    exact h1,H9.out.1⟩
   case measure=>simp [intOf];omega
  ·have HKL:Hid (l.take k=l):=List.take_of_length_le (by omega)
   rw [HKL.out] at HO HPL
   have hcv: ∀ n,n=2 * k→(convert 22 9 (.slice a n c)).run Tryz.prog wr= .ok (.string (bs (hexL l))) wr:=fun n hn=>by
    subst hn
    exact conv_any HO.out HPL.out.symm
   have hcv1:=hcv _ rfl
   go_wp2
   go_ret
   exact ⟨rfl,hup⟩
end Go.Proofs.YtekogcjdaolcbaaGreatDoor
/- Plain: the texts of settings, of what is known, of writers, and reading them. Conditions: none. -/
namespace Go.Proofs.YtekogcjdaolcbaaGreatDoor
open Go
def begT (b:Bool):List UInt8:=if b then [98,101,103,117,110] else [110,101,119]
def wrL (w:WrD):List UInt8:=Lib.join [fmtK w.k,someL (fmtHex w.pend),someL w.bits,begT w.beg] [124]
def fmtW (w:WrD):List UInt8:=if wrvB w then wrL w else []
def dashP (l:List UInt8):Option (List UInt8):=if l= [45] then some [] else if l= [] then none else some l
def begP (l:List UInt8):Option Bool:=if l= [110,101,119] then some false else if l= [98,101,103,117,110] then some true else none
def wr4 (a b c d:List UInt8):Option WrD:=match begP d,prsK a,(dashP b).bind prsHex,dashP c with
 |some g,some k,some p,some q=>if wrvB ⟨k,p,q,g⟩ then some ⟨k,p,q,g⟩ else none
 |_,_,_,_=>none
def prsW (t:List UInt8):Option WrD:=match splL 124 t with
 | [a,b,c,d]=>wr4 a b c d
 |_=>none
theorem begP_text {l:List UInt8} {b:Bool} (h:begP l=some b):l=begT b:=by
 unfold begP at h
 split at h
 ·rename_i e;simp only [Option.some.injEq] at h;subst h;rw [e];rfl
 ·split at h
  ·rename_i e;simp only [Option.some.injEq] at h;subst h;rw [e];rfl
  ·cases h
theorem begP_fmt (b:Bool):begP (begT b)=some b:=by cases b <;> rfl
theorem someL_ne {l:List UInt8} (h:(45:UInt8) ∉ l):(someL l= [45]↔l= [])∧someL l≠ []:=by
 unfold someL
 split
 ·rename_i e;subst e;simp
 ·rename_i e
  refine ⟨⟨fun e2=>absurd (by rw [e2];simp) h,fun e2=>absurd e2 e⟩,e⟩
theorem dashP_fmt {l:List UInt8} (h:(45:UInt8) ∉ l):dashP (someL l)=some l:=by
 obtain ⟨h1,h2⟩:=someL_ne h
 unfold dashP
 by_cases e:l= []
 ·subst e;rfl
 ·rw [if_neg (fun e2=>e (h1.1 e2)),if_neg h2]
  unfold someL;rw [if_neg e]
theorem hex_dash {l:List UInt8} :(45:UInt8) ∉ fmtHex l:=fun h=>by
 rcases fmtHex_chr _ h with e|e <;> simp at e
theorem bit_dash {l:List UInt8} (h:bitsB l=true):(45:UInt8) ∉ l:=fun hm=>by
 have:=bitsB_iff.1 h _ hm
 simp at this
theorem wrvB_parts {w:WrD} (h:wrvB w=true):validK w.k=true∧w.pend.length≤2000∧bitsB w.bits=true∧w.bits.length≤7:=by
 have ho:=wrvB_ok h
 unfold wrvB at h
 simp only [Bool.and_eq_true,decide_eq_true_eq] at h
 exact ⟨h.1,ho.2.2.2.1,h.2.2.1.1,h.2.2.1.2⟩
theorem fmtK_no {k:KnD} :(124:UInt8) ∉ fmtK k:=by
 unfold fmtK
 split
 ·unfold knL
  refine join_no (fun x hx=>?_) (by decide)
  simp only [List.mem_cons,List.not_mem_nil,or_false] at hx
  rcases hx with rfl|rfl|rfl|rfl
  ·exact fmtSet_no (by decide) (by decide) (by decide) (by decide)
  ·exact itoa_no' _ (by decide)
  ·exact itoa_no' _ (by decide)
  ·exact someL_no (prsT_no (by decide) (by decide) (by decide)) (by decide)
 ·simp
theorem fmtW_spl {w:WrD} (h:wrvB w=true):splL 124 (fmtW w)= [fmtK w.k,someL (fmtHex w.pend),someL w.bits,begT w.beg]:=by
 obtain ⟨h1,h2,h3,h4⟩:=wrvB_parts h
 unfold fmtW
 rw [h,if_pos rfl]
 unfold wrL
 refine splL_join (by simp) fun x hx=>?_
 simp only [List.mem_cons,List.not_mem_nil,or_false] at hx
 rcases hx with rfl|rfl|rfl|rfl
 ·exact fmtK_no
 ·exact someL_no (fun hm=>by rcases fmtHex_chr _ hm with e|e <;> simp at e) (by decide)
 ·exact someL_no (fun hm=>by have:=bitsB_iff.1 h3 _ hm;simp at this) (by decide)
 ·unfold begT;split <;> decide
theorem prsW_fmt {w:WrD} (h:wrvB w=true):prsW (fmtW w)=some w:=by
 obtain ⟨h1,h2,h3,h4⟩:=wrvB_parts h
 unfold prsW
 rw [fmtW_spl h]
 simp only [wr4,begP_fmt,prsK_fmt h1,dashP_fmt hex_dash,Option.bind_some,prsHex_fmt (l:=w.pend) (by omega),dashP_fmt (bit_dash h3)]
 rw [if_pos h]
end Go.Proofs.YtekogcjdaolcbaaGreatDoor
/- FormatWriter of both sides. Conditions: the pairs can be read, at most 2^20 of each kind; the table of powers of ten lies where it was laid. -/
namespace Go.Proofs.YtekogcjdaolcbaaGreatDoor
open Go Go.RowKit
theorem begT_le (b:Bool):(begT b).length≤5:=by cases b <;> decide
theorem fmtHex_le (l:List UInt8) (h:l.length≤2000):(fmtHex l).length≤4000:=by
 unfold fmtHex;split
 ·rw [hexL_len];omega
 ·simp
theorem wrL_le {x:WrD} (h:wrvB x=true):(wrL x).length≤51000:=by
 obtain ⟨h1,h2,h3,h4⟩:=wrvB_parts h
 have e1:=fmtK_le x.k
 have e2:=someL_le (fmtHex_le x.pend h2) (by omega)
 have e3:=someL_le h4 (by omega)
 have e4:=begT_le x.beg
 unfold wrL
 rw [join4_len]
 omega
theorem fmtW_le (x:WrD):(fmtW x).length≤51000:=by
 unfold fmtW;split
 ·rename_i h;exact wrL_le h
 ·simp
set_option maxRecDepth 100000 in
set_option maxHeartbeats 8000000 in
theorem fwI_any (x:WrD) (v:Value) (lo:Nat) (w:World) (hT:Tab w) (hl: -9223372036854775808≤x.k.set.lit∧x.k.set.lit≤9223372036854775807) (hr:RdP lo w v x.k.ps) (hps:x.k.ps.length≤1073741824) (hp:x.pend.length≤1073741824) (hb:x.bits.length≤1073741824) :
  Calls Tryz.prog 11  #[wrV x v] w (Same (.string (bs (fmtW x))) w):=by
 have cV:=fun wx h=>wvI_any x v lo wx hl h hps hp hb
 have cK:=fun wx (hx:Up w wx) h=>fkI_any x.k v lo wx (hT.up hx) hl h hps
 have hrt:=fun (wq:World) (hu:Up w wq)=>hr.up hu
 obtain ⟨a,cap,rfl,-⟩:=hr
 clear hT
 cases hv:wrvB x
 ·have e:Hid (fmtW x= []):=by unfold Hid fmtW;rw [hv];rfl
  rw [hv] at cV
  rw [e.out]
  clear hv cK
  simp only [wrV] at *
  go_enter Tryz.func11,Tryz.ntmps11
  go_wp2_with ((go_at_call 15;(with_reducible refine (cV _ (hrt _ (by (repeat (first|with_reducible exact Up.refl _|with_reducible assumption|with_reducible refine Up.alloc ?_ _|refine Up.trans ?_ (by with_reducible assumption)))))).mono ?_);rintro e w1 ⟨rfl,U1⟩;have B1:=bcell U1;have Z1:=U1.size;(try simp at Z1);(try rw [Nat.add_one_le_iff] at Z1)))
  go_ret
  exact ⟨rfl,by (repeat (first|with_reducible exact Up.refl _|with_reducible assumption|with_reducible refine Up.alloc ?_ _|refine Up.trans ?_ (by with_reducible assumption)))⟩
 ·obtain ⟨h1,h2,h3,h4⟩:=wrvB_parts hv
  have e:Hid (fmtW x=wrL x):=by unfold Hid fmtW;rw [hv];rfl
  have HKL:=Lib.hid (wrL_le hv)
  rw [hv] at cV
  rw [e.out]
  have cH:=fun wx=>fhI_any x.pend wx (by omega)
  have cS:=fun wx=>orDash_any (fmtHex x.pend) wx
  have cT:=fun wx=>orDash_any x.bits wx
  have cM:=fun (v:Value) (wx:World) (h:MkS w.heap.size [fmtK x.k,someL (fmtHex x.pend),someL x.bits,begT x.beg] v wx)=>joinM_any 124 h (by simp) (by simp) (by have:=HKL.out;unfold wrL at this;omega)
  rw [show Lib.join [fmtK x.k,someL (fmtHex x.pend),someL x.bits,begT x.beg] [124]=wrL x from rfl] at cM
  clear h1 h3 hv e
  have hbg:x.beg=true∨x.beg=false:=by cases x.beg <;> simp
  simp only [wrV,kV] at *
  generalize wrL x=R at *
  generalize hF1:fmtK x.k=KT at *
  generalize hF2:someL (fmtHex x.pend)=H at *
  generalize hF3:fmtHex x.pend=H0 at *
  generalize hF4:someL x.bits=B at *
  clear hF1 hF2 hF3 hF4
  rcases hbg with hg|hg
  all_goals
   rw [hg] at cM cV ⊢
   go_enter Tryz.func11,Tryz.ntmps11
   go_wp2_with ((go_at_call 15;(with_reducible refine (cV _ (hrt _ (by (repeat (first|with_reducible exact Up.refl _|with_reducible assumption|with_reducible refine Up.alloc ?_ _|refine Up.trans ?_ (by with_reducible assumption)))))).mono ?_);rintro e w1 ⟨rfl,U1⟩;have B1:=bcell U1;have Z1:=U1.size;(try simp at Z1);(try rw [Nat.add_one_le_iff] at Z1)))
   have HW:Hid (w.heap.size≤w1.heap.size):=(show Up w w1 by (repeat (first|with_reducible exact Up.refl _|with_reducible assumption|with_reducible refine Up.alloc ?_ _|refine Up.trans ?_ (by with_reducible assumption)))).size
   refine wp_region_up 13 (by kernel_rfl) (by kernel_rfl) ?_
   simp only [List.take,List.drop]
  ·skip
   repeat (refine wpUp_step (fun K hK=>?_);go_simp;(try simp only [↓IntWalk.iteOmega]);first
    |(refine hK _ _ ?_;clear hK K)
    |(apply stepU_c
      ·intro wq hwq;(have hbq:=bcell hwq;(repeat (first|refine fills_no (by rfl) ?_|refine fills_yes (by rfl) (fun vq hvq=>?_)));simp only [List.filter_nil,fills];unfold upAt;(try (skip));go_simp;(try go_bits);(try simp only [↓IntWalk.iteOmega]);first|exact upOut_value|(apply upOut_call;(go_at_call 54;with_reducible exact cK _ (by (repeat (first|with_reducible exact Up.refl _|with_reducible assumption|with_reducible refine Up.alloc ?_ _|refine Up.trans ?_ (by with_reducible assumption)))) (hrt _ (by (repeat (first|with_reducible exact Up.refl _|with_reducible assumption|with_reducible refine Up.alloc ?_ _|refine Up.trans ?_ (by with_reducible assumption)))))))|(apply upOut_eq;(go_at_call 54;with_reducible exact cK _ (by (repeat (first|with_reducible exact Up.refl _|with_reducible assumption|with_reducible refine Up.alloc ?_ _|refine Up.trans ?_ (by with_reducible assumption)))) (hrt _ (by (repeat (first|with_reducible exact Up.refl _|with_reducible assumption|with_reducible refine Up.alloc ?_ _|refine Up.trans ?_ (by with_reducible assumption)))))))|(apply upOut_call;(go_at_call 56;with_reducible exact cH _))|(apply upOut_eq;(go_at_call 56;with_reducible exact cH _))|(apply upOut_call;(go_at_call 55;first|with_reducible exact cS _|with_reducible exact cT _))|(apply upOut_eq;(go_at_call 55;first|with_reducible exact cS _|with_reducible exact cT _))|(apply upOut_call;(go_at_call 53;exact cM _ _ hvq))|(apply upOut_eq;(go_at_call 53;exact cM _ _ hvq)))
      go_simp;refine hK _ _ ?_;clear hK K)
    |(refine stepU_m (by kernel_rfl) (MkS w.heap.size [KT,H,B,begT true]) (mkS_closed _ _) (fun wq hwq=>?_) ?_
      ·(have hbq:=bcell hwq;(repeat (first|refine fills_no (by rfl) ?_|refine fills_yes (by rfl) (fun vq hvq=>?_)));simp only [List.filter_nil,fills];unfold upAt;(try (skip));go_simp;(try go_bits);(try simp only [↓IntWalk.iteOmega]);exact upOut_make ((Up.refl _).alloc _) (mkS_new hwq HW.out KT H B (begT true)))
      refine hK _ _ ?_;clear hK K))
   refine wpUp_nil (fun wq hwq=>?_)
   simp only [fills]
   intro v _
   go_wp2
   go_ret
   exact ⟨rfl,by (repeat (first|with_reducible exact Up.refl _|with_reducible assumption|with_reducible refine Up.alloc ?_ _|refine Up.trans ?_ (by with_reducible assumption)))⟩
  ·skip
   repeat (refine wpUp_step (fun K hK=>?_);go_simp;(try simp only [↓IntWalk.iteOmega]);first
    |(refine hK _ _ ?_;clear hK K)
    |(apply stepU_c
      ·intro wq hwq;(have hbq:=bcell hwq;(repeat (first|refine fills_no (by rfl) ?_|refine fills_yes (by rfl) (fun vq hvq=>?_)));simp only [List.filter_nil,fills];unfold upAt;(try (skip));go_simp;(try go_bits);(try simp only [↓IntWalk.iteOmega]);first|exact upOut_value|(apply upOut_call;(go_at_call 54;with_reducible exact cK _ (by (repeat (first|with_reducible exact Up.refl _|with_reducible assumption|with_reducible refine Up.alloc ?_ _|refine Up.trans ?_ (by with_reducible assumption)))) (hrt _ (by (repeat (first|with_reducible exact Up.refl _|with_reducible assumption|with_reducible refine Up.alloc ?_ _|refine Up.trans ?_ (by with_reducible assumption)))))))|(apply upOut_eq;(go_at_call 54;with_reducible exact cK _ (by (repeat (first|with_reducible exact Up.refl _|with_reducible assumption|with_reducible refine Up.alloc ?_ _|refine Up.trans ?_ (by with_reducible assumption)))) (hrt _ (by (repeat (first|with_reducible exact Up.refl _|with_reducible assumption|with_reducible refine Up.alloc ?_ _|refine Up.trans ?_ (by with_reducible assumption)))))))|(apply upOut_call;(go_at_call 56;with_reducible exact cH _))|(apply upOut_eq;(go_at_call 56;with_reducible exact cH _))|(apply upOut_call;(go_at_call 55;first|with_reducible exact cS _|with_reducible exact cT _))|(apply upOut_eq;(go_at_call 55;first|with_reducible exact cS _|with_reducible exact cT _))|(apply upOut_call;(go_at_call 53;exact cM _ _ hvq))|(apply upOut_eq;(go_at_call 53;exact cM _ _ hvq)))
      go_simp;refine hK _ _ ?_;clear hK K)
    |(refine stepU_m (by kernel_rfl) (MkS w.heap.size [KT,H,B,begT false]) (mkS_closed _ _) (fun wq hwq=>?_) ?_
      ·(have hbq:=bcell hwq;(repeat (first|refine fills_no (by rfl) ?_|refine fills_yes (by rfl) (fun vq hvq=>?_)));simp only [List.filter_nil,fills];unfold upAt;(try (skip));go_simp;(try go_bits);(try simp only [↓IntWalk.iteOmega]);exact upOut_make ((Up.refl _).alloc _) (mkS_new hwq HW.out KT H B (begT false)))
      refine hK _ _ ?_;clear hK K))
   refine wpUp_nil (fun wq hwq=>?_)
   simp only [fills]
   intro v _
   go_wp2
   go_ret
   exact ⟨rfl,by (repeat (first|with_reducible exact Up.refl _|with_reducible assumption|with_reducible refine Up.alloc ?_ _|refine Up.trans ?_ (by with_reducible assumption)))⟩
end Go.Proofs.YtekogcjdaolcbaaGreatDoor
/- The program's ReaderNeeds and FormatReader for readers that are valid. Conditions: the reader is valid; the table lies as it was laid. -/
namespace Go.Proofs.YtekogcjdaolcbaaGreatDoor
open Go Go.RowKit
def rdL (r:RvD):List UInt8:=Lib.join [fmtK r.k,someL r.bits,Lib.itoa (r.size:Nat),Lib.itoa (r.cnt:Nat),Lib.itoa r.fin] [124]
def needR (r:RvD):Int:=if r.fin≠1 then 0 else (r.k.width:Int) - (r.bits.length:Int)
theorem join5_len (a b c d e:List UInt8) (s:UInt8):(Lib.join [a,b,c,d,e] [s]).length=a.length+b.length+c.length+d.length+e.length+4:=by
 simp [Lib.join_cons,Lib.joinTail];omega
theorem rvOk_bits {r:RvD} (h:RvOk r):r.bits.length≤10:=by
 have hwd:=KnD.width_bd h.ok
 by_cases h1:r.fin=1
 ·have:=(h.short h1).1;omega
 ·rw [h.done h1];exact Nat.zero_le _
theorem rvOk_fin {r:RvD} (h:RvOk r):0≤r.fin∧r.fin≤3:=by
 rcases h.kind with h|h|h|h <;> omega
theorem rdL_le {r:RvD} (h:RvOk r):(rdL r).length≤52000:=by
 have e1:=fmtK_le r.k
 have e2:=someL_le (rvOk_bits h) (by omega)
 have e3:=itoa_le (n:=(r.size:Nat)) (by omega) (by have:=h.size;omega)
 have e4:=itoa_le (n:=(r.cnt:Nat)) (by omega) (by have:=h.cnt;omega)
 have e5:=itoa_le (n:=r.fin) (by have:=rvOk_fin h;omega) (by have:=rvOk_fin h;omega)
 unfold rdL
 rw [join5_len]
 omega
set_option maxRecDepth 100000 in
set_option maxHeartbeats 8000000 in
theorem rnI_any (r:RvD) (v:Value) (lo:Nat) (w:World) (h:RvOk r) (hr:RdP lo w v r.k.ps) :
  Calls Tryz.prog 27  #[rvV r v] w (Same (.int .i64 (needR r)) w):=by
 have cV:=fun wq hr=>rvI_yes r v lo wq h hr
 have cW:=fun wq hr=>widthI_any r.k v lo wq h.ok hr
 have hrt:=fun (wq:World) (hu:Up w wq)=>hr.up hu
 obtain ⟨a,cap,rfl,-⟩:=hr
 have hwb:=KnD.width_bd h.ok
 have hsh:=h.short
 have hbz:=bs_size r.bits
 unfold needR
 clear h
 by_cases h1:r.fin=1
 ·have h2:=(hsh h1).1
  rw [if_neg (by simp [h1])]
  clear hsh
  simp only [rvV,kV] at *
  rw [h1] at cV ⊢
  have hX:=(MapKept.heap_alloc w (.cells #[.int .i64 r.k.set.ord,.int .i64 r.k.set.lit,.int .i64 r.k.set.most,.slice a r.k.ps.length cap,.int .i64 r.k.base,.int .i64 r.k.last,.string (bs r.bits),.int .i64 (r.size:Nat),.int .i64 (r.cnt:Nat),.int .i64 1] 52)).1
  have hX:RvAt w.heap.size ⟨r.k,r.bits,r.size,r.cnt,1⟩ (.slice a r.k.ps.length cap) _:=hX
  have hU:=(Up.refl w).alloc (.cells #[.int .i64 r.k.set.ord,.int .i64 r.k.set.lit,.int .i64 r.k.set.most,.slice a r.k.ps.length cap,.int .i64 r.k.base,.int .i64 r.k.last,.string (bs r.bits),.int .i64 (r.size:Nat),.int .i64 (r.cnt:Nat),.int .i64 1] 52)
  go_enter Tryz.func27,Tryz.ntmps27
  go_wp2_with (first|(go_at_call 79;(with_reducible refine (cV _ (hrt _ (by (repeat (first|with_reducible exact Up.refl _|with_reducible assumption|with_reducible refine Up.alloc ?_ _|refine Up.trans ?_ (by with_reducible assumption)))))).mono ?_);rintro e w1 ⟨rfl,U1⟩;have B1:=bcell U1;have Z1:=U1.size;(try simp at Z1);(try rw [Nat.add_one_le_iff] at Z1))|fail)
  have HX:=Lib.hid (And.intro (hX.up U1) (hU.trans U1))
  clear hX hU U1 B1 Z1
  refine wp_region_up 8 (by kernel_rfl) (by kernel_rfl) ?_
  simp only [List.take,List.drop]
  repeat (refine wpUp_step (fun K hK=>?_);go_simp;(try simp only [↓IntWalk.iteOmega]);first
   |(refine hK _ _ ?_;clear hK K)
   |(apply stepU_c
     ·intro wq hwq;(have hbq:=bcell hwq;(repeat (first|refine fills_no (by rfl) ?_|refine fills_yes (by rfl) (fun vq hvq=>?_)));simp only [List.filter_nil,fills];unfold upAt;(try ((obtain ⟨hbq0,r0,r1,r2,r3,r4,r5,r6,r7,r8,r9⟩:=(HX.out.1.up hwq).cells)));go_simp;(try go_bits);(try simp only [↓IntWalk.iteOmega]);first|exact upOut_value|(apply upOut_call;(go_at_call 84;exact cW _ (hrt _ (HX.out.2.trans hwq)))))
     go_simp;refine hK _ _ ?_;clear hK K))
  refine wpUp_nil (fun wq hwq=>?_)
  simp only [fills]
  have hUq:=HX.out.2.trans hwq
  clear hwq HX
  go_wp2
  go_ret
  refine ⟨?_,hUq⟩
  first|rfl|(simp;done)|(simp;rw [hbz];done)|(rw [hbz];rfl)
 ·rw [if_pos h1]
  clear hsh
  simp only [rvV,kV] at *
  go_enter Tryz.func27,Tryz.ntmps27
  go_wp2_with (first|(go_at_call 79;(with_reducible refine (cV _ (hrt _ (by (repeat (first|with_reducible exact Up.refl _|with_reducible assumption|with_reducible refine Up.alloc ?_ _|refine Up.trans ?_ (by with_reducible assumption)))))).mono ?_);rintro e w1 ⟨rfl,U1⟩;have B1:=bcell U1;have Z1:=U1.size;(try simp at Z1);(try rw [Nat.add_one_le_iff] at Z1))|fail)
  go_ret
  exact ⟨rfl,by (repeat (first|with_reducible exact Up.refl _|with_reducible assumption|with_reducible refine Up.alloc ?_ _|refine Up.trans ?_ (by with_reducible assumption)))⟩
set_option maxRecDepth 100000 in
set_option maxHeartbeats 8000000 in
theorem frI_any (r:RvD) (v:Value) (lo:Nat) (w:World) (hT:Tab w) (h:RvOk r) (hr:RdP lo w v r.k.ps) :
  Calls Tryz.prog 24  #[rvV r v] w (Same (.string (bs (rdL r))) w):=by
 have hsn:=(validK_small (valid_of_ok h.ok h.vl))
 have hlit: -9223372036854775808≤r.k.set.lit∧r.k.set.lit≤9223372036854775807:=by have:=(setOk_bd h.ok.set).2.1;omega
 have cV:=fun wq hr=>rvI_yes r v lo wq h hr
 have cK:=fun wx (hx:Up w wx) hh=>fkI_any r.k v lo wx (hT.up hx) hlit hh (by omega)
 have hrt:=fun (wq:World) (hu:Up w wq)=>hr.up hu
 obtain ⟨a,cap,rfl,-⟩:=hr
 have HKL:=Lib.hid (rdL_le h)
 have hf:=rvOk_fin h
 have cT:=fun wx=>orDash_any r.bits wx
 have c1:=fun wx (hx:Up w wx)=>itoa_any (r.size:Nat) wx (hT.up hx) (by omega) (by have:=h.size;omega)
 have c2:=fun wx (hx:Up w wx)=>itoa_any (r.cnt:Nat) wx (hT.up hx) (by omega) (by have:=h.cnt;omega)
 have c3:=fun wx (hx:Up w wx)=>itoa_any r.fin wx (hT.up hx) (by omega) (by omega)
 have cM:=fun (v:Value) (wx:World) (h:MkS w.heap.size [fmtK r.k,someL r.bits,Lib.itoa (r.size:Nat),Lib.itoa (r.cnt:Nat),Lib.itoa r.fin] v wx)=>joinM_any 124 h (by simp) (by simp) (by have:=HKL.out;unfold rdL at this;omega)
 rw [show Lib.join [fmtK r.k,someL r.bits,Lib.itoa (r.size:Nat),Lib.itoa (r.cnt:Nat),Lib.itoa r.fin] [124]=rdL r from rfl] at cM
 clear h hT hsn hlit
 simp only [rvV,kV] at *
 generalize rdL r=R at *
 generalize hF1:fmtK r.k=KT at *
 generalize hF2:someL r.bits=H at *
 generalize hF3:Lib.itoa (r.size:Nat)=N1 at *
 generalize hF4:Lib.itoa (r.cnt:Nat)=N2 at *
 generalize hF5:Lib.itoa r.fin=N3 at *
 clear hF1 hF2 hF3 hF4 hF5
 go_enter Tryz.func24,Tryz.ntmps24
 go_wp2_with (first|(go_at_call 79;(with_reducible refine (cV _ (hrt _ (by (repeat (first|with_reducible exact Up.refl _|with_reducible assumption|with_reducible refine Up.alloc ?_ _|refine Up.trans ?_ (by with_reducible assumption)))))).mono ?_);rintro e w1 ⟨rfl,U1⟩;have B1:=bcell U1;have Z1:=U1.size;(try simp at Z1);(try rw [Nat.add_one_le_iff] at Z1))|fail)
 have HW:Hid (w.heap.size≤w1.heap.size):=(show Up w w1 by (repeat (first|with_reducible exact Up.refl _|with_reducible assumption|with_reducible refine Up.alloc ?_ _|refine Up.trans ?_ (by with_reducible assumption)))).size
 refine wp_region_up 18 (by kernel_rfl) (by kernel_rfl) ?_
 simp only [List.take,List.drop]
 repeat (refine wpUp_step (fun K hK=>?_);go_simp;(try simp only [↓IntWalk.iteOmega]);first
  |(refine hK _ _ ?_;clear hK K)
  |(apply stepU_c
    ·intro wq hwq;(have hbq:=bcell hwq;(repeat (first|refine fills_no (by rfl) ?_|refine fills_yes (by rfl) (fun vq hvq=>?_)));simp only [List.filter_nil,fills];unfold upAt;(try (skip));go_simp;(try go_bits);(try simp only [↓IntWalk.iteOmega]);first|exact upOut_value|(apply upOut_call;(go_at_call 54;with_reducible exact cK _ (by (repeat (first|with_reducible exact Up.refl _|with_reducible assumption|with_reducible refine Up.alloc ?_ _|refine Up.trans ?_ (by with_reducible assumption)))) (hrt _ (by (repeat (first|with_reducible exact Up.refl _|with_reducible assumption|with_reducible refine Up.alloc ?_ _|refine Up.trans ?_ (by with_reducible assumption)))))))|(apply upOut_eq;(go_at_call 54;with_reducible exact cK _ (by (repeat (first|with_reducible exact Up.refl _|with_reducible assumption|with_reducible refine Up.alloc ?_ _|refine Up.trans ?_ (by with_reducible assumption)))) (hrt _ (by (repeat (first|with_reducible exact Up.refl _|with_reducible assumption|with_reducible refine Up.alloc ?_ _|refine Up.trans ?_ (by with_reducible assumption)))))))|(apply upOut_call;(go_at_call 55;with_reducible exact cT _))|(apply upOut_eq;(go_at_call 55;with_reducible exact cT _))|(apply upOut_call;(go_at_call 80;first|with_reducible exact c1 _ (by (repeat (first|with_reducible exact Up.refl _|with_reducible assumption|with_reducible refine Up.alloc ?_ _|refine Up.trans ?_ (by with_reducible assumption))))|with_reducible exact c2 _ (by (repeat (first|with_reducible exact Up.refl _|with_reducible assumption|with_reducible refine Up.alloc ?_ _|refine Up.trans ?_ (by with_reducible assumption))))|with_reducible exact c3 _ (by (repeat (first|with_reducible exact Up.refl _|with_reducible assumption|with_reducible refine Up.alloc ?_ _|refine Up.trans ?_ (by with_reducible assumption))))))|(apply upOut_eq;(go_at_call 80;first|with_reducible exact c1 _ (by (repeat (first|with_reducible exact Up.refl _|with_reducible assumption|with_reducible refine Up.alloc ?_ _|refine Up.trans ?_ (by with_reducible assumption))))|with_reducible exact c2 _ (by (repeat (first|with_reducible exact Up.refl _|with_reducible assumption|with_reducible refine Up.alloc ?_ _|refine Up.trans ?_ (by with_reducible assumption))))|with_reducible exact c3 _ (by (repeat (first|with_reducible exact Up.refl _|with_reducible assumption|with_reducible refine Up.alloc ?_ _|refine Up.trans ?_ (by with_reducible assumption))))))|(apply upOut_call;(go_at_call 53;exact cM _ _ hvq))|(apply upOut_eq;(go_at_call 53;exact cM _ _ hvq)))
    go_simp;refine hK _ _ ?_;clear hK K)
  |(refine stepU_m (by kernel_rfl) (MkS w.heap.size [KT,H,N1,N2,N3]) (mkS_closed _ _) (fun wq hwq=>?_) ?_
    ·(have hbq:=bcell hwq;(repeat (first|refine fills_no (by rfl) ?_|refine fills_yes (by rfl) (fun vq hvq=>?_)));simp only [List.filter_nil,fills];unfold upAt;(try (skip));go_simp;(try go_bits);(try simp only [↓IntWalk.iteOmega]);exact upOut_make ((Up.refl _).alloc _) (mkS_new5 hwq HW.out KT H N1 N2 N3))
    refine hK _ _ ?_;clear hK K))
 refine wpUp_nil (fun wq hwq=>?_)
 simp only [fills]
 intro v _
 go_wp2
 go_ret
 exact ⟨rfl,by (repeat (first|with_reducible exact Up.refl _|with_reducible assumption|with_reducible refine Up.alloc ?_ _|refine Up.trans ?_ (by with_reducible assumption)))⟩
end Go.Proofs.YtekogcjdaolcbaaGreatDoor
/- The reference's l9Cut; strings.Split and strings.Cut at one byte. Conditions: fewer than 2^20 bytes; bytealg.MaxLen holds an int. -/
namespace Go.Proofs.YtekogcjdaolcbaaGreatDoor
open Go Go.RowKit
def bL (b:ByteArray):List UInt8:=b.data.toList
theorem bL_map (P:List ByteArray):(P.map bL).map bs=P:=by
 rw [List.map_map]
 conv=>rhs;rw [← List.map_id P]
 exact List.map_congr_left fun x _=>bs_self x
theorem split_any (s:ByteArray) (c:UInt8) (w:World) (hm: ∃ m,w.cell? ⟨0,0,none⟩=some (.int .i64 m)) (hs:s.size≤1048576) :
  Calls Tryz.prog 49 #[.string s,.string ⟨#[c]⟩] w (fun e w'=> ∃ v,e= .returned v∧ownS w' w.heap.size v ((splL c s.data.toList).map bs)∧Up w w'):=by
 obtain ⟨m,hm⟩:=hm
 have hk:Lib.countB s ⟨#[c]⟩=s.data.toList.count c:=by
  show Lib.count s.data.toList [c]=_
  exact Lib.count_one c _
 have hd:=Lib.splitB_data ⟨#[c]⟩ 0 (s.data.toList.count c) s
 have hd2:(Lib.splitB ⟨#[c]⟩ 0 (s.data.toList.count c) s).map bL=splL c s.data.toList:=by
  rw [← splitK_splL];exact hd
 have hB:Lib.splitB ⟨#[c]⟩ 0 (s.data.toList.count c) s=(splL c s.data.toList).map bs:=by rw [← hd2,bL_map]
 refine (Tryz.strings_Split s ⟨#[c]⟩ m w (by omega) hm (Nat.le_refl _)).mono fun e w' ⟨he,hw⟩=>?_
 rw [hk,hB] at hw
 have hlen:(splL c s.data.toList).length=s.data.toList.count c+1:=by
  have:=Lib.splitB_all ⟨#[c]⟩ (Nat.le_refl _) 0 _ s hk
  rw [hB,List.length_map] at this;exact this
 have hle:=splL_length_le c s.data.toList
 have hln:=ba_len s
 refine ⟨_,he,?_,?_⟩
 ·subst hw
  rw [hk,←hlen]
  unfold ownS
  rw [List.length_map]
  exact ⟨by simp [cellsS],.inr ⟨w.heap.size,_,_,rfl,Nat.le_refl _,(MapKept.heap_alloc w _).1,Nat.le_refl _,by unfold maxLen;omega,by simp,by rw [Nat.mul_one];unfold cellsS;rw [List.take_of_length_le (by simp)]⟩⟩
 ·subst hw;exact (Up.refl _).alloc _
theorem cut_any (l:List UInt8) (c:UInt8) (w:World) (hm: ∃ m,w.cell? ⟨0,0,none⟩=some (.int .i64 m)) (hs:l.length≤1048576) :
  Calls Tryz.prog 156 #[.string (bs l),.string ⟨#[c]⟩] w (fun e w'=>e= .returned (.tuple #[.string (bs (match cutL c l with|some p=>p.1|none=>l)),.string (bs (match cutL c l with|some p=>p.2|none=> [])),.bool (cutL c l).isSome])∧Up w w'):=by
 obtain ⟨m,hm⟩:=hm
 have hz:=bs_size l
 refine (Tryz.strings_Cut (bs l) ⟨#[c]⟩ m w (by omega) hm).mono fun e w' ⟨he,n,hw⟩=>⟨?_,?_⟩
 ·rw [he]
  have e1:Lib.cut (bs l).data.toList (⟨#[c]⟩:ByteArray).data.toList=Lib.cut l [c]:=by rw [bs_data]
  rw [e1,cut_cutL]
  cases cutL c l <;> rfl
 ·subst hw
  exact ⟨rfl,rfl,rfl,Nat.le_refl _,fun i hi=>rfl⟩
end Go.Proofs.YtekogcjdaolcbaaGreatDoor

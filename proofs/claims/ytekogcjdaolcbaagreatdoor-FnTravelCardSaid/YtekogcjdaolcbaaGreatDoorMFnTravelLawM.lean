/- Texts joined into one: the walks and laws that the last text leans on. Conditions: as each says. -/
import Derived.Test.YtekogcjdaolcbaaGreatDoorMFnTravelLawJ
import Derived.Test.YtekogcjdaolcbaaGreatDoorMFnTravelLawF
import Derived.Lib.ConvBytes
import Derived.Test.YtekogcjdaolcbaaGreatDoorMFnTravelLawE
import Derived.Test.YtekogcjdaolcbaaGreatDoorMFnTravelLawK
import Derived.Test.YtekogcjdaolcbaaGreatDoorMFnTravelLawH

set_option linter.unusedVariables false
set_option linter.unusedSimpArgs false
/- A row of bytes of the call's own that came of a string (its block bears a mark behind its cells): append onto it, reading it; the conversion of a string into such a row. Conditions: as each says. -/
namespace Go.Proofs.YtekogcjdaolcbaaGreatDoor
open Go Go.RowKit
def ownM (w:World) (base:Nat) (v:Value) (d:List UInt8):Prop:= ∃ (g cap:Nat) (cur:Array Value) (fz:Nat × Nat),v= .slice (some ⟨g,0,none⟩) d.length cap∧base≤g∧w.heap[g]? =some (.cells cur 5 fz)∧(fz=(0,0)∨cur.size≤fz.1)∧d.length≤cap∧cap≤maxLen∧cur.size=cap∧cur.toList.take d.length=cellsU d
theorem ownM.shape {w:World} {base:Nat} {v:Value} {d:List UInt8} (h:ownM w base v d): ∃ g c,v= .slice (some ⟨g,0,none⟩) d.length c:=by
 obtain ⟨g,cap,cur,fz,rfl,-⟩:=h
 exact ⟨g,cap,rfl⟩
theorem ownM.lt {w:World} {base:Nat} {v:Value} {d:List UInt8} (h:ownM w base v d): ∀ k,v.ownBlock=some k→base≤k∧k<w.heap.size:=by
 intro k hk
 obtain ⟨g,cap,cur,fz,rfl,h1,h2,-⟩:=h
 simp [Value.ownBlock] at hk
 subst hk
 exact ⟨h1,(Array.getElem?_eq_some_iff.1 h2).1⟩
theorem ownM.kept {w w':World} {base:Nat} {v:Value} {d:List UInt8} {row:Option Nat} (h:ownM w base v d) (hg:w.grownBy w' row) (hne:v.ownBlock=none∨v.ownBlock≠row):ownM w' base v d:=by
 obtain ⟨g,cap,cur,fz,rfl,h1,h2,h3⟩:=h
 refine ⟨g,cap,cur,fz,rfl,h1,?_,h3⟩
 rw [hg.block g (Array.getElem?_eq_some_iff.1 h2).1 (by simpa [Value.ownBlock] using hne)]
 exact h2
theorem ownM.up {w w':World} {base:Nat} {v:Value} {d:List UInt8} (h:ownM w base v d) (hu:Up w w'):ownM w' base v d:=h.kept (up_grownBy hu none) (by obtain ⟨g,c,e⟩:=h.shape;rw [e];right;simp [Value.ownBlock])
theorem ownM.fr {O:Nat→Prop} {w w':World} {base:Nat} {v:Value} {d:List UInt8} (h:ownM w base v d) (hf:Fr O w w') (hn: ∀ b,v.ownBlock=some b→ ¬ O b):ownM w' base v d:=by
 obtain ⟨g,cap,cur,fz,rfl,h1,h2,h3⟩:=h
 refine ⟨g,cap,cur,fz,rfl,h1,?_,h3⟩
 exact (hf.block g (Array.getElem?_eq_some_iff.1 h2).1 (hn g rfl)).trans h2
theorem ownM.cells {w:World} {base:Nat} {v:Value} {d:List UInt8} (h:ownM w base v d): ∃ g cap,v= .slice (some ⟨g,0,none⟩) d.length cap∧base≤g∧g<w.heap.size∧d.length≤cap∧cap≤maxLen∧ ∀ i x,d[i]? =some x→w.cell? ⟨g,i,none⟩=some (.int .u8 x.toNat):=by
 obtain ⟨g,cap,cur,fz,rfl,h1,h2,h3,h4,h5,h6,h7⟩:=h
 refine ⟨g,cap,rfl,h1,(Array.getElem?_eq_some_iff.1 h2).1,h4,h5,fun i x hi=>?_⟩
 have hu:(cellsU d)[i]? =some (.int .u8 x.toNat):=by simp [cellsU,hi]
 rw [← h7,List.getElem?_take] at hu
 split at hu
 ·rw [cell_of_row w g i cur 5 fz h2]
  simpa using hu
 ·cases hu
theorem run_storeCells_atM (P:Program) (g o:Nat) (t:TypeId) (fz:Nat × Nat): ∀ (vs:List Value) (i:Nat) (cur:Array Value) (w:World),w.heap[g]? =some (.cells cur t fz)→(fz=(0,0)∨cur.size≤fz.1)→o+i+vs.length≤cur.size→(∀ v∈vs,v.oneCell'=true) →
  (storeCells ⟨g,o,none⟩ vs i).run P w= .ok () (w.setRow g (cur.toList.take (o+i)++vs++cur.toList.drop (o+i+vs.length)).toArray)
 | [],i,cur,w,hg,_,_,_=>by
   simp only [storeCells,List.append_nil,List.length_nil,Nat.add_zero,List.take_append_drop,Array.toArray_toList]
   rw [setRow_self w g cur t fz hg]
   rfl
 |v :: rest,i,cur,w,hg,hfz,hl,h1=>by
  have hi:o+i<cur.size:=by simp at hl;omega
  have hadd:(⟨g,o,none⟩:Addr).add i=⟨g,o+i,none⟩:=by unfold Addr.add;split <;> simp_all
  have hcell:w.cell? ⟨g,o+i,none⟩=some cur[o+i]:=by simp [World.cell?,hg,hi]
  have hfro:w.frozen? ⟨g,o+i,none⟩=false:=by
   obtain ⟨lo,hi'⟩:=fz
   simp only [World.frozen?,hg,Bool.and_eq_false_iff,decide_eq_false_iff_not]
   rcases hfz with hfz|hfz
   ·simp only [Prod.mk.injEq] at hfz
    right
    omega
   ·left
    simp only at hfz
    omega
  have hst:(store ((⟨g,o,none⟩:Addr).add i) v).run P w= .ok () (w.setRow g (cur.setIfInBounds (o+i) v)):=by
   rw [hadd,run_store P w _ v _ (h1 v (by simp)),hcell]
   simp [hfro,setCell_eq_setRow w g (o+i) cur t fz v hg]
  have ih:=run_storeCells_atM P g o t fz rest (i+1) (cur.setIfInBounds (o+i) v) (w.setRow g (cur.setIfInBounds (o+i) v)) (setRow_heap w g cur _ t _ hg) (by simpa using hfz) (by simp at hl ⊢;omega) (fun x hx=>h1 x (by simp [hx]))
  simp only [storeCells,Sem.run_bind,hst,Result.andThen_ok,ih,setRow_setRow]
  congr 3
  have e:=list_seg_step cur.toList (o+i) v rest (by simp at hl ⊢;omega)
  simpa [Array.toList_setIfInBounds,Nat.add_assoc] using e
theorem run_appendM (w:World) (base:Nat) (ty:TypeId) (v:Value) (d:List UInt8) (hown:ownM w base v d) (ad:Addr) (c:Nat) (b:UInt8) (hnew:w.cell? ad=some (.int .u8 b.toNat)) (had:ad.spot=none) (hl:d.length≤1048576) (hbase:base≤w.heap.size) :
  ∃ v' w',(Builtin.append_ #[22,22] ty #[v,.slice (some ad) 1 c]).run Tryz.prog w= .ok v' w'∧ownM w' base v' (d++ [b])∧w.grownBy w' v.ownBlock∧NewOr w.heap.size v v':=by
 obtain ⟨j0,hj,hy0,hy1,hy2⟩:=info_parts infoByte
 obtain ⟨g,cap,cur,fz,rfl,hbg,hg,hfz,hnc,hcm,hcs,htake⟩:=hown
 have hdl:(d++ [b]).length=d.length+1:=by simp
 have hcu:cellsU (d++ [b])=cellsU d++ [.int .u8 b.toNat]:=by simp [cellsU]
 have hcul:(cellsU d).length=d.length:=by simp [cellsU]
 have hadd0:ad.add 0=ad:=by
  obtain ⟨x,y,z⟩:=ad
  simp at had
  subst had
  simp [Addr.add]
 have hnews: ∀ j u,[Value.int .u8 b.toNat][j]? =some u→w.cell? (ad.add j)=some u:=by
  intro j u hu
  cases j with
  |zero=>simp at hu;subst hu;rw [hadd0];exact hnew
  |succ j=>simp at hu
 by_cases hroom:d.length+1≤cap
 ·have hf:=run_firstCells_some (P:=Tryz.prog) w j0.size 1 ad 1 c [.int .u8 b.toNat] (by rw [hy1];rfl) hnews
  have hst:=run_storeCells_atM Tryz.prog g (d.length * j0.size) 5 fz [.int .u8 b.toNat] 0 cur w hg hfz (by rw [hy1];simp;omega) (by intro u hu;simp at hu;subst hu;rfl)
  simp only [Nat.add_zero] at hst
  have hr:(Builtin.append_ #[22,22] ty #[.slice (some ⟨g,0,none⟩) d.length cap,.slice (some ad) 1 c]).run Tryz.prog w= .ok (.slice (some ⟨g,0,none⟩) (d.length+1) cap) (w.setRow g (cur.toList.take (d.length * j0.size)++ [Value.int .u8 b.toNat]++cur.toList.drop (d.length * j0.size+ [Value.int .u8 b.toNat].length)).toArray):=by
   simp [Builtin.append_,run_underlying Tryz.underlying22,sizeOf,typeInfo,hj,Builtin.lenOf,hroom,hf,Addr.add_lit,hst]
  refine ⟨_,_,hr,⟨g,cap,_,fz,by rw [hdl],hbg,setRow_heap w g cur _ 5 _ hg,?_,by omega,hcm,?_,?_⟩,⟨rfl,rfl,rfl,by simp,fun k _ hk=>setRow_other w g k _ (fun e=>hk (by simp [Value.ownBlock,e]))⟩,fun k hk=> .inl hk⟩
  ·rw [hy1]
   simp only [List.size_toArray,List.length_append,List.length_take,List.length_drop,Array.length_toList,Nat.mul_one,List.length_cons,List.length_nil]
   rcases hfz with hfz|hfz
   ·exact .inl hfz
   ·right;omega
  ·rw [hy1]
   simp only [List.size_toArray,List.length_append,List.length_take,List.length_drop,Array.length_toList,Nat.mul_one,List.length_cons,List.length_nil]
   omega
  ·rw [hy1,Nat.mul_one,htake,hcu]
   have:(d++ [b]).length=(cellsU d++ [Value.int .u8 b.toNat]).length:=by rw [hdl,List.length_append,hcul];rfl
   rw [this]
   exact List.take_left
 ·have hcu1: ∀ j u,(cellsU d)[j]? =some u→w.cell? ((⟨g,0,none⟩:Addr).add j)=some u:=by
   intro j u hu
   have hadd:(⟨g,0,none⟩:Addr).add j=⟨g,j,none⟩:=by unfold Addr.add;split <;> simp_all
   rw [hadd,cell_of_row w g j cur 5 fz hg]
   rw [← htake,List.getElem?_take] at hu
   split at hu
   ·simpa using hu
   ·cases hu
  have hr:=run_append_grow (P:=Tryz.prog) w 22 ty 5 j0 (.int .u8 0) Tryz.underlying22 hj hy0 ⟨g,0,none⟩ d.length cap (cellsU d) (by rw [hy1,hcul,Nat.mul_one]) hcu1 ad 1 c [.int .u8 b.toNat] (by rw [hy1];rfl) hnews (by omega) (by omega) (by rw [hy2];exact growslice_fits (by omega) (by omega))
  have hge:=grownCap_ge w (d.length+1) cap 5
  have hcm2:grownCap w (d.length+1) cap 5≤maxLen:=grownCap_le_maxLen w (d.length+1) cap 5 (by unfold maxLen;omega)
  refine ⟨_,_,hr,⟨w.heap.size,_,_,(0,0),by rw [hdl],hbase,heap_alloc_new w.drew _,.inl rfl,by omega,hcm2,?_,?_⟩,⟨rfl,rfl,rfl,by simp,fun k hk _=>heap_alloc_old w.drew _ hk⟩,fun k hk=>?_⟩
  ·have hz1:(Value.int IntKind.u8 0).cells.size=1:=rfl
   simp only [Array.size_append,List.size_toArray,size_zeroCells,hz1,hcul,List.length_cons,List.length_nil]
   omega
  ·simp only [Array.toList_append,List.append_assoc]
   rw [hcu]
   have:(d++ [b]).length=(cellsU d++ [Value.int .u8 b.toNat]).length:=by rw [hdl,List.length_append,hcul];rfl
   rw [this,←List.append_assoc]
   exact List.take_left
  ·right
   simp [Value.ownBlock] at hk
   omega
theorem wpList_appendM {ops:Array Oper} {rest:List Oper} {o:Oper} {a:Act} {w:World} {Q:Exit→Act→World→Prop} (hgd:o.guard=none) (s x:Operand) (ho:o.op= .call { callee:= .builtin .append,args:= #[s,x],argTypes:= #[22,22]})
  (base:Nat) (v:Value) (d:List UInt8) (hs:a.eval s=v) (hown:ownM w base v d) (ad:Addr) (c:Nat) (b:UInt8) (hx:a.eval x= .slice (some ad) 1 c) (hnew:w.cell? ad=some (.int .u8 b.toNat)) (had:ad.spot=none) (hl:d.length≤1048576) (hbase:base≤w.heap.size)
  (h: ∀ v' w',ownM w' base v' (d++ [b])→w.grownBy w' v.ownBlock→NewOr w.heap.size v v'→wpList Tryz.prog ops Q rest (a.put o.dst v') w'):wpList Tryz.prog ops Q (o :: rest) a w :=
 wpList_plain hgd fun _ hK=>by
  obtain ⟨v',w',hr,h2,h3,h4⟩:=run_appendM w base o.type v d hown ad c b hnew had hl hbase
  unfold Oper.wp execOp
  simp only [ho,resolve,invoke,builtin,Sem.run_bind,Sem.run_pure,Result.andThen_ok,List.map_toArray,List.map_cons,List.map_nil,hs,hx,hr]
  exact hK _ _ (h v' w' h2 h3 h4)
theorem run_strBytes (w:World) (d:List UInt8):(convert 9 22 (.string (bs d))).run Tryz.prog w= .ok (.slice (some ⟨w.heap.size,0,none⟩) d.length (grownCap w d.length 0 5)) (Lib.bytesWorld w 5 (bs d)):=by
 have h:=Lib.run_convert_string_bytes (P:=Tryz.prog) w 9 22 5 (bs d) Tryz.underlying9 Tryz.underlying22 Tryz.underlying5
 rw [bs_size] at h
 exact h
theorem up_bytes (w:World) (d:List UInt8):Up w (Lib.bytesWorld w 5 (bs d)) :=
 ⟨by simp [Lib.bytesWorld,World.freeze,World.alloc,World.drew,-World.alloc_eq,-World.drew_eq],by simp [Lib.bytesWorld,World.freeze,World.alloc,World.drew,-World.alloc_eq,-World.drew_eq],by simp [Lib.bytesWorld,World.freeze,World.alloc,World.drew,-World.alloc_eq,-World.drew_eq],by rw [Lib.bytesWorld_size];omega,fun b hb=>Lib.bytesWorld_at_old w _ _ b hb⟩
theorem own_bytes (w:World) (d:List UInt8) (hd:d.length≤maxLen) {base:Nat} (hb:base≤w.heap.size):ownM (Lib.bytesWorld w 5 (bs d)) base (.slice (some ⟨w.heap.size,0,none⟩) d.length (grownCap w d.length 0 5)) d:=by
 have hge:=grownCap_ge w d.length 0 5
 have hcm:=grownCap_le_maxLen w d.length 0 5 hd
 have hsz:(Lib.bytesCells w 5 (bs d)).size=grownCap w d.length 0 5:=by
  unfold Lib.bytesCells
  rw [Array.size_append,Array.size_map,Array.size_replicate,bs_size]
  have:(bs d).data.size=d.length:=bs_size d
  omega
 refine ⟨w.heap.size,_,_,_,rfl,hb,Lib.bytesWorld_at_new w 5 (bs d),.inr (Nat.le_refl _),hge,hcm,hsz,?_⟩
 unfold Lib.bytesCells
 rw [Array.toList_append,Array.toList_map]
 have e:(List.map (fun b:UInt8=>Value.int .u8 b.toNat) (bs d).data.toList)=cellsU d:=by rw [bs_data];rfl
 have e2:(List.map (fun b:UInt8=>Value.int .u8 b.toNat) (bs d).data.toList).length=d.length:=by rw [e];simp [cellsU]
 rw [← e2,List.take_left,e]
end Go.Proofs.YtekogcjdaolcbaaGreatDoor
/- Plain: all data written in parts and closed is the stream of Compress, and fails exactly if that does (for FnWriteAll). Conditions: what is known is valid, the data is no longer than 2000 bytes. -/
namespace Go.Proofs.YtekogcjdaolcbaaGreatDoor
open Go Go.RowKit
def wrdO (w:WrD) (d:List UInt8):Option (WrD × List UInt8):=if fitsB w.k.set (w.pend++d) then some (w.write d) else none
def waO:WrD→List (List UInt8)→List UInt8→Option (List UInt8)
 |w,[],out=>some (out++w.close)
 |w,p :: ps,out=>match wrdO w p with
  |none=>none
  |some r=>waO r.1 ps (out++r.2)
theorem fitsB_iff {s:SetD} {d:List UInt8} (h:setOk s=true) (hd:d.length≤2000):fitsB s d=litsL (clr s) d:=by
 unfold fitsB
 rw [h,decide_eq_true hd]
 rfl
theorem waO_comp {k0:KnD} (hk0:k0.Ok): ∀ (ps:List (List UInt8)) (w:WrD) (d out:List UInt8),WaInv k0 d w out→w.pend.length≤d.length→(∀ b∈d,b.toNat<k0.c)→(d++ps.flatten).length≤2000 →
  waO w ps out=if litsL (clr k0.set) ps.flatten then some (compL k0 (d++ps.flatten)) else none:=by
 intro ps
 induction ps with
 |nil =>
  intro w d out h _ hl hd
  rw [List.flatten_nil,List.append_nil] at *
  have:litsL (clr k0.set) []=true:=by first|rfl|simp [litsL]
  rw [this,if_pos rfl,waO,WaInv.fin hk0 hl hd h]
 |cons p ps ih =>
  intro w d out h hp hl hd
  rw [List.flatten_cons] at hd ⊢
  have hd1:(w.pend++p).length≤2000:=by
   rw [List.length_append]
   rw [List.length_append,List.length_append] at hd
   omega
  have hset:=h.set
  have hso:setOk w.k.set=true:=h.ok.set
  have hfit:=fitsB_iff hso hd1
  have hsplit:litsL (clr k0.set) (p++ps.flatten)=(litsL (clr k0.set) p && litsL (clr k0.set) ps.flatten):=by simp [litsL]
  have hpl:litsL (clr k0.set) (w.pend++p)=litsL (clr k0.set) p:=by
   have h1:litsL (clr k0.set) (w.pend++p)=(litsL (clr k0.set) w.pend && litsL (clr k0.set) p):=by simp [litsL]
   have h2:litsL (clr k0.set) w.pend=true:=by
    have:=h.lits
    simp only [litsL,List.all_eq_true,decide_eq_true_eq]
    exact this
   rw [h1,h2,Bool.true_and]
  rw [waO]
  unfold wrdO
  rw [hfit,hset,hpl,hsplit]
  cases hlp:litsL (clr k0.set) p
  ·rfl
  ·have hx: ∀ b∈p,b.toNat<k0.c:=by
    simp only [litsL,List.all_eq_true,decide_eq_true_eq] at hlp
    exact hlp
   have hN:=h.next hk0 hx
   rw [if_pos rfl,Bool.true_and]
   show waO (w.write p).1 ps (out++(w.write p).2)=_
   rw [← List.append_assoc]
   refine ih (w.write p).1 (d++p) (out++(w.write p).2) hN ?_ (fun b hb=>(List.mem_append.1 hb).elim (hl b) (hx b)) (by rw [List.append_assoc];exact hd)
   by_cases hp0:p= []
   ·subst hp0
    have:w.write []=(w,[]):=by unfold WrD.write;rw [if_pos rfl]
    rw [this,List.append_nil]
    exact hp
   ·obtain ⟨hok,hos⟩:=WrD.open_ok h.ok
    have hoc:w.open.2.c=k0.c:=by unfold KnD.c;rw [hos,hset]
    obtain ⟨-,-,-,-,q,q5⟩:=wrC_end (w.pend++p).length w.open.2 (w.pend++p) (Nat.le_refl _) hok (fun b hb=>by
     rw [hoc]
     exact (List.mem_append.1 hb).elim (h.lits b) (hx b))
    have q5':w.pend++p=q++(w.codes p).2.2:=q5
    have hq:=congrArg List.length q5'
    have h9:(q++(w.codes p).2.2).length=q.length+(w.codes p).2.2.length:=List.length_append
    rw [h9,List.length_append] at hq
    rw [List.length_append]
    have:(w.write p).1.pend=(w.codes p).2.2:=by unfold WrD.write;rw [if_neg hp0]
    rw [this]
    omega
theorem waO_all {k:KnD} (hk:k.Ok) (ps:List (List UInt8)) (hd:ps.flatten.length≤2000):waO ⟨k,[],[],false⟩ ps []=compO k ps.flatten:=by
 have:=waO_comp hk ps ⟨k,[],[],false⟩ [] [] (WaInv.start hk) (Nat.le_refl _) (fun b hb=>absurd hb (List.not_mem_nil)) (by simpa using hd)
 rw [this,List.nil_append]
 unfold compO
 rw [fitsB_iff hk.set hd]
end Go.Proofs.YtekogcjdaolcbaaGreatDoor
/- Plain: whether a writer is valid, what WriteData makes of a writer of any kind, and the rounds of its loop (for the writers' laws). Conditions: as each says. -/
namespace Go.Proofs.YtekogcjdaolcbaaGreatDoor
open Go Go.RowKit
def bitsB (l:List UInt8):Bool:=l.all fun b=>decide (b.toNat=48∨b.toNat=49)
theorem bitsB_iff {l:List UInt8} :bitsB l=true↔isBits l:=by
 unfold bitsB isBits
 simp only [List.all_eq_true,decide_eq_true_eq]
def wrsB (w:WrD):Bool:=(w.beg || (decide (w.pend= []) && decide (w.bits= []))) && (decide (w.pend= []) || decide (w.k.longest w.pend=w.pend))
def wrvB (w:WrD):Bool:=validK w.k && (fitsB w.k.set w.pend && ((bitsB w.bits && decide (w.bits.length≤7)) && wrsB w))
theorem wrvB_ok {w:WrD} (h:wrvB w=true):wrOk w:=by
 unfold wrvB wrsB at h
 simp only [Bool.and_eq_true,Bool.or_eq_true,decide_eq_true_eq] at h
 obtain ⟨h1,h2,⟨h3,h4⟩,h5,h6⟩:=h
 obtain ⟨g1,g2⟩:=ok_of_valid h1
 obtain ⟨f1,f2,f3⟩:=fitsB_lits h2
 refine ⟨g1,g2,f3,f2,bitsB_iff.1 h3,h4,h6,fun hb=>?_⟩
 rcases h5 with h5|h5
 ·rw [hb] at h5;cases h5
 ·exact h5
theorem wrvB_of {w:WrD} (h:wrOk w):wrvB w=true:=by
 obtain ⟨h1,h2,h3,h4,h5,h6,h7,h8⟩:=h
 unfold wrvB wrsB
 rw [valid_of_ok h1 h2,fitsB_iff h1.set h4,bitsB_iff.2 h5,decide_eq_true h6]
 have hl:litsL (clr w.k.set) w.pend=true:=by
  simp only [litsL,List.all_eq_true,decide_eq_true_eq]
  exact h3
 rw [hl]
 simp only [Bool.and_eq_true,Bool.or_eq_true,decide_eq_true_eq,true_and]
 refine ⟨?_,h7⟩
 cases hb:w.beg
 ·exact .inr (h8 hb)
 ·exact .inl rfl
def wdO (w:WrD) (d:List UInt8):Option (WrD × List UInt8):=if wrvB w && fitsB w.k.set (w.pend++d) then some (w.write d) else none
def wcO (w:WrD):Option (List UInt8):=if wrvB w then some w.close else none
theorem wdO_none {w:WrD} {d:List UInt8} (h:(wrvB w && fitsB w.k.set (w.pend++d))=false):wdO w d=none:=by unfold wdO;rw [h];rfl
theorem wdO_some {w:WrD} {d:List UInt8} (h:(wrvB w && fitsB w.k.set (w.pend++d))=true):wdO w d=some (w.write d):=by unfold wdO;rw [h];rfl
structure WlD (T:List UInt8 × KnD × List UInt8) (s:SetD) (m:Nat) (k:KnD) (d b:List UInt8):Prop where
 len:d.length≤m
 le:d.length≤2000
 ne:d≠ []
 sum:b.length+20 * d.length≤41000
 bit:isBits b
 tot:(b++bitsS s.ord k (wrC m k d).1,(wrC m k d).2)=T
 ok:k.Ok
 set:k.set=s
 lit: ∀ x∈d,x.toNat<clr s
theorem WlD.stop {T:List UInt8 × KnD × List UInt8} {s:SetD} {m:Nat} {k:KnD} {d b:List UInt8} (h:WlD T s m k d b) (hl:k.longest d=d):T=(b,k,d):=by
 rw [← h.tot,wrC_stop (.inr hl)]
 show (b++ [],k,d)=_
 rw [List.append_nil]
theorem WlD.lits {T:List UInt8 × KnD × List UInt8} {s:SetD} {m:Nat} {k:KnD} {d b:List UInt8} (h:WlD T s m k d b): ∀ x∈d,x.toNat<k.c:=by
 unfold KnD.c
 rw [h.set]
 exact h.lit
theorem WlD.step {T:List UInt8 × KnD × List UInt8} {s:SetD} {m:Nat} {k:KnD} {d b:List UInt8} (h:WlD T s m k d b) (hl:k.longest d≠d) :
  (k.follows (k.find (k.longest d))=true∧k.find (k.longest d)≠(k.c:Int)∧k.find (k.longest d)≠(k.c:Int)+1∧1≤(k.longest d).length∧(k.longest d).length<d.length) ∧
  ((k.after (k.find (k.longest d))).full=true→WlD T s (m - 1) (k.after (k.find (k.longest d))).cleared (d.drop (k.longest d).length) ((b++codeL s.ord (k.find (k.longest d)).toNat k.width)++codeL s.ord (clr s) (k.after (k.find (k.longest d))).width)) ∧
  ((k.after (k.find (k.longest d))).full=false→WlD T s (m - 1) (k.after (k.find (k.longest d))) (d.drop (k.longest d).length) (b++codeL s.ord (k.find (k.longest d)).toNat k.width)):=by
 have hp:=KnD.longest_pos (k:=k) h.ne
 have hlt:=KnD.longest_lt (k:=k) (d:=d) hl
 obtain ⟨hf,-⟩:=KnD.find_any h.ok h.ne h.lits
 have hak:=KnD.after_ok h.ok hf
 have hc:k.c=clr s:=by unfold KnD.c;rw [h.set]
 have hne:k.find (k.longest d)≠(k.c:Int)∧k.find (k.longest d)≠(k.c:Int)+1:=by
  rcases KnD.follows_cases h.ok hf with hc|⟨hg,e,hl⟩
  ·rw [codeOk_iff] at hc;omega
  ·rw [e];unfold KnD.next;omega
 have h1:=h.len;have h2:=h.le;have h3:=h.sum;have h4:=h.tot
 obtain ⟨n,rfl⟩: ∃ n,m=n+1:=⟨m - 1,by omega⟩
 have hs: ¬ (d= []∨k.longest d=d):=fun e=>e.elim h.ne hl
 have hr:d.drop (k.longest d).length≠ []:=fun e=>by
  have:=congrArg List.length e
  rw [List.length_drop] at this
  simp at this
  omega
 have hth:=KnD.thru_fol h.ok hf
 have hw:=KnD.width_bd h.ok
 have hwa:=KnD.width_bd hak
 refine ⟨⟨hf,hne.1,hne.2,hp,hlt⟩,fun hfu=>?_,fun hfu=>?_⟩
 ·rw [wrC,if_neg hs,if_pos hfu] at h4
  refine ⟨by rw [List.length_drop];omega,by rw [List.length_drop];omega,hr,?_,(h.bit.app (isBits_code _ _ _)).app (isBits_code _ _ _),?_,KnD.cleared_ok hak,h.set,fun x hx=>h.lit x (List.mem_of_mem_drop hx)⟩
  ·rw [List.length_append,List.length_append,codeL_length,codeL_length,List.length_drop];omega
  ·rw [← h4]
   show _=(b++(codeL s.ord _ k.width++(codeL s.ord (k.c:Int).toNat (k.thru _).width++bitsS s.ord ((k.thru _).thru (k.c:Int)) _)),_)
   rw [hth]
   have hcc:(k.after (k.find (k.longest d))).thru (k.c:Int)=(k.after (k.find (k.longest d))).cleared:=thru_clear _
   rw [hcc,List.append_assoc,List.append_assoc,Int.toNat_natCast,hc]
   rfl
 ·rw [wrC,if_neg hs,if_neg (by rw [hfu];simp)] at h4
  refine ⟨by rw [List.length_drop];omega,by rw [List.length_drop];omega,hr,?_,h.bit.app (isBits_code _ _ _),?_,hak,h.set,fun x hx=>h.lit x (List.mem_of_mem_drop hx)⟩
  ·rw [List.length_append,codeL_length,List.length_drop];omega
  ·rw [← h4]
   show _=(b++(codeL s.ord _ k.width++bitsS s.ord (k.thru _) _),_)
   rw [hth,List.append_assoc]
   rfl
theorem open_len {w:WrD} (h:wrOk w):w.open.1.length≤17∧isBits w.open.1:=by
 have hw:=KnD.width_bd h.1
 have h7:=h.2.2.2.2.2.1
 have hb:=h.2.2.2.2.1
 unfold WrD.open
 split
 ·exact ⟨by show w.bits.length≤17;omega,hb⟩
 ·refine ⟨?_,hb.app (isBits_code _ _ _)⟩
  show (w.bits++codeL _ _ _).length≤17
  rw [List.length_append,codeL_length];omega
theorem WlD.start {w:WrD} {d:List UInt8} (h:wrOk w) (hd:d≠ []) (hl: ∀ x∈d,x.toNat<clr w.k.set) (hn:(w.pend++d).length≤2000) :
  WlD (w.all d,(w.codes d).2) w.k.set (w.pend++d).length w.open.2 (w.pend++d) w.open.1:=by
 obtain ⟨hok,hos⟩:=WrD.open_ok h.1
 obtain ⟨o1,o2⟩:=open_len h
 exact ⟨Nat.le_refl _,hn,by simp [hd],by omega,o2,rfl,hok,hos,fun x hx=>(List.mem_append.1 hx).elim (h.2.2.1 x) (hl x)⟩
def wrV (w:WrD) (v:Value):Value:= .agg #[.int .i64 w.k.set.ord,.int .i64 w.k.set.lit,.int .i64 w.k.set.most,v,.int .i64 w.k.base,.int .i64 w.k.last,.string (bs w.pend),.string (bs w.bits),.bool w.beg]
def noWr:Value:= .agg #[.int .i64 0,.int .i64 0,.int .i64 0,.slice none 0 0,.int .i64 0,.int .i64 0,.string ⟨#[]⟩,.string ⟨#[]⟩,.bool false]
def WdPost (o:Option (WrD × List UInt8)) (w:World) (e:Ending) (w':World):Prop:=match o with
 |some (x,by')=> ∃ v,e= .returned (.tuple #[wrV x v,.string (bs by'),.bool true])∧ownPr w' w.heap.size v x.k.ps∧Up w w'
 |none=>e= .returned (.tuple #[noWr,.string ⟨#[]⟩,.bool false])∧Up w w'
end Go.Proofs.YtekogcjdaolcbaaGreatDoor
/- Walks of the program's appendBits onto a marked row and of the coder's write. Conditions: the coder lies in memory (CdEx), what is known is valid, the code can be written. -/
namespace Go.Proofs.YtekogcjdaolcbaaGreatDoor
open Go Go.RowKit
theorem grownBy_row {w w1 w2:World} {row row2:Option Nat} (h:w.grownBy w1 row) (h2:w1.grownBy w2 row2) (hr: ∀ b,row2=some b→row=some b∨w.heap.size≤b):w.grownBy w2 row :=
 ⟨h2.os.trans h.os,h2.tape.trans h.tape,h2.output.trans h.output,Nat.le_trans h.size h2.size,fun b hb hne=>(h2.block b (Nat.lt_of_lt_of_le hb h.size) (fun e=>by
  rcases hr b e.symm with h3|h3
  ·exact hne h3.symm
  ·omega)).trans (h.block b hb hne)⟩
def RelAM (o:Int) (n wd:Nat) (d:List UInt8) (B:Nat) (v0:Value) (w:World) (v i:Value) (wr:World):Prop:= ∃ j:Nat,i= .int .i64 j∧j≤wd∧ownM wr B v (d++(codeL o n wd).take j)∧w.grownBy wr v0.ownBlock∧NewOr w.heap.size v0 v
def AbPost (B:Nat) (v:Value) (d:List UInt8) (w:World) (e:Ending) (w':World):Prop:= ∃ v',e= .returned v'∧ownM w' B v' d∧w.grownBy w' v.ownBlock∧NewOr w.heap.size v v'
set_option maxRecDepth 100000 in
set_option maxHeartbeats 4000000 in
theorem bitsM_any (B:Nat) (o:Int) (n wd:Nat) (v:Value) (d:List UInt8) (w:World) (ho:o=0∨o=1) (hn:n≤1048576) (hw:wd≤16) (hd:d.length≤1000000) (hB:B≤w.heap.size) (hown:ownM w B v d) :
  Calls Tryz.prog 95  #[v,.int .i64 o,.int .i64 n,.int .i64 wd] w (AbPost B v (d++codeL o n wd) w):=by
 have hall:(codeL o n wd).take wd=codeL o n wd:=List.take_of_length_le (by rw [codeL_length];exact Nat.le_refl _)
 have HO:=Lib.hid hown
 have HA:=Lib.hid hall
 have ho1:=ho
 obtain ⟨gv,cv,hv⟩:=hown.shape
 have HV:=Lib.hid hv
 obtain ⟨row,hrow⟩: ∃ row,Hid (v.ownBlock=row):=⟨_,rfl⟩
 unfold AbPost
 subst hv
 clear hown hall
 go_enter Tryz.func95,Tryz.ntmps95
 go_wp2
 go_loopw [0,12] (fun v i wr=>RelAM o n wd d B (.slice (some ⟨gv,0,none⟩) d.length cv) w v i wr) (fun _ i _=>wd - (intOf i).toNat)
 case atStart=>exact ⟨0,rfl,Nat.zero_le _,by rw [List.take_zero,List.append_nil];exact HO.out,grownBy_refl _ _,fun b hb=> .inl hb⟩
 case round =>
  clear HO
  obtain ⟨j,rfl,hj1,hown,hgr,hnew⟩:=hrel
  have hl:(d++(codeL o n wd).take j).length=d.length+j:=by rw [List.length_append,List.length_take,codeL_length];omega
  by_cases hlt:j<wd
  ·have cP:=fun w=>placeI_any o j wd w ho1 hlt hw
   have hk:=and_pow n (plc o j wd) hn (by have:=plc_lt (o:=o) hlt;omega)
   have hdig:=Lib.hid (digit_if n (plc o j wd))
   have hT:=Lib.hid (codeL_take ho1 (n:=n) hlt)
   have hq0:0<2 ^ plc o j wd:=Nat.two_pow_pos _
   generalize bitB n (plc o j wd)=bb at *
   have HUP:=Lib.hid (And.intro hgr hnew)
   obtain ⟨ar,cr,rfl⟩:=hown.shape
   rw [hl] at hown
   have HW:=Lib.hid hown
   by_cases hb:n / 2 ^ plc o j wd % 2=1
   ·rw [if_pos hb] at hk hdig
    clear hb hown hgr hnew
    generalize 2 ^ plc o j wd=q at *
    go_wp2_with (first|(go_at_call 98;(with_reducible refine (cP _).mono ?_);rintro e w' ⟨rfl,rfl⟩)|(at_builtin;refine wpList_appendM rfl _ _ rfl B _ _ rfl (HW.out.up (Up.alloc (Up.refl _) _)) ⟨wr.heap.size,0,none⟩ 1 bb rfl (by rw [← hdig.out];exact box_cell (MapKept.heap_alloc _ _).1 0) rfl (by rw [hl];omega) (by have:=HUP.out.1.size;simp;omega) ?_;rintro v4 w4 hown4 hgr4 hnew4;have HG:=Lib.hid (And.intro hown4 (And.intro hgr4 hnew4));clear hown4 hgr4 hnew4))
    go_roundw
    case rel =>
     obtain ⟨g1,g2,g3⟩:=HG.out
     obtain ⟨u1,u2⟩:=HUP.out
     refine ⟨j+1,by go_num,by omega,by rw [hT.out,←List.append_assoc];exact g1,grownBy_row (grownBy_up u1 ((Up.refl _).alloc _)) g2 u2,fun b hb=>?_⟩
     rcases g3 b hb with h1|h1
     ·exact u2 b h1
     ·right;have:=u1.size;simp at h1;omega
    case measure=>simp [intOf];omega
   ·rw [if_neg hb] at hk hdig
    clear hb hown hgr hnew
    generalize 2 ^ plc o j wd=q at *
    go_wp2_with (first|(go_at_call 98;(with_reducible refine (cP _).mono ?_);rintro e w' ⟨rfl,rfl⟩)|(at_builtin;refine wpList_appendM rfl _ _ rfl B _ _ rfl (HW.out.up (Up.alloc (Up.refl _) _)) ⟨wr.heap.size,0,none⟩ 1 bb rfl (by rw [← hdig.out];exact box_cell (MapKept.heap_alloc _ _).1 0) rfl (by rw [hl];omega) (by have:=HUP.out.1.size;simp;omega) ?_;rintro v4 w4 hown4 hgr4 hnew4;have HG:=Lib.hid (And.intro hown4 (And.intro hgr4 hnew4));clear hown4 hgr4 hnew4))
    go_roundw
    case rel =>
     obtain ⟨g1,g2,g3⟩:=HG.out
     obtain ⟨u1,u2⟩:=HUP.out
     refine ⟨j+1,by go_num,by omega,by rw [hT.out,←List.append_assoc];exact g1,grownBy_row (grownBy_up u1 ((Up.refl _).alloc _)) g2 u2,fun b hb=>?_⟩
     rcases g3 b hb with h1|h1
     ·exact u2 b h1
     ·right;have:=u1.size;simp at h1;omega
    case measure=>simp [intOf];omega
  ·have e:j=wd:=by omega
   subst e
   rw [HA.out] at hown
   have HW:=Lib.hid (And.intro hown (And.intro hgr hnew))
   obtain ⟨ar,cr,rfl⟩:=hown.shape
   clear hown hgr hnew
   go_wp2
   go_ret
   exact ⟨_,rfl,HW.out.1,HW.out.2.1,HW.out.2.2⟩
theorem gOut_ab {f:FuncId} {args:Array Value} {w w0:World} {B:Nat} {v:Value} {d:List UInt8} (h:Calls Tryz.prog f args w (AbPost B v d w)) (hw:w0.heap.size≤w.heap.size):gOut Tryz.prog (fun w w'=>w.grownBy w' v.ownBlock) (fun u w'=>ownM w' B u d∧NewOr w0.heap.size v u) w (.ok (.enter f args) w) :=
 ⟨rfl,h.mono fun e w'' ⟨vv,he,ho,hg,hn⟩=>⟨_,he,hg,ho,fun b hb=>(hn b hb).imp id (fun h=>Nat.le_trans hw h)⟩⟩
theorem ownM_ne {w:World} {b:Nat} {cs:Array Value} {T:TypeId} (hb:w.heap[b]? =some (.cells cs T)) {base:Nat} {v:Value} {d:List UInt8} (h:ownM w base v d) (hne:T≠5):some b≠v.ownBlock:=by
 obtain ⟨g,cap,cur,fz,rfl,h1,h2,-⟩:=h
 intro e
 simp only [Value.ownBlock,Option.some.injEq] at e
 subst e
 rw [h2] at hb
 simp only [Option.some.injEq,Obj.cells.injEq] at hb
 exact hne hb.2.1.symm
theorem ownM_row {w:World} {e:TypeId} {base1 size n:Nat} {v1:Value} {xs:List Value} (hr:w.ownsRow base1 e size v1 n xs) {base:Nat} {v:Value} {d:List UInt8} (h:ownM w base v d) (hne:e≠5):v1.ownBlock=none∨v1.ownBlock≠v.ownBlock:=by
 rcases hr.2 with ⟨rfl,_⟩|⟨g,cap,cur,rfl,hb,hg,_⟩
 ·exact .inl rfl
 ·exact .inr (ownM_ne hg h hne)
theorem ownM.setb {w:World} {b:Nat} {base:Nat} {v:Value} {d:List UInt8} (h:ownM w base v d) (hne:some b≠v.ownBlock) (i:Nat) (u:Value):ownM (w.setCell ⟨b,i,none⟩ u) base v d:=by
 obtain ⟨g,cap,cur,fz,rfl,h1,h2,h3⟩:=h
 have hgb:g≠b:=fun e=>hne (by simp [Value.ownBlock,e])
 exact ⟨g,cap,cur,fz,rfl,h1,(Below.heap_setCell _ _ _ _ hgb).trans h2,h3⟩
structure CdAt (B cb tb:Nat) (k:KnD) (vp vn vi vb:Value) (bits:List UInt8) (w:World):Prop where
 tree:TreeAt B tb k vp vn vi w
 box:w.heap[cb]? =some (.cells #[.pointer (some ⟨tb,0,none⟩),vb] 74)
 low:B≤cb
 own:ownM w B vb bits
theorem CdAt.up {B cb tb:Nat} {k:KnD} {vp vn vi vb:Value} {bits:List UInt8} {w w':World} (h:CdAt B cb tb k vp vn vi vb bits w) (hu:Up w w'):CdAt B cb tb k vp vn vi vb bits w':=⟨h.tree.up hu,box_up hu h.box,h.low,h.own.up hu⟩
theorem CdAt.lt {B cb tb:Nat} {k:KnD} {vp vn vi vb:Value} {bits:List UInt8} {w:World} (h:CdAt B cb tb k vp vn vi vb bits w):cb<w.heap.size:=(Array.getElem?_eq_some_iff.1 h.box).1
theorem CdAt.gr {B cb tb:Nat} {k:KnD} {vp vn vi vb:Value} {bits:List UInt8} {w w':World} (h:CdAt B cb tb k vp vn vi vb bits w) (hg:w.grownBy w' vb.ownBlock):TreeAt B tb k vp vn vi w'∧w'.heap[cb]? =some (.cells #[.pointer (some ⟨tb,0,none⟩),vb] 74) :=
 ⟨⟨gbox hg h.tree.box (ownM_ne h.tree.box h.own (by decide)),h.tree.low,h.tree.prs.kept hg (ownM_row h.tree.prs h.own (by decide)),h.tree.nod.kept hg (ownM_row h.tree.nod h.own (by decide)),h.tree.idx.kept hg (ownM_row h.tree.idx h.own (by decide))⟩,gbox hg h.box (ownM_ne h.box h.own (by decide))⟩
theorem TreeAt.setb {B tb:Nat} {k:KnD} {vp vn vi:Value} {w:World} (h:TreeAt B tb k vp vn vi w) {b:Nat} {cs:Array Value} {T:TypeId} (hb:w.heap[b]? =some (.cells cs T)) (h1:T≠81) (h2:T≠133) (h3:T≠125) (h4:T≠3) (i:Nat) (u:Value):TreeAt B tb k vp vn vi (w.setCell ⟨b,i,none⟩ u):=by
 have hn:b≠tb:=fun e=>by
  subst e
  have:=h.box
  unfold TrBox at this
  rw [hb] at this
  cases this
  exact h1 rfl
 exact ⟨(Below.heap_setCell _ _ _ _ (Ne.symm hn)).trans h.box,h.low,ownsRow_setb h.prs (box_ne hb h.prs h2) i u,ownsRow_setb h.nod (box_ne hb h.nod h3) i u,ownsRow_setb h.idx (box_ne hb h.idx h4) i u⟩
theorem CdAt.put {B cb tb:Nat} {k:KnD} {vp vn vi vb vb':Value} {bits bits':List UInt8} {w w':World} (h:CdAt B cb tb k vp vn vi vb bits w) (hg:w.grownBy w' vb.ownBlock) (ho:ownM w' B vb' bits'):CdAt B cb tb k vp vn vi vb' bits' (w'.setCell ⟨cb,1,none⟩ vb'):=by
 obtain ⟨h1,h2⟩:=h.gr hg
 exact ⟨h1.setb h2 (by decide) (by decide) (by decide) (by decide) 1 vb',box_set h2 1 vb',h.low,ho.setb (ownM_ne h2 ho (by decide)) 1 vb'⟩
def CdEx (a0:World) (cb:Nat) (k:KnD) (bits:List UInt8) (w:World):Prop:=Up a0 w∧ ∃ tb vp vn vi vb,CdAt a0.heap.size cb tb k vp vn vi vb bits w
theorem CdEx.up {a0:World} {cb:Nat} {k:KnD} {bits:List UInt8} {w w':World} (h:CdEx a0 cb k bits w) (hu:Up w w'):CdEx a0 cb k bits w':=by
 obtain ⟨h1,tb,vp,vn,vi,vb,h2⟩:=h
 exact ⟨h1.trans hu,tb,vp,vn,vi,vb,h2.up hu⟩
theorem CdAt.tr {a0:World} {cb tb:Nat} {k k':KnD} {vp vn vi vb:Value} {bits:List UInt8} {w w':World} (h:CdAt a0.heap.size cb tb k vp vn vi vb bits w) (hu:Up a0 w) (hp:TrPost a0.heap.size tb k' vp vn vi w w'):CdEx a0 cb k' bits w':=by
 obtain ⟨vp',vn',vi',hT,hF,hO⟩:=hp
 have hcb:=h.tree.not_own h.box (by decide) (by decide) (by decide) (by decide)
 refine ⟨Fr.upto hu hF (fun b hb=>(h.tree.own_lo b hb).1),tb,vp',vn',vi',vb,hT,hF.box h.box hcb,h.low,h.own.fr hF (fun b hb ho=>?_)⟩
 have hM:=h.own
 rcases ho with rfl|e|e|e
 ·exact ownM_ne h.tree.box hM (by decide) hb.symm
 ·exact (ownM_row h.tree.prs hM (by decide)).elim (fun h=>by rw [h] at e;cases e) (fun h=>h (e.trans hb.symm))
 ·exact (ownM_row h.tree.nod hM (by decide)).elim (fun h=>by rw [h] at e;cases e) (fun h=>h (e.trans hb.symm))
 ·exact (ownM_row h.tree.idx hM (by decide)).elim (fun h=>by rw [h] at e;cases e) (fun h=>h (e.trans hb.symm))
end Go.Proofs.YtekogcjdaolcbaaGreatDoor
/- Walks of the program's coder: write, coderOf. Conditions: the coder lies in memory (CdEx), what is known is valid, the code can be written. -/
namespace Go.Proofs.YtekogcjdaolcbaaGreatDoor
open Go Go.RowKit
def KnD.puts (k:KnD) (x:Int):Prop:=x=(k.c:Int)+1∨x=(k.c:Int)∨(x≠(k.c:Int)∧x≠(k.c:Int)+1∧k.follows x=true)
set_option maxRecDepth 100000 in
set_option maxHeartbeats 8000000 in
theorem write_any (a0:World) (cb:Nat) (k:KnD) (bits:List UInt8) (n:Nat) (w:World) (h:CdEx a0 cb k bits w) (hk:k.Ok) (hn:n≤1048576) (hl:bits.length≤900000) (hf:k.puts n) :
  Calls Tryz.prog 38  #[.pointer (some ⟨cb,0,none⟩),.int .i64 n] w (fun e w'=>(∃ v,e= .returned v)∧CdEx a0 cb (k.thru n) (bits++codeL k.set.ord n k.width) w'):=by
 obtain ⟨hu0,tb,vp,vn,vi,vb,hC⟩:=h
 have cE:=fun w=>endI_any k.set w hk.set
 have cW:=fun wq hr=>widthI_any k vp a0.heap.size wq hk hr
 have hwd:=KnD.width_bd hk
 have ho:=(setOk_bd hk.set).1
 have hkt:=hk.tr
 have hcb:=hC.lt
 have htb:=hC.tree.lt
 obtain ⟨c0,c1,c2,c3,c4,c5,c6,c7⟩:=hC.tree.cells
 have d0:=box_cell hC.box 0
 have d1:=box_cell hC.box 1
 simp at d0 d1
 have hfc:=box_free hC.box
 have hbn:=ownM_ne hC.tree.box hC.own (by decide)
 have hcn:=ownM_ne hC.box hC.own (by decide)
 have cB:=fun wq hB hown=>bitsM_any a0.heap.size k.set.ord n k.width vb bits wq ho hn (by omega) (by omega) hB hown
 obtain ⟨gv,cv,hv⟩:=hC.own.shape
 obtain ⟨ap,cp,hvp⟩:=hC.tree.shape
 have ec:k.c=clr k.set:=rfl
 have HC:=Lib.hid hC
 have HU0:=Lib.hid hu0
 have HK:=Lib.hid hk
 have HF:=Lib.hid hf
 subst hv hvp
 clear hC hu0 hk hf
 simp only [kV] at *
 go_enter Tryz.func38,Tryz.ntmps38
 go_wp2
 have hC1:=HC.out.up ((Up.refl w).alloc (.cells #[.int .i64 k.set.ord,.int .i64 k.set.lit,.int .i64 k.set.most] 24))
 have hS1:SetAt w.heap.size k.set.ord k.set.lit k.set.most (w.alloc (.cells #[.int .i64 k.set.ord,.int .i64 k.set.lit,.int .i64 k.set.most] 24)):=(MapKept.heap_alloc w _).1
 have hU1:Up a0 (w.alloc (.cells #[.int .i64 k.set.ord,.int .i64 k.set.lit,.int .i64 k.set.most] 24)):=HU0.out.alloc _
 have hw1:w.heap.size≤(w.alloc (.cells #[.int .i64 k.set.ord,.int .i64 k.set.lit,.int .i64 k.set.most] 24)).heap.size:=by simp
 generalize (w.alloc (.cells #[.int .i64 k.set.ord,.int .i64 k.set.lit,.int .i64 k.set.most] 24))=W1 at *
 have hsn:=ownM_ne hS1 hC1.own (by decide)
 have HS1:=Lib.hid hS1
 have HC1:=Lib.hid hC1
 have HU1:=Lib.hid hU1
 have hB1:a0.heap.size≤W1.heap.size:=hU1.size
 generalize hsb:w.heap.size=sb at *
 clear hC1 hS1 hU1 c0 c1 c2 c3 c4 c5 c6 c7 d0 d1 hfc HC HU0
 refine wp_region_ownf 19 16 (Value.ownBlock (.slice (some ⟨gv,0,none⟩) bits.length cv)) (by kernel_rfl) (by kernel_rfl) ?_
 simp only [List.take,List.drop]
 repeat (refine wpG_step (fun K hK=>?_);go_simp;(try simp only [↓IntWalk.iteOmega]);first
  |(refine hK _ _ ?_;clear hK K)
  |(refine stepG_own (by rfl) (by kernel_rfl) ((fun u w'=>ownM w' a0.heap.size u (bits++codeL k.set.ord n k.width)∧NewOr W1.heap.size (.slice (some ⟨gv,0,none⟩) bits.length cv) u)) ((fun v w w' h hu=>⟨h.1.up hu,h.2⟩)) (fun wq hwq=>?_) ?_
    ·((repeat (first|refine fills_no (by rfl) ?_|refine fills_yes (by rfl) (fun vq hvq=>?_)));simp only [List.filter_nil,fills];(unfold gAt;go_simp;(with_reducible refine gOut_ab (v:= .slice (some ⟨gv,0,none⟩) bits.length cv) ?_ hwq.size);go_at_call 95;exact cB _ (Nat.le_trans hB1 hwq.size) (HC1.out.own.up hwq)))
    refine hK _ _ ?_;clear hK K)
  |(refine stepG_c (by rfl) ?_ ?_ ?_
    rotate_left
    ·intro wq hwq;(have hbq:=gcell hwq;(repeat (first|refine fills_no (by rfl) ?_|refine fills_yes (by rfl) (fun vq hvq=>?_)));simp only [List.filter_nil,fills];unfold upAt;(try ((obtain ⟨c0,c1,c2,c3,c4,c5,c6,c7⟩:=(HC1.out.gr hwq).1.cells;have d0:=box_cell (HC1.out.gr hwq).2 0;have d1:=box_cell (HC1.out.gr hwq).2 1;simp at d0 d1;obtain ⟨s9,s0,s1,s2⟩:=SetAt.cells (gbox hwq HS1.out hsn))));go_simp;(try go_bits);(try simp only [↓IntWalk.iteOmega]);first|exact upOut_value|(apply upOut_call;(go_at_call 84;exact cW _ (RdP.of_own (HC1.out.gr hwq).1.prs))))
    go_simp;refine hK _ _ ?_;clear hK K))
 refine wpG_nil (by rfl) (fun wq hwq=>?_)
 simp only [fills]
 rintro v2 ⟨hM,hN⟩
 have hg:=hwq
 generalize wq=w2 at *
 obtain ⟨g2,cv2,rfl⟩:=hM.shape
 have hlnb:(bits++codeL k.set.ord n k.width).length≤1000000:=by rw [List.length_append,codeL_length];omega
 generalize hbb:bits++codeL k.set.ord n k.width=bb at *
 generalize hln:bb.length=ln at *
 have hput:=HC1.out.put hg hM
 have hS2:SetAt sb k.set.ord k.set.lit k.set.most (w2.setCell ⟨cb,1,none⟩ (.slice (some ⟨g2,0,none⟩) ln cv2)):=box_oth (gbox hg HS1.out hsn) (p:=⟨cb,1,none⟩) (by show sb≠cb;omega) _
 have hU2:Up a0 (w2.setCell ⟨cb,1,none⟩ (.slice (some ⟨g2,0,none⟩) ln cv2)):=Up.set (HU1.out.grown hg (fun b hb=>(HC1.out.own.lt b hb).1)) HC1.out.low _
 have d1:=box_cell (HC1.out.gr hg).2 1
 have d0:=box_cell (HC1.out.gr hg).2 0
 simp at d0 d1
 have hfc:=box_free (HC1.out.gr hg).2
 have hcb2:cb<w2.heap.size:=Nat.lt_of_lt_of_le (HC1.out.lt) hg.size
 have HP:=Lib.hid (And.intro hput (And.intro hS2 hU2))
 obtain ⟨s9,s0,s1,s2⟩:=SetAt.cells (gbox hg HS1.out hsn)
 have HBB:=Lib.hid hbb
 clear hbb
 clear hput hS2 hU2 hM hg hwq hN HC1 HS1 HU1 hln hlnb
 go_wp2
 rw [onlyN_normal]
 rcases HF.out with hx|hx|⟨hx1,hx2,hx3⟩
 ·have hth:Hid (k.thru n=k):=by unfold Hid KnD.thru;rw [if_pos hx]
  have hxe:((n:Int) != ((clr k.set:Nat):Int)+1)=false:=by rw [← ec];simpa using hx
  clear hx HF
  go_wp2_with (first|((go_at_call 58;(with_reducible refine (cE _).mono ?_);rintro e w3 ⟨rfl,U3⟩;have B3:=bcell U3;have Z3:=U3.size;(try simp at Z3);(try rw [Nat.add_one_le_iff] at Z3)))|fail)
  go_end0
  exact ⟨⟨_,rfl⟩,by rw [hth.out,HBB.out];exact ⟨HP.out.2.2.trans U3,_,_,_,_,_,HP.out.1.up U3⟩⟩
 ·have hth:Hid (k.thru n=k.cleared):=by unfold Hid;rw [hx];exact thru_clear k
  have hxe:((n:Int) != ((clr k.set:Nat):Int)+1)=true:=by rw [← ec,hx];simp;omega
  have hxn:n=clr k.set:=by rw [ec] at hx;omega
  subst hxn
  have cF:=fun wq hT=>followC_any a0.heap.size tb k (.slice ap k.ps.length cp) vn vi wq hT hkt HK.out.base0 HK.out.base1
  rw [show k.c=clr k.set from rfl] at cF
  clear hx HF
  go_wp2_with (first|((go_at_call 58;(with_reducible refine (cE _).mono ?_);rintro e w3 ⟨rfl,U3⟩;have B3:=bcell U3;have Z3:=U3.size;(try simp at Z3);(try rw [Nat.add_one_le_iff] at Z3)))|fail)
  with_reducible refine (cF _ (HP.out.1.up U3).tree).mono ?_
  rintro e w4 ⟨⟨v4,rfl⟩,hP4⟩
  have HQ:=Lib.hid ((HP.out.1.up U3).tr (HP.out.2.2.trans U3) hP4)
  clear hP4
  go_wp2
  go_end0
  exact ⟨⟨_,rfl⟩,by rw [hth.out,HBB.out];exact HQ.out⟩
 ·have hth:Hid (k.thru n=k.after n):=KnD.thru_fol HK.out hx3
  have hxe:((n:Int) != ((clr k.set:Nat):Int)+1)=true:=by rw [← ec];simpa using hx2
  have cF:=fun wq hT=>followW_any a0.heap.size tb k (.slice ap k.ps.length cp) vn vi n wq hT HK.out hx1 hx3
  clear hx1 hx2 hx3 HF
  go_wp2_with (first|((go_at_call 58;(with_reducible refine (cE _).mono ?_);rintro e w3 ⟨rfl,U3⟩;have B3:=bcell U3;have Z3:=U3.size;(try simp at Z3);(try rw [Nat.add_one_le_iff] at Z3)))|fail)
  with_reducible refine (cF _ (HP.out.1.up U3).tree).mono ?_
  rintro e w4 ⟨⟨v4,rfl⟩,hP4⟩
  have HQ:=Lib.hid ((HP.out.1.up U3).tr (HP.out.2.2.trans U3) hP4)
  clear hP4
  go_wp2
  go_end0
  exact ⟨⟨_,rfl⟩,by rw [hth.out,HBB.out];exact HQ.out⟩
end Go.Proofs.YtekogcjdaolcbaaGreatDoor
/- Walks of the program's coderOf, codeOf, CodeOfWord, BitsValid, WriterValid, NewWriter. Conditions: as each says. -/
namespace Go.Proofs.YtekogcjdaolcbaaGreatDoor
open Go Go.RowKit
def WrAt (b:Nat) (x:WrD) (v:Value) (w:World):Prop:=w.heap[b]? =some (.cells #[.int .i64 x.k.set.ord,.int .i64 x.k.set.lit,.int .i64 x.k.set.most,v,.int .i64 x.k.base,.int .i64 x.k.last,.string (bs x.pend),.string (bs x.bits),.bool x.beg] 29)
theorem WrAt.cells {b:Nat} {x:WrD} {v:Value} {w:World} (h:WrAt b x v w):b<w.heap.size∧w.cell? ⟨b,0,none⟩=some (.int .i64 x.k.set.ord)∧w.cell? ⟨b,1,none⟩=some (.int .i64 x.k.set.lit)∧w.cell? ⟨b,2,none⟩=some (.int .i64 x.k.set.most)∧w.cell? ⟨b,3,none⟩=some v∧w.cell? ⟨b,4,none⟩=some (.int .i64 x.k.base)∧w.cell? ⟨b,5,none⟩=some (.int .i64 x.k.last)∧w.cell? ⟨b,6,none⟩=some (.string (bs x.pend))∧w.cell? ⟨b,7,none⟩=some (.string (bs x.bits))∧w.cell? ⟨b,8,none⟩=some (.bool x.beg) :=
 ⟨(Array.getElem?_eq_some_iff.1 h).1,box_cell h 0,box_cell h 1,box_cell h 2,box_cell h 3,box_cell h 4,box_cell h 5,box_cell h 6,box_cell h 7,box_cell h 8⟩
theorem WrAt.up {b:Nat} {x:WrD} {v:Value} {w w':World} (h:WrAt b x v w) (hu:Up w w'):WrAt b x v w':=box_up hu h
def TreeO (base:Nat) (k:KnD) (u:Value) (w:World):Prop:= ∃ tb vp vn vi,u= .pointer (some ⟨tb,0,none⟩)∧TreeAt base tb k vp vn vi w
theorem treeO_closed (base:Nat) (k:KnD): ∀ u,UpClosed (TreeO base k u):=fun u w w' ⟨tb,vp,vn,vi,h1,h2⟩ hu=>⟨tb,vp,vn,vi,h1,h2.up hu⟩
theorem upOut_tree {f:FuncId} {args:Array Value} {w:World} {k:KnD} {base:Nat} (h:Calls Tryz.prog f args w (NewTree k w)) (hb:base≤w.heap.size):upOut Tryz.prog (TreeO base k) w (.ok (.enter f args) w) :=
 ⟨rfl,h.mono fun e w' ⟨tb,vp,vn,vi,he,hT,hu⟩=>⟨_,he,hu,tb,vp,vn,vi,rfl,hT.base hb⟩⟩
theorem bytO_closed (base:Nat) (d:List UInt8): ∀ u,UpClosed ((fun (u:Value) w=>ownM w base u d) u):=fun u w w' h hu=>h.up hu
set_option maxRecDepth 100000 in
set_option maxHeartbeats 8000000 in
theorem coderOf_any (x:WrD) (v:Value) (lo:Nat) (w:World) (hk:x.k.Ok) (hr:RdP lo w v x.k.ps) (hb:x.bits.length≤1000) :
  Calls Tryz.prog 36  #[wrV x v] w (fun e w'=> ∃ cb,e= .returned (.pointer (some ⟨cb,0,none⟩))∧CdEx w cb x.open.2 x.open.1 w'):=by
 have cN:=fun wq hr=>newTree_any x.k v lo wq hk hr
 have cK:=fun w=>clearI_any x.k.set w hk.set
 have hrt:=fun (wq:World) (hu:Up w wq)=>hr.up hu
 have hbm:x.bits.length≤maxLen:=by unfold maxLen;omega
 obtain ⟨a,cap,rfl,-,-,-,-⟩:=hr
 have hA:WrAt w.heap.size x (.slice a x.k.ps.length cap) (w.alloc (.cells #[.int .i64 x.k.set.ord,.int .i64 x.k.set.lit,.int .i64 x.k.set.most,.slice a x.k.ps.length cap,.int .i64 x.k.base,.int .i64 x.k.last,.string (bs x.pend),.string (bs x.bits),.bool x.beg] 29)):=(MapKept.heap_alloc w _).1
 have hbg: ∀ b:Bool,x.beg=b→x.open=if b then (x.bits,x.k) else (x.bits++codeL x.k.set.ord x.k.c x.k.width,x.k.cleared):=fun b e=>by unfold WrD.open;rw [e]
 have HBG:=Lib.hid hbg
 have HK:=Lib.hid hk
 clear hbg hk
 cases hbe:x.beg
 all_goals
  have HO:=Lib.hid (HBG.out _ hbe)
  rw [hbe] at hA
  unfold WrAt at hA
  rw [hbe] at hA
  unfold wrV
  rw [hbe]
  simp only [kV] at *
  go_enter Tryz.func36,Tryz.ntmps36
  go_wp2
  have hU1:Up w (w.alloc (.cells #[.int .i64 x.k.set.ord,.int .i64 x.k.set.lit,.int .i64 x.k.set.most,.slice a x.k.ps.length cap,.int .i64 x.k.base,.int .i64 x.k.last,.string (bs x.pend),.string (bs x.bits),.bool x.beg] 29)):=(Up.refl w).alloc _
  rw [hbe] at hU1
  generalize (w.alloc (.cells #[.int .i64 x.k.set.ord,.int .i64 x.k.set.lit,.int .i64 x.k.set.most,.slice a x.k.ps.length cap,.int .i64 x.k.base,.int .i64 x.k.last,.string (bs x.pend),.string (bs x.bits),.bool _] 29))=W1 at *
  have hA':WrAt w.heap.size x (.slice a x.k.ps.length cap) W1:=by unfold WrAt;rw [hbe];exact hA
  have HA:=Lib.hid (And.intro hA' hU1)
  have hws:=hU1.size
  clear hA hA' hU1
  have HBE:=Lib.hid hbe
  clear hbe
  refine wp_region_upR 6 (by kernel_rfl) (by kernel_rfl) ?_
  simp only [List.take,List.drop]
  repeat (refine wpUp_step (fun K hK=>?_);go_simp;(try simp only [↓IntWalk.iteOmega]);first
   |(refine hK _ _ ?_;clear hK K)
   |(apply stepU_c
     ·intro wq hwq;(have hbq:=bcell hwq;(repeat (first|refine fills_no (by rfl) ?_|refine fills_yes (by rfl) (fun vq hvq=>?_)));simp only [List.filter_nil,fills];unfold upAt;(try ((obtain ⟨-,r0,r1,r2,r3,r4,r5,r6,r7,r8⟩:=(HA.out.1.up hwq).cells;have hcv:=run_strBytes wq x.bits)));go_simp;(try go_bits);(try simp only [↓IntWalk.iteOmega]);first|exact upOut_value)
     go_simp;refine hK _ _ ?_;clear hK K)
   |(refine stepU_m (by kernel_rfl) (TreeO w.heap.size x.k) (treeO_closed _ _) (fun wq hwq=>?_) ?_
     ·(have hbq:=bcell hwq;(repeat (first|refine fills_no (by rfl) ?_|refine fills_yes (by rfl) (fun vq hvq=>?_)));simp only [List.filter_nil,fills];unfold upAt;(try ((obtain ⟨-,r0,r1,r2,r3,r4,r5,r6,r7,r8⟩:=(HA.out.1.up hwq).cells;have hcv:=run_strBytes wq x.bits)));go_simp;(try go_bits);(try simp only [↓IntWalk.iteOmega]);((with_reducible refine upOut_tree ?_ (Nat.le_trans hws hwq.size));go_at_call 90;exact cN _ (hrt _ (HA.out.2.trans hwq))))
     refine hK _ _ ?_;clear hK K)
   |(refine stepU_m (by kernel_rfl) ((fun (u:Value) w'=>ownM w' w.heap.size u x.bits)) (bytO_closed _ _) (fun wq hwq=>?_) ?_
     ·(have hbq:=bcell hwq;(repeat (first|refine fills_no (by rfl) ?_|refine fills_yes (by rfl) (fun vq hvq=>?_)));simp only [List.filter_nil,fills];unfold upAt;(try ((obtain ⟨-,r0,r1,r2,r3,r4,r5,r6,r7,r8⟩:=(HA.out.1.up hwq).cells;have hcv:=run_strBytes wq x.bits)));go_simp;(try go_bits);(try simp only [↓IntWalk.iteOmega]);exact upOut_make (up_bytes _ _) (own_bytes _ _ hbm (Nat.le_trans hws hwq.size)))
     refine hK _ _ ?_;clear hK K))
  refine wpUp_nil (fun wq hwq=>?_)
  simp only [fills]
  rintro u5 hM u2 ⟨tb,vp,vn,vi,rfl,hT⟩
  obtain ⟨gv,cv,rfl⟩:=hM.shape
  have HW:=Lib.hid (HA.out.2.trans hwq)
  have HAq:=Lib.hid (HA.out.1.up hwq)
  have hcx:CdEx w wq.heap.size x.k x.bits (wq.alloc (.cells #[.pointer (some ⟨tb,0,none⟩),.slice (some ⟨gv,0,none⟩) x.bits.length cv] 74)) :=
   ⟨HW.out.alloc _,tb,vp,vn,vi,_,hT.up ((Up.refl _).alloc _),(MapKept.heap_alloc _ _).1,HW.out.size,hM.up ((Up.refl _).alloc _)⟩
  have HC:=Lib.hid hcx
  have hqs:=hwq.size
  obtain ⟨-,r0,r1,r2,r3,r4,r5,r6,r7,r8⟩:=(HAq.out.up ((Up.refl _).alloc (.cells #[.pointer (some ⟨tb,0,none⟩),.slice (some ⟨gv,0,none⟩) x.bits.length cv] 74))).cells
  rw [HBE.out] at r8
  clear hcx hM hT hwq HA HW HAq HBE
  have hwz:w.heap.size<(wq.alloc (.cells #[.pointer (some ⟨tb,0,none⟩),.slice (some ⟨gv,0,none⟩) x.bits.length cv] 74)).heap.size:=by simp;omega
 ·have cWr:=fun wx hx=>write_any w wq.heap.size x.k x.bits (clr x.k.set) wx hx HK.out (by have:=HK.out.nums;omega) (by omega) (.inr (.inl rfl))
  rw [show ((clr x.k.set:Nat):Int)=(x.k.c:Int) from rfl,thru_clear] at cWr
  rw [show (x.k.c:Int)=((clr x.k.set:Nat):Int) from rfl] at cWr
  go_wp2_with (first|(go_at_call 40;(with_reducible refine (cK _).mono ?_);rintro e w3 ⟨rfl,U3⟩;have B3:=bcell U3;have Z3:=U3.size;(try simp at Z3);(try rw [Nat.add_one_le_iff] at Z3))|fail)
  with_reducible refine (cWr _ (HC.out.up U3)).mono ?_
  rintro e w4 ⟨⟨v4,rfl⟩,hP⟩
  have HP:=Lib.hid hP
  clear hP
  go_wp2
  go_ret
  exact ⟨_,rfl,by rw [HO.out];exact HP.out⟩
 ·go_wp2
  go_ret
  exact ⟨_,rfl,by rw [HO.out];exact HC.out⟩
set_option maxRecDepth 100000 in
set_option maxHeartbeats 4000000 in
theorem codeOf_any (B tb:Nat) (k:KnD) (vp vn vi:Value) (s:ByteArray) (w:World) (h:TreeAt B tb k vp vn vi w) (hk:k.Ok) (hs:0<s.size) (hs2:s.size≤1073741824) (hl: ∀ b∈s.data.toList,b.toNat<k.c) :
  Calls Tryz.prog 57  #[.pointer (some ⟨tb,0,none⟩),.string s] w (Same (if k.longest s.data.toList=s.data.toList then .tuple #[.int .i64 (k.find s.data.toList),.bool true] else .tuple #[.int .i64 0,.bool false]) w):=by
 have cL:=fun wq hT=>longest_any B tb k vp vn vi s wq hT hk hs hs2 hl
 have cK:=fun w=>clearI_any k.set w hk.set
 have hsl:=ba_len s
 have htb:=h.lt
 have hu0:=u8_bd s[0]
 have hne:s.data.toList≠ []:=fun e=>by rw [e] at hsl;simp at hsl;omega
 have hl0:(s[0]).toNat<clr k.set:=hl _ (by
  have e:s[0]=s.data.toList[0]'(by omega):=rfl
  rw [e];exact List.getElem_mem _)
 have hge: ¬ ((s[0].toNat:Int)≥((clr k.set:Nat):Int)):=by omega
 have HE:s.toList.isEmpty=false:=by rw [Lib.toList_data];cases hh:s.data.toList with|nil=>exact absurd hh hne|cons _ _=>rfl
 obtain ⟨c0,c1,c2,c3,c4,c5,c6,c7⟩:=h.cells
 have hle:=KnD.longest_le (k:=k) s.data.toList
 have HT:=Lib.hid h
 by_cases he:k.longest s.data.toList=s.data.toList
 ·rw [if_pos he]
  rw [he,hsl] at cL
  have hlt: ¬ ((s.size:Nat):Int)<(s.size:Int):=by omega
  clear he h hl hle hne
  generalize k.find s.data.toList=x at *
  go_enter Tryz.func57,Tryz.ntmps57
  go_wp2
  refine wp_region_up 14 (by kernel_rfl) (by kernel_rfl) ?_
  simp only [List.take,List.drop]
  repeat (refine wpUp_step (fun K hK=>?_);go_simp;(try simp only [↓IntWalk.iteOmega]);first
   |(refine hK _ _ ?_;clear hK K)
   |(apply stepU_c
     ·intro wq hwq;(have hbq:=bcell hwq;(repeat (first|refine fills_no (by rfl) ?_|refine fills_yes (by rfl) (fun vq hvq=>?_)));simp only [List.filter_nil,fills];unfold upAt;go_simp;(try go_bits);(try simp only [↓IntWalk.iteOmega]);first|exact upOut_value|(apply upOut_call;(go_at_call 40;exact cK _)))
     go_simp;refine hK _ _ ?_;clear hK K))
  refine wpUp_nil (fun wq hwq=>?_)
  simp only [fills]
  go_wp2_with (first|(go_at_call 37;(with_reducible refine (cL _ (HT.out.up hwq)).mono ?_);rintro e w2 ⟨rfl,U2⟩;have B2:=bcell U2;have Z2:=U2.size;(try simp at Z2);(try rw [Nat.add_one_le_iff] at Z2)))
  go_ret2
  exact ⟨rfl,hwq.trans U2⟩
 ·rw [if_neg he]
  have hlt:=KnD.longest_lt (k:=k) he
  rw [hsl] at hlt
  generalize k.find (k.longest s.data.toList)=x at *
  generalize (k.longest s.data.toList).length=ln at *
  clear he h hl hle hne
  go_enter Tryz.func57,Tryz.ntmps57
  go_wp2
  refine wp_region_up 14 (by kernel_rfl) (by kernel_rfl) ?_
  simp only [List.take,List.drop]
  repeat (refine wpUp_step (fun K hK=>?_);go_simp;(try simp only [↓IntWalk.iteOmega]);first
   |(refine hK _ _ ?_;clear hK K)
   |(apply stepU_c
     ·intro wq hwq;(have hbq:=bcell hwq;(repeat (first|refine fills_no (by rfl) ?_|refine fills_yes (by rfl) (fun vq hvq=>?_)));simp only [List.filter_nil,fills];unfold upAt;go_simp;(try go_bits);(try simp only [↓IntWalk.iteOmega]);first|exact upOut_value|(apply upOut_call;(go_at_call 40;exact cK _)))
     go_simp;refine hK _ _ ?_;clear hK K))
  refine wpUp_nil (fun wq hwq=>?_)
  simp only [fills]
  go_wp2_with (first|(go_at_call 37;(with_reducible refine (cL _ (HT.out.up hwq)).mono ?_);rintro e w2 ⟨rfl,U2⟩;have B2:=bcell U2;have Z2:=U2.size;(try simp at Z2);(try rw [Nat.add_one_le_iff] at Z2)))
  go_ret2
  exact ⟨rfl,hwq.trans U2⟩
set_option maxRecDepth 100000 in
set_option maxHeartbeats 4000000 in
theorem codeWI_any (k:KnD) (v:Value) (lo:Nat) (s:ByteArray) (w:World) (hk:k.Ok) (hv:k.vl) (hr:RdP lo w v k.ps) (hs:0<s.size) (hs2:s.size≤1073741824) (hl: ∀ b∈s.data.toList,b.toNat<k.c) :
  Calls Tryz.prog 66  #[kV k v,.string s] w (Same (.tuple #[.int .i64 (if k.longest s.data.toList=s.data.toList then k.find s.data.toList else 0),.bool (decide (k.longest s.data.toList=s.data.toList))]) w):=by
 have cV:=fun wq hr=>kvI_any k v lo wq hk hv hr
 have cN:=fun wq hr=>newTree_any k v lo wq hk hr
 have cC:=fun B tb vp vn vi wq hT=>codeOf_any B tb k vp vn vi s wq hT hk hs hs2 hl
 have hrt:=fun (wq:World) (hu:Up w wq)=>hr.up hu
 obtain ⟨a,cap,rfl,-,-,-,-⟩:=hr
 by_cases he:k.longest s.data.toList=s.data.toList
 ·simp only [he,if_true,decide_true] at cC ⊢
  generalize k.find s.data.toList=x at *
  clear hk hl hv he
  simp only [kV] at *
  go_enter Tryz.func66,Tryz.ntmps66
  go_wp2_with (first|(go_at_call 64;(with_reducible refine (cV _ (hrt _ (by (repeat (first|with_reducible exact Up.refl _|with_reducible assumption|with_reducible refine Up.alloc ?_ _|refine Up.trans ?_ (by with_reducible assumption)))))).mono ?_);rintro e w1 ⟨rfl,U1⟩;have B1:=bcell U1;have Z1:=U1.size;(try simp at Z1);(try rw [Nat.add_one_le_iff] at Z1))|fail)
  with_reducible refine (cN _ (hrt _ (by (repeat (first|with_reducible exact Up.refl _|with_reducible assumption|with_reducible refine Up.alloc ?_ _|refine Up.trans ?_ (by with_reducible assumption)))))).mono ?_
  rintro e w2 ⟨tb,vp,vn,vi,rfl,hT,U2⟩
  have HT:=Lib.hid hT
  clear hT
  go_wp2_with (first|(go_at_call 57;(with_reducible refine (cC _ _ _ _ _ _ HT.out).mono ?_);rintro e w3 ⟨rfl,U3⟩;have B3:=bcell U3;have Z3:=U3.size;(try simp at Z3);(try rw [Nat.add_one_le_iff] at Z3)))
  go_ret2
  refine ⟨rfl,?_⟩
  (repeat (first|with_reducible exact Up.refl _|with_reducible assumption|with_reducible refine Up.alloc ?_ _|refine Up.trans ?_ (by with_reducible assumption)))
 ·simp only [he,if_false,decide_false] at cC ⊢
  clear hk hl hv he
  simp only [kV] at *
  go_enter Tryz.func66,Tryz.ntmps66
  go_wp2_with (first|(go_at_call 64;(with_reducible refine (cV _ (hrt _ (by (repeat (first|with_reducible exact Up.refl _|with_reducible assumption|with_reducible refine Up.alloc ?_ _|refine Up.trans ?_ (by with_reducible assumption)))))).mono ?_);rintro e w1 ⟨rfl,U1⟩;have B1:=bcell U1;have Z1:=U1.size;(try simp at Z1);(try rw [Nat.add_one_le_iff] at Z1))|fail)
  with_reducible refine (cN _ (hrt _ (by (repeat (first|with_reducible exact Up.refl _|with_reducible assumption|with_reducible refine Up.alloc ?_ _|refine Up.trans ?_ (by with_reducible assumption)))))).mono ?_
  rintro e w2 ⟨tb,vp,vn,vi,rfl,hT,U2⟩
  have HT:=Lib.hid hT
  clear hT
  go_wp2_with (first|(go_at_call 57;(with_reducible refine (cC _ _ _ _ _ _ HT.out).mono ?_);rintro e w3 ⟨rfl,U3⟩;have B3:=bcell U3;have Z3:=U3.size;(try simp at Z3);(try rw [Nat.add_one_le_iff] at Z3)))
  go_ret2
  refine ⟨rfl,?_⟩
  (repeat (first|with_reducible exact Up.refl _|with_reducible assumption|with_reducible refine Up.alloc ?_ _|refine Up.trans ?_ (by with_reducible assumption)))
def bvB (l:List UInt8):Bool:=decide (l.length≤32000) && bitsB l
theorem bitsB_no {s:ByteArray} {j:Nat} (h:j<s.size) (hb: ¬ (s[j].toNat=48∨s[j].toNat=49)):bitsB s.data.toList=false:=by
 cases e:bitsB s.data.toList
 ·rfl
 ·exact absurd (bitsB_iff.1 e s[j] (by
   have e2:s[j]=s.data.toList[j]'(by rw [ba_len];exact h):=rfl
   rw [e2];exact List.getElem_mem _)) hb
theorem bitsB_yes {s:ByteArray} (h: ∀ j (hj:j<s.size),s[j].toNat=48∨s[j].toNat=49):bitsB s.data.toList=true:=by
 rw [bitsB_iff]
 intro b hb
 obtain ⟨i,hi,rfl⟩:=List.mem_iff_getElem.1 hb
 exact h i (by rw [ba_len] at hi;exact hi)
def RelBg (s:ByteArray) (i:Value) (w wr:World):Prop:= ∃ j:Nat,i= .int .i64 j∧j≤s.size∧(∀ q (hq:q<s.size),q<j→s[q].toNat=48∨s[q].toNat=49)∧w=wr
set_option maxRecDepth 100000 in
set_option maxHeartbeats 1000000 in
theorem bvI_any (s:ByteArray) (w:World) (hs:s.size≤1073741824) :
  Calls Tryz.prog 65  #[.string s] w (fun e w'=>e= .returned (.bool (bvB s.data.toList))∧w=w'):=by
 have hlen:=ba_len s
 by_cases h4:s.size≤32000
 ·have HV:Hid (bvB s.data.toList=bitsB s.data.toList):=by unfold Hid bvB;rw [hlen,decide_eq_true h4];rfl
  rw [HV.out]
  go_enter Tryz.func65,Tryz.ntmps65
  go_wp2
  go_loopw [9] (fun i wr=>RelBg s i w wr) (fun i _=>s.size - (intOf i).toNat)
  case atStart=>exact ⟨0,rfl,Nat.zero_le _,fun q _ h=>absurd h (Nat.not_lt_zero _),rfl⟩
  case round =>
   obtain ⟨j,rfl,hj,hall,rfl⟩:=hrel
   have HA:=Lib.hid hall
   clear hall
   by_cases hlt:j<s.size
   ·have HN:Hid ((s[j].toNat=48∨s[j].toNat=49)→ ∀ q (hq:q<s.size),q<j+1→s[q].toNat=48∨s[q].toNat=49):=fun h q hq hqj=>by
     rcases Nat.lt_or_ge q j with h'|h'
     ·exact HA.out q hq h'
     ·have:q=j:=by omega
      subst this;exact h
    by_cases h1:s[j].toNat=48
    ·have HN':=Lib.hid (HN.out (.inl h1))
     clear HN HA
     go_wp2
     go_roundw
     case rel=>exact ⟨j+1,by go_num,by omega,HN'.out,rfl⟩
     case measure=>simp [intOf];omega
    ·by_cases h2:s[j].toNat=49
     ·have HN':=Lib.hid (HN.out (.inr h2))
      clear HN HA
      go_wp2
      go_roundw
      case rel=>exact ⟨j+1,by go_num,by omega,HN'.out,rfl⟩
      case measure=>simp [intOf];omega
     ·have HB:Hid (bitsB s.data.toList=false):=bitsB_no hlt (fun h=>h.elim h1 h2)
      have hb1:((s[j].toNat:Int) != 48)=true:=by simp;omega
      have hb2:((s[j].toNat:Int) != 49)=true:=by simp;omega
      clear HN HA
      go_wp2
      go_ret
      exact ⟨ret_bool HB.out.symm,rfl⟩
   ·have HB:Hid (bitsB s.data.toList=true):=bitsB_yes fun q hq=>HA.out q hq (by omega)
    go_wp2
    go_ret
    exact ⟨ret_bool HB.out.symm,rfl⟩
 ·have HV:Hid (bvB s.data.toList=false):=by unfold Hid bvB;rw [hlen,decide_eq_false h4];rfl
  rw [HV.out]
  go_enter Tryz.func65,Tryz.ntmps65
  go_wp2
  go_ret
  exact ⟨rfl,rfl⟩
theorem isEmpty_bs {d:List UInt8} (h:d≠ []):(bs d).toList.isEmpty=false:=by rw [Lib.toList_data,bs_data];cases d with|nil=>exact absurd rfl h|cons _ _=>rfl
theorem isEmpty_nil:(bs ([]:List UInt8)).toList.isEmpty=true:=by rw [Lib.toList_data,bs_data];rfl
theorem wrvB_k {x:WrD} (h:validK x.k=false):wrvB x=false:=by unfold wrvB;rw [h];rfl
theorem wrvB_f {x:WrD} (h:fitsB x.k.set x.pend=false):wrvB x=false:=by unfold wrvB;rw [h];simp
theorem wrvB_b {x:WrD} (h:bvB x.bits=false):wrvB x=false:=by
 unfold wrvB
 have:(bitsB x.bits && decide (x.bits.length≤7))=false:=by
  unfold bvB at h
  cases h1:bitsB x.bits
  ·rfl
  ·rw [h1,Bool.and_true] at h
   have: ¬ x.bits.length≤32000:=by simpa using h
   rw [Bool.true_and]
   exact decide_eq_false (by omega)
 rw [this];simp
theorem wrvB_7 {x:WrD} (h: ¬ x.bits.length≤7):wrvB x=false:=by unfold wrvB;rw [decide_eq_false h];simp
theorem wrvB_all {x:WrD} (h1:validK x.k=true) (h2:fitsB x.k.set x.pend=true) (h3:bvB x.bits=true) (h4:x.bits.length≤7):wrvB x=wrsB x:=by
 unfold wrvB
 unfold bvB at h3
 rw [h1,h2,decide_eq_true h4,(Bool.and_eq_true_iff.1 h3).2]
 rfl
set_option maxRecDepth 100000 in
set_option maxHeartbeats 8000000 in
theorem wvI_any (x:WrD) (v:Value) (lo:Nat) (w:World) (hl: -9223372036854775808≤x.k.set.lit∧x.k.set.lit≤9223372036854775807) (hr:RdP lo w v x.k.ps) (hps:x.k.ps.length≤1073741824) (hp:x.pend.length≤1073741824) (hb:x.bits.length≤1073741824) :
  Calls Tryz.prog 15  #[wrV x v] w (Same (.bool (wrvB x)) w):=by
 have cV:=fun wq hr=>kvI_gen x.k v lo wq hl hr hps
 have hrt:=fun (wq:World) (hu:Up w wq)=>hr.up hu
 have hsp:=bs_size x.pend
 have hsb:=bs_size x.bits
 have cF:=fun wq=>fitsI_any x.k.set (bs x.pend) wq hl (by omega)
 have cB:=fun wq=>bvI_any (bs x.bits) wq (by omega)
 rw [bs_data] at cF cB
 obtain ⟨a,cap,rfl,-,-,-,-⟩:=id hr
 unfold wrV
 cases h1:validK x.k
 ·rw [wrvB_k h1]
  rw [h1] at cV
  clear h1 hr
  simp only [kV] at *
  go_enter Tryz.func15,Tryz.ntmps15
  go_wp2_with (first|(go_at_call 64;(with_reducible refine (cV _ (hrt _ (by (repeat (first|with_reducible exact Up.refl _|with_reducible assumption|with_reducible refine Up.alloc ?_ _|refine Up.trans ?_ (by with_reducible assumption)))))).mono ?_);rintro e w1 ⟨rfl,U1⟩;have B1:=bcell U1;have Z1:=U1.size;(try simp at Z1);(try rw [Nat.add_one_le_iff] at Z1))|fail)
  go_ret
  refine ⟨rfl,?_⟩
  (repeat (first|with_reducible exact Up.refl _|with_reducible assumption|with_reducible refine Up.alloc ?_ _|refine Up.trans ?_ (by with_reducible assumption)))
 rw [h1] at cV
 cases h2:fitsB x.k.set x.pend
 ·rw [wrvB_f h2]
  rw [h2] at cF
  clear h1 h2 hr
  simp only [kV,setV] at *
  go_enter Tryz.func15,Tryz.ntmps15
  go_wp2_with (first|(go_at_call 64;(with_reducible refine (cV _ (hrt _ (by (repeat (first|with_reducible exact Up.refl _|with_reducible assumption|with_reducible refine Up.alloc ?_ _|refine Up.trans ?_ (by with_reducible assumption)))))).mono ?_);rintro e w1 ⟨rfl,U1⟩;have B1:=bcell U1;have Z1:=U1.size;(try simp at Z1);(try rw [Nat.add_one_le_iff] at Z1))|(go_at_call 34;(with_reducible refine (cF _).mono ?_);rintro e w2 ⟨rfl,U2⟩;have B2:=bcell U2;have Z2:=U2.size;(try simp at Z2);(try rw [Nat.add_one_le_iff] at Z2))|fail)
  go_ret
  refine ⟨rfl,?_⟩
  (repeat (first|with_reducible exact Up.refl _|with_reducible assumption|with_reducible refine Up.alloc ?_ _|refine Up.trans ?_ (by with_reducible assumption)))
 rw [h2] at cF
 cases h3:bvB x.bits
 ·rw [wrvB_b h3]
  rw [h3] at cB
  clear h1 h2 h3 hr
  simp only [kV,setV] at *
  go_enter Tryz.func15,Tryz.ntmps15
  go_wp2_with (first|(go_at_call 64;(with_reducible refine (cV _ (hrt _ (by (repeat (first|with_reducible exact Up.refl _|with_reducible assumption|with_reducible refine Up.alloc ?_ _|refine Up.trans ?_ (by with_reducible assumption)))))).mono ?_);rintro e w1 ⟨rfl,U1⟩;have B1:=bcell U1;have Z1:=U1.size;(try simp at Z1);(try rw [Nat.add_one_le_iff] at Z1))|(go_at_call 34;(with_reducible refine (cF _).mono ?_);rintro e w2 ⟨rfl,U2⟩;have B2:=bcell U2;have Z2:=U2.size;(try simp at Z2);(try rw [Nat.add_one_le_iff] at Z2))|(go_at_call 65;(with_reducible refine (cB _).mono ?_);rintro e w' ⟨rfl,rfl⟩)|fail)
  go_ret
  refine ⟨rfl,?_⟩
  (repeat (first|with_reducible exact Up.refl _|with_reducible assumption|with_reducible refine Up.alloc ?_ _|refine Up.trans ?_ (by with_reducible assumption)))
 rw [h3] at cB
 by_cases h4:x.bits.length≤7
 case neg =>
  rw [wrvB_7 h4]
  clear h1 h2 h3 hr
  have h4':((x.bits.length:Nat):Int)≥8:=by omega
  simp only [kV,setV] at *
  go_enter Tryz.func15,Tryz.ntmps15
  go_wp2_with (first|(go_at_call 64;(with_reducible refine (cV _ (hrt _ (by (repeat (first|with_reducible exact Up.refl _|with_reducible assumption|with_reducible refine Up.alloc ?_ _|refine Up.trans ?_ (by with_reducible assumption)))))).mono ?_);rintro e w1 ⟨rfl,U1⟩;have B1:=bcell U1;have Z1:=U1.size;(try simp at Z1);(try rw [Nat.add_one_le_iff] at Z1))|(go_at_call 34;(with_reducible refine (cF _).mono ?_);rintro e w2 ⟨rfl,U2⟩;have B2:=bcell U2;have Z2:=U2.size;(try simp at Z2);(try rw [Nat.add_one_le_iff] at Z2))|(go_at_call 65;(with_reducible refine (cB _).mono ?_);rintro e w' ⟨rfl,rfl⟩)|fail)
  go_ret
  refine ⟨rfl,?_⟩
  (repeat (first|with_reducible exact Up.refl _|with_reducible assumption|with_reducible refine Up.alloc ?_ _|refine Up.trans ?_ (by with_reducible assumption)))
 case pos =>
  have h4': ¬ ((x.bits.length:Nat):Int)≥8:=by omega
  rw [wrvB_all h1 h2 h3 h4]
  obtain ⟨hk,hv⟩:=ok_of_valid h1
  obtain ⟨f1,f2,f3⟩:=fitsB_lits h2
  obtain ⟨k,pend,bits,beg⟩:=x
  dsimp only at *
  by_cases hpe:pend= []
  ·subst hpe
   simp only [show bs ([]:List UInt8)=(⟨#[]⟩:ByteArray) from rfl] at *
   by_cases hbe:bits= []
   ·subst hbe
    simp only [show bs ([]:List UInt8)=(⟨#[]⟩:ByteArray) from rfl] at *
    cases beg
    all_goals
     rw [show wrsB (⟨k,[],[],_⟩:WrD)=true from rfl]
     clear h1 h2 h3 hr hk hv f3
     simp only [kV,setV] at *
     go_enter Tryz.func15,Tryz.ntmps15
     go_wp2_with (first|(go_at_call 64;(with_reducible refine (cV _ (hrt _ (by (repeat (first|with_reducible exact Up.refl _|with_reducible assumption|with_reducible refine Up.alloc ?_ _|refine Up.trans ?_ (by with_reducible assumption)))))).mono ?_);rintro e w1 ⟨rfl,U1⟩;have B1:=bcell U1;have Z1:=U1.size;(try simp at Z1);(try rw [Nat.add_one_le_iff] at Z1))|(go_at_call 34;(with_reducible refine (cF _).mono ?_);rintro e w2 ⟨rfl,U2⟩;have B2:=bcell U2;have Z2:=U2.size;(try simp at Z2);(try rw [Nat.add_one_le_iff] at Z2))|(go_at_call 65;(with_reducible refine (cB _).mono ?_);rintro e w' ⟨rfl,rfl⟩)|fail)
     go_ret
     refine ⟨rfl,?_⟩
     (repeat (first|with_reducible exact Up.refl _|with_reducible assumption|with_reducible refine Up.alloc ?_ _|refine Up.trans ?_ (by with_reducible assumption)))
   ·have HBE:=isEmpty_bs hbe
    cases beg
    ·have HW:Hid (wrsB (⟨k,[],bits,false⟩:WrD)=false):=by unfold Hid wrsB;simp [hbe]
     rw [HW.out]
     clear h1 h2 h3 hr hk hv f3 hbe
     simp only [kV,setV] at *
     go_enter Tryz.func15,Tryz.ntmps15
     go_wp2_with (first|(go_at_call 64;(with_reducible refine (cV _ (hrt _ (by (repeat (first|with_reducible exact Up.refl _|with_reducible assumption|with_reducible refine Up.alloc ?_ _|refine Up.trans ?_ (by with_reducible assumption)))))).mono ?_);rintro e w1 ⟨rfl,U1⟩;have B1:=bcell U1;have Z1:=U1.size;(try simp at Z1);(try rw [Nat.add_one_le_iff] at Z1))|(go_at_call 34;(with_reducible refine (cF _).mono ?_);rintro e w2 ⟨rfl,U2⟩;have B2:=bcell U2;have Z2:=U2.size;(try simp at Z2);(try rw [Nat.add_one_le_iff] at Z2))|(go_at_call 65;(with_reducible refine (cB _).mono ?_);rintro e w' ⟨rfl,rfl⟩)|fail)
     go_ret
     refine ⟨rfl,?_⟩
     (repeat (first|with_reducible exact Up.refl _|with_reducible assumption|with_reducible refine Up.alloc ?_ _|refine Up.trans ?_ (by with_reducible assumption)))
    ·have HW:Hid (wrsB (⟨k,[],bits,true⟩:WrD)=true):=by unfold Hid wrsB;simp
     rw [HW.out]
     clear h1 h2 h3 hr hk hv f3 hbe
     simp only [kV,setV] at *
     go_enter Tryz.func15,Tryz.ntmps15
     go_wp2_with (first|(go_at_call 64;(with_reducible refine (cV _ (hrt _ (by (repeat (first|with_reducible exact Up.refl _|with_reducible assumption|with_reducible refine Up.alloc ?_ _|refine Up.trans ?_ (by with_reducible assumption)))))).mono ?_);rintro e w1 ⟨rfl,U1⟩;have B1:=bcell U1;have Z1:=U1.size;(try simp at Z1);(try rw [Nat.add_one_le_iff] at Z1))|(go_at_call 34;(with_reducible refine (cF _).mono ?_);rintro e w2 ⟨rfl,U2⟩;have B2:=bcell U2;have Z2:=U2.size;(try simp at Z2);(try rw [Nat.add_one_le_iff] at Z2))|(go_at_call 65;(with_reducible refine (cB _).mono ?_);rintro e w' ⟨rfl,rfl⟩)|fail)
     go_ret
     refine ⟨rfl,?_⟩
     (repeat (first|with_reducible exact Up.refl _|with_reducible assumption|with_reducible refine Up.alloc ?_ _|refine Up.trans ?_ (by with_reducible assumption)))
  ·have HPE:=isEmpty_bs hpe
   have hpos:=List.length_pos_iff.2 hpe
   cases beg
   ·have HW:Hid (wrsB (⟨k,pend,bits,false⟩:WrD)=false):=by unfold Hid wrsB;simp [hpe]
    rw [HW.out]
    clear h1 h2 h3 hr hk hv f3 hpe
    simp only [kV,setV] at *
    go_enter Tryz.func15,Tryz.ntmps15
    go_wp2_with (first|(go_at_call 64;(with_reducible refine (cV _ (hrt _ (by (repeat (first|with_reducible exact Up.refl _|with_reducible assumption|with_reducible refine Up.alloc ?_ _|refine Up.trans ?_ (by with_reducible assumption)))))).mono ?_);rintro e w1 ⟨rfl,U1⟩;have B1:=bcell U1;have Z1:=U1.size;(try simp at Z1);(try rw [Nat.add_one_le_iff] at Z1))|(go_at_call 34;(with_reducible refine (cF _).mono ?_);rintro e w2 ⟨rfl,U2⟩;have B2:=bcell U2;have Z2:=U2.size;(try simp at Z2);(try rw [Nat.add_one_le_iff] at Z2))|(go_at_call 65;(with_reducible refine (cB _).mono ?_);rintro e w' ⟨rfl,rfl⟩)|fail)
    go_ret
    refine ⟨rfl,?_⟩
    (repeat (first|with_reducible exact Up.refl _|with_reducible assumption|with_reducible refine Up.alloc ?_ _|refine Up.trans ?_ (by with_reducible assumption)))
   ·have cC:=fun wq hr=>codeWI_any k (.slice a k.ps.length cap) lo (bs pend) wq hk hv hr (by omega) (by omega) (by rw [bs_data];exact f3)
    rw [bs_data] at cC
    have HW:Hid (wrsB (⟨k,pend,bits,true⟩:WrD)=decide (k.longest pend=pend)):=by unfold Hid wrsB;simp [hpe]
    rw [HW.out]
    generalize decide (k.longest pend=pend)=ok at *
    generalize (if k.longest pend=pend then k.find pend else 0)=cd at *
    clear h1 h2 h3 hr hk hv f3 hpe HW
    simp only [kV,setV] at *
    go_enter Tryz.func15,Tryz.ntmps15
    go_wp2_with (first|(go_at_call 64;(with_reducible refine (cV _ (hrt _ (by (repeat (first|with_reducible exact Up.refl _|with_reducible assumption|with_reducible refine Up.alloc ?_ _|refine Up.trans ?_ (by with_reducible assumption)))))).mono ?_);rintro e w1 ⟨rfl,U1⟩;have B1:=bcell U1;have Z1:=U1.size;(try simp at Z1);(try rw [Nat.add_one_le_iff] at Z1))|(go_at_call 34;(with_reducible refine (cF _).mono ?_);rintro e w2 ⟨rfl,U2⟩;have B2:=bcell U2;have Z2:=U2.size;(try simp at Z2);(try rw [Nat.add_one_le_iff] at Z2))|(go_at_call 65;(with_reducible refine (cB _).mono ?_);rintro e w' ⟨rfl,rfl⟩)|(go_at_call 66;(with_reducible refine (cC _ (hrt _ (by (repeat (first|with_reducible exact Up.refl _|with_reducible assumption|with_reducible refine Up.alloc ?_ _|refine Up.trans ?_ (by with_reducible assumption)))))).mono ?_);rintro e w4 ⟨rfl,U4⟩;have B4:=bcell U4;have Z4:=U4.size;(try simp at Z4);(try rw [Nat.add_one_le_iff] at Z4))|fail)
    go_ret
    refine ⟨rfl,?_⟩
    (repeat (first|with_reducible exact Up.refl _|with_reducible assumption|with_reducible refine Up.alloc ?_ _|refine Up.trans ?_ (by with_reducible assumption)))
end Go.Proofs.YtekogcjdaolcbaaGreatDoor

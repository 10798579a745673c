/- Walks of the program's makeContainer and MakeContainer. Conditions: as each says. -/
import Derived.Test.YtnbmkoapohjnmaaGreatMc1
import Derived.Test.YtnbmkoapohjnmaaGreatSb
import Derived.Test.YtnbmkoapohjnmaaGreatShelf
namespace Go.Proofs.YtnbmkoapohjnmaaGreat
set_option linter.unusedVariables false
set_option linter.unusedSimpArgs false
open Go Go.RowKit

theorem IsSb.up {B b : Nat} {l : List Value} {w w' : World} (h : IsSb B b l w) (hu : Up w w') : IsSb B b l w' := by
  have hs : ∀ p, SbAt B b p l w → SbAt B b p l w' := fun p ⟨h1, v, h2, h3, h4⟩ => ⟨h1, v, box_up hu h2, ownsRow_up h3 hu, h4⟩
  exact h.imp (hs _) (hs _)
theorem IsSb.lt {B b : Nat} {l : List Value} {w : World} (h : IsSb B b l w) : b < w.heap.size := h.elim (fun h => h.lt) (fun h => h.lt)
theorem strCells_bs9 (l : List UInt8) : Lib.strCells (bs l) = Lib.byteCells l := by simp [Lib.strCells, Lib.byteCells, bs_data]
theorem byteCells_app (a b : List UInt8) : Lib.byteCells a ++ Lib.byteCells b = Lib.byteCells (a ++ b) := by simp [Lib.byteCells]
theorem isSb_new (w : World) : IsSb w.heap.size w.heap.size (Lib.byteCells []) (w.alloc (.cells #[.pointer none, .slice none 0 0] 76)) :=
  .inl ⟨Nat.le_refl _, _, (MapKept.heap_alloc w _).1, World.ownsRow_nil _ _ _ _, by simp [Value.ownBlock]⟩
/-- What String gives. -/
theorem sbString_any (B b : Nat) (l : List UInt8) (w : World) (h : IsSb B b (Lib.byteCells l) w) (hB : B ≤ w.heap.size) :
    Calls Tryz.prog 47 #[.pointer (some ⟨b, 0, none⟩)] w (fun e w' => e = .returned (.string (bs l)) ∧ Below B w w') :=
  (Tryz.Builder_String_any_f B b l w (Lib.IsBuilderF.of h) hB).mono fun e w' ⟨he, h1, h2⟩ => ⟨he, h2⟩

/-- The bytes of blocks with new numbers. -/
def numbT (i : Nat) : List BlkD → List UInt8
  | [] => []
  | b :: l => (textB i b.raw b.size b.body).data.toList ++ numbT (i + 1) l
/-- Blocks that may stand in a container. -/
structure McOk (l : List BlkD) : Prop where
  acc : accOk l
  sum : sizeSum l ≤ 2000
  form : ∀ (i : Nat) (h : i < l.length), formB (i : Nat) (l[i]).raw (l[i]).size (l[i]).body = true
theorem textB_sz (n : Int) (r : Bool) (s : Int) (b : ByteArray) : (textB n r s b).size = 10 + b.size := by
  simp [textB, inner, strOfNums_size, two_size]
  omega
/-- A row of blocks that can be read. -/
def RdB (w : World) (v : Value) (l : List BlkD) : Prop := ∃ a cap, v = .slice a l.length cap ∧ l.length ≤ cap ∧ cap ≤ maxLen ∧ (0 < l.length → ∃ g, a = some ⟨g, 0, none⟩ ∧ g < w.heap.size ∧ ∀ i (h : i < l.length), w.cell? ⟨g, i * 4, none⟩ = some (.int .i64 (l[i]).num) ∧ w.cell? ⟨g, i * 4 + 1, none⟩ = some (.bool (l[i]).raw) ∧ w.cell? ⟨g, i * 4 + 2, none⟩ = some (.int .i64 (l[i]).size) ∧ w.cell? ⟨g, i * 4 + 3, none⟩ = some (.string (l[i]).body))
theorem RdB.low {w w' : World} {v : Value} {l : List BlkD} (h : RdB w v l) (hb : Below w.heap.size w w') : RdB w' v l := by
  obtain ⟨a, cap, h1, h2, h3, h4⟩ := h
  refine ⟨a, cap, h1, h2, h3, fun hp => ?_⟩
  obtain ⟨g, e1, e2, e3⟩ := h4 hp
  refine ⟨g, e1, Nat.lt_of_lt_of_le e2 hb.size, fun i hi => ?_⟩
  obtain ⟨c0, c1, c2, c3⟩ := e3 i hi
  exact ⟨(hb.cell (p := ⟨g, _, none⟩) e2).trans c0, (hb.cell (p := ⟨g, _, none⟩) e2).trans c1, (hb.cell (p := ⟨g, _, none⟩) e2).trans c2, (hb.cell (p := ⟨g, _, none⟩) e2).trans c3⟩
theorem RdB.of_own {w : World} {base : Nat} {v : Value} {l : List BlkD} (h : ownB w base v l) : RdB w v l := by
  obtain ⟨a, cap, rfl, hm, hsome⟩ := ownsRow_any h
  by_cases hp : 0 < l.length
  · obtain ⟨g, rfl, hnc, hcm, hbg, hg, hcells⟩ := hsome hp
    refine ⟨_, cap, rfl, hnc, hcm, fun _ => ⟨g, rfl, hg, fun i hi => ?_⟩⟩
    exact blk_cells (w := w) hcells hi
  · have hcp := ownsRow_cap h
    exact ⟨_, cap, rfl, hcp.1, by unfold maxLen; exact hcp.2, fun h => absurd h hp⟩

structure McAt (T : List UInt8) (l : List BlkD) (w1 : World) (j : Nat) (acc : List UInt8) (wr : World) : Prop where
  le : j ≤ l.length
  tot : acc ++ numbT j (l.drop j) = T
  al : acc.length ≤ 74 * j
  sb : IsSb w1.heap.size w1.heap.size (Lib.byteCells acc) wr
  up : Up w1 wr
def RelMc (T : List UInt8) (l : List BlkD) (w1 : World) (i : Value) (wr : World) : Prop := ∃ (j : Nat) (acc : List UInt8), i = .int .i64 j ∧ McAt T l w1 j acc wr

set_option maxRecDepth 100000 in
set_option maxHeartbeats 8000000 in
theorem makeContI_any (l : List BlkD) (v : Value) (base : Nat) (w : World) (hown : ownB w base v l) (hok : McOk l) :
    Calls Tryz.prog 24  #[v] w (Same (.tuple #[.string (bs (numbT 0 l)), .bool true]) w) := by
  have cZ := fun wx hx => sizeI_any l v base wx hx hok.acc
  have hrd := RdB.of_own hown
  have hsum := hok.sum
  have hl40 := hok.acc.1
  have HOK := Lib.hid hok
  have HRD := Lib.hid hrd
  have hlow := fun (wq : World) (hu : Up w wq) => ownsRow_up hown hu
  obtain ⟨T, HT⟩ : ∃ T, Hid (numbT 0 l = T) := ⟨_, rfl⟩
  rw [HT.out]
  obtain ⟨a, cap, rfl, hnc, hcm, -⟩ := hrd
  unfold maxLen at hcm
  clear hok hown
  go_enter Tryz.func24, Tryz.ntmps24
  go_wp2_with ((go_at_call 44; (with_reducible refine (cZ _ (hlow _ (by (repeat (first | with_reducible exact Up.refl _ | with_reducible assumption | with_reducible refine Up.set ?_ (by first | exact Nat.le_refl _ | (simp only []; omega) | (simp; omega)) _ | with_reducible refine Up.alloc ?_ _ | with_reducible refine Up.drew ?_ | refine Up.trans ?_ (by with_reducible assumption)))))).mono ?_); rintro e w1 ⟨rfl, U1⟩; have B1 := bcell U1; have Z1 := U1.size; (try simp at Z1); (try rw [Nat.add_one_le_iff] at Z1)))
  have HW1 := Lib.hid (HRD.out.low (show Below w.heap.size w w1 by (repeat (first | with_reducible exact Up.refl _ | with_reducible assumption | with_reducible refine Up.set ?_ (by first | exact Nat.le_refl _ | (simp only []; omega) | (simp; omega)) _ | with_reducible refine Up.alloc ?_ _ | with_reducible refine Up.drew ?_ | refine Up.trans ?_ (by with_reducible assumption)))))
  have hUw : Up w w1 := by (repeat (first | with_reducible exact Up.refl _ | with_reducible assumption | with_reducible refine Up.set ?_ (by first | exact Nat.le_refl _ | (simp only []; omega) | (simp; omega)) _ | with_reducible refine Up.alloc ?_ _ | with_reducible refine Up.drew ?_ | refine Up.trans ?_ (by with_reducible assumption)))
  have HUW := Lib.hid hUw
  clear hUw hlow U1 B1 Z1
  go_loopw [19] (fun i wr => RelMc T l w1 i wr) (fun i _ => l.length - (intOf i).toNat)
  case atStart => exact ⟨0, [], rfl, ⟨Nat.zero_le _, by rw [List.drop_zero, List.nil_append]; exact HT.out, by simp, isSb_new w1, (Up.refl _).alloc _⟩⟩
  case round =>
    obtain ⟨j, acc, rfl, hM⟩ := hrel
    have HM := Lib.hid hM
    have hj := hM.le
    have hal := hM.al
    have hsbl := hM.sb.lt
    clear hM
    by_cases hlt : j < l.length
    · obtain ⟨a9, cap9, e9, -, -, hc9⟩ := HW1.out.low HM.out.up
      cases e9
      obtain ⟨g, rfl, hg, hcell⟩ := hc9 (by omega)
      obtain ⟨c0, c1, c2, c3⟩ := hcell j hlt
      have hfj := HOK.out.form j hlt
      obtain ⟨hb1, hb2, hb3⟩ := HOK.out.acc.2 _ (List.getElem_mem hlt)
      have HTT : Hid (acc ++ (textB j (l[j]).raw (l[j]).size (l[j]).body).data.toList ++ numbT (j + 1) (l.drop (j + 1)) = T) := by
        have := HM.out.tot
        rw [List.drop_eq_getElem_cons hlt] at this
        rw [List.append_assoc]
        exact this
      have hts := textB_sz j (l[j]).raw (l[j]).size (l[j]).body
      have cF := fun wx => fmtI_any j (l[j]).raw (l[j]).size (l[j]).body wx (by omega)
      unfold fmtB at cF
      rw [hfj] at cF
      simp only [if_true] at cF
      clear hcell hfj
      generalize textB j (l[j]).raw (l[j]).size (l[j]).body = tx at *
      generalize hbj : l[j] = bj at *
      obtain ⟨bn, br, bz, bb⟩ := bj
      simp only at c0 c1 c2 c3 cF hb1 hb2 hb3 hts HTT
      have htz : tx.size ≤ 74 := by omega
      clear hbj hts
      have cW := fun wx hx hb => sbWrite_any w1.heap.size w1.heap.size (Lib.byteCells acc) tx wx hx (by rw [Lib.byteCells_length]; omega) hb
      go_wp2_with ((go_at_call 45; (with_reducible refine (cF _).mono ?_); rintro e w5 ⟨rfl, U5⟩; have B5 := bcell U5; have Z5 := U5.size; (try simp at Z5); (try rw [Nat.add_one_le_iff] at Z5)))
      have hU5 : Up wr w5 := by (repeat (first | with_reducible exact Up.refl _ | with_reducible assumption | with_reducible refine Up.set ?_ (by first | exact Nat.le_refl _ | (simp only []; omega) | (simp; omega)) _ | with_reducible refine Up.alloc ?_ _ | with_reducible refine Up.drew ?_ | refine Up.trans ?_ (by with_reducible assumption)))
      (with_reducible refine (cW _ (HM.out.sb.up hU5) (by have := HM.out.up.size; have := hU5.size; omega)).mono ?_)
      rintro e w6 ⟨rfl, h6, hb6⟩
      have hU6 : Up w1 w6 := Below.trans (HM.out.up.trans hU5) hb6
      have HS6 : Hid (IsSb w1.heap.size w1.heap.size (Lib.byteCells (acc ++ tx.data.toList)) w6) := by
        have h7 := h6
        rw [show Lib.strCells tx = Lib.byteCells tx.data.toList from rfl, byteCells_app] at h7
        exact .inr h7
      clear h6 hb6
      go_wp2
      go_roundw
      case rel => exact ⟨j + 1, acc ++ tx.data.toList, by go_num, ⟨by omega, HTT.out, by rw [List.length_append]; have := ba_len tx; omega, HS6.out, hU6⟩⟩
      case measure => simp [intOf]; omega
    · have e : j = l.length := by omega
      have HE : Hid (acc = T) := by
        have := HM.out.tot
        rw [e, List.drop_length] at this
        have h9 : acc = T := by simpa [numbT] using this
        exact h9
      have cS := fun wx hx hb => sbString_any w1.heap.size w1.heap.size acc wx hx hb
      go_wp2_with fail
      (with_reducible refine (cS _ HM.out.sb HM.out.up.size).mono ?_)
      rintro e w7 ⟨rfl, hb7⟩
      have hU7 : Up w w7 := HUW.out.trans (Below.trans HM.out.up hb7)
      go_wp2
      refine bodyPost_ret (v := .tuple #[.string (bs acc), .bool true]) (by simp [results, Tryz.results24, go_sem]; try rfl) rfl ⟨by rw [HE.out], hU7⟩

/-- The numbered texts of the blocks of data are the reference's container. -/
theorem numbT_blks {s : SetD} {dict : List UInt8} (h : fitsB s dict = true) (size : Nat) : ∀ (n i : Nat) (d : List UInt8), numbT i (blksN (learnK (startK s) dict) size n d) = makeN s dict size n i d
  | 0, _, _ => rfl
  | n + 1, i, d => by
    by_cases hd : d = []
    · subst hd; rw [blksN_nil, makeN_nil]; rfl
    · rw [blksN_step hd, makeN_step hd, numbT, numbT_blks h size n (i + 1), blockD_mk h, bs_data]
      rfl
theorem blksN_ok (k : KnD) {size : Nat} (h1 : 1 ≤ size) (h2 : size ≤ 64) : ∀ (n : Nat) (d : List UInt8), d.length ≤ n → (∀ b ∈ blksN k size n d, 1 ≤ b.size ∧ b.size ≤ 64 ∧ b.body.size ≤ 64 ∧ (b.raw = true → (b.body.size : Int) = b.size) ∧ (b.raw = false → 1 ≤ b.body.size → (b.body.size : Int) < b.size)) ∧ sizeSum (blksN k size n d) = d.length ∧ (blksN k size n d).length * size < d.length + size
  | 0, d, hd => by
    have : d = [] := List.length_eq_zero_iff.1 (by omega)
    subst this
    exact ⟨by simp [blksN], rfl, by simp [blksN]; omega⟩
  | n + 1, d, hd => by
    by_cases he : d = []
    · subst he; rw [blksN_nil]; exact ⟨by simp, rfl, by simp; omega⟩
    · have hp := List.length_pos_iff.2 he
      obtain ⟨i1, i2, i3⟩ := blksN_ok k h1 h2 n (d.drop size) (by rw [List.length_drop]; omega)
      rw [blksN_step he]
      obtain ⟨m1, m2, m3⟩ := mkB_bd (compO k (d.take size)) (bs (d.take size))
      have htl : (bs (d.take size)).size = min size d.length := by rw [bs_size, List.length_take]
      refine ⟨fun b hb => ?_, ?_, ?_⟩
      · rcases List.mem_cons.1 hb with rfl | hb
        · refine ⟨by omega, by omega, by omega, ?_, ?_⟩
          · unfold mkB
            split
            · split
              · intro h; cases h
              · intro _; rfl
            · intro _; rfl
          · unfold mkB
            split
            · split
              · intro _ _; rw [bs_size]; show (_ : Int) < ((bs (d.take size)).size : Int); omega
              · intro h; cases h
            · intro h; cases h
        · exact i1 b hb
      · have : sizeSum (mkB (compO k (d.take size)) (bs (d.take size)) :: blksN k size n (d.drop size)) = (mkB (compO k (d.take size)) (bs (d.take size))).size + sizeSum (blksN k size n (d.drop size)) := by simp [sizeSum]
        rw [this, i2, m2, htl, List.length_drop]; omega
      · rw [List.length_cons, Nat.succ_mul]
        rw [List.length_drop] at i3
        by_cases hs : size ≤ d.length
        · omega
        · have h0 : (blksN k size n (d.drop size)).length = 0 := by
            rw [List.drop_of_length_le (by omega), blksN_nil]; rfl
          rw [h0]; omega

theorem compL_pos {k : KnD} {d : List UInt8} (h : k.Ok) (hl : ∀ b ∈ d, b.toNat < k.c) (hd : d.length ≤ 2000) : 1 ≤ (compL k d).length := by
  obtain ⟨g1, g2, g3, g4, g5⟩ := walk_greedy h hl hd
  unfold compL
  rw [packL_length]
  have hg : greedy k d = (k.c : Int) :: greedyN d.length k.cleared d := rfl
  generalize (walkN k (greedy k d) [] []).ws = ws at *
  cases ws with
  | nil => rw [hg] at g1; simp at g1
  | cons w ws =>
    have hw := g4 w (List.mem_cons_self ..)
    rw [hg]
    simp only [packC, List.length_append, codeL_length]
    omega
theorem mkB_pos {k : KnD} (h : k.Ok) {x : List UInt8} (hx : 1 ≤ x.length) : 1 ≤ (mkB (compO k x) (bs x)).body.size := by
  unfold mkB compO
  split
  · next c hc =>
    split at hc
    · next hf =>
      cases hc
      obtain ⟨e1, e2, e3⟩ := fitsB_lits hf
      split
      · show 1 ≤ (bs (compL k x)).size
        rw [bs_size]
        exact compL_pos h e3 e2
      · show 1 ≤ (bs x).size
        rw [bs_size]; exact hx
    · cases hc
  · show 1 ≤ (bs x).size
    rw [bs_size]; exact hx
theorem blksN_pos {k : KnD} (h : k.Ok) {size : Nat} (h1 : 1 ≤ size) : ∀ (n : Nat) (d : List UInt8), ∀ b ∈ blksN k size n d, 1 ≤ b.body.size
  | 0, d, b, hb => by simp [blksN] at hb
  | n + 1, d, b, hb => by
    by_cases he : d = []
    · subst he; rw [blksN_nil] at hb; simp at hb
    · rw [blksN_step he] at hb
      rcases List.mem_cons.1 hb with rfl | hb
      · refine mkB_pos h ?_
        have := List.length_pos_iff.2 he
        rw [List.length_take]; omega
      · exact blksN_pos h h1 n _ b hb
theorem blks_mc {k : KnD} (h : k.Ok) {size : Nat} (h1 : 1 ≤ size) (h2 : size ≤ 64) {L : List UInt8} (hL : L.length ≤ 2000) (h40 : L.length ≤ 40 * size) : McOk (blksN k size L.length L) := by
  obtain ⟨i1, i2, i3⟩ := blksN_ok k h1 h2 L.length L (Nat.le_refl _)
  have hp := blksN_pos h h1 L.length L
  have hlen : (blksN k size L.length L).length ≤ 40 := by
    have h41 : (blksN k size L.length L).length * size < 41 * size := by omega
    have := Nat.lt_of_mul_lt_mul_right h41
    omega
  refine ⟨⟨hlen, fun b hb => ⟨(i1 b hb).1, (i1 b hb).2.1, (i1 b hb).2.2.1⟩⟩, by omega, fun i hi => ?_⟩
  have hb := List.getElem_mem hi
  obtain ⟨a1, a2, a3, a4, a5⟩ := i1 _ hb
  have a6 := hp _ hb
  generalize (blksN k size L.length L)[i] = B at *
  obtain ⟨bn, br, bz, bb⟩ := B
  simp only at a1 a2 a3 a4 a5 a6 ⊢
  unfold formB
  rw [Bool.and_eq_true, Bool.and_eq_true]
  refine ⟨⟨inB_iff.2 ⟨by omega, by omega⟩, inB_iff.2 ⟨a1, a2⟩⟩, ?_⟩
  cases br
  · simp only [Bool.false_eq_true, if_false]
    have := a5 rfl a6
    exact inB_iff.2 ⟨by omega, by omega⟩
  · simp only [if_true]
    simpa using a4 rfl

set_option maxRecDepth 100000 in
set_option maxHeartbeats 4000000 in
theorem makeContainerI_any (s : SetD) (dict d : ByteArray) (size : Int) (w : World) (hli : -9223372036854775808 ≤ s.lit ∧ s.lit ≤ 9223372036854775807) (hi : dict.size ≤ 1073741824) (hd : d.size ≤ 1073741824) (hz : -9223372036854775808 ≤ size ∧ size ≤ 9223372036854775807) :
    Calls Tryz.prog 9  #[setV s, .string dict, .string d, .int .i64 size] w (Same (optS (mkO s dict.data.toList d.data.toList size)) w) := by
  have cS := fun wx => startWI_any s dict wx hli hi
  have cZ := fun wx => sizeVI_any size wx
  have hdl := ba_len d
  cases h1 : fitsB s dict.data.toList
  · rw [mkO_none (by unfold mkOk; rw [h1]; rfl), optS_none]
    rw [h1] at cS
    simp only [Bool.false_eq_true, if_false] at cS
    clear h1 hdl
    simp only [setV] at *
    go_enter Tryz.func9, Tryz.ntmps9
    go_wp2_with ((go_at_call 22; (with_reducible refine (cS _).mono ?_); rintro e w1 ⟨rfl, U1⟩; have B1 := bcell U1; have Z1 := U1.size; (try simp at Z1); (try rw [Nat.add_one_le_iff] at Z1)))
    go_ret2
    refine ⟨rfl, ?_⟩
    (repeat (first | with_reducible exact Up.refl _ | with_reducible assumption | with_reducible refine Up.set ?_ (by first | exact Nat.le_refl _ | (simp only []; omega) | (simp; omega)) _ | with_reducible refine Up.alloc ?_ _ | with_reducible refine Up.drew ?_ | refine Up.trans ?_ (by with_reducible assumption)))
  · rw [h1] at cS
    simp only [if_true] at cS
    cases h2 : inB size 1 64
    · rw [mkO_none (by unfold mkOk; rw [h1, h2]; rfl), optS_none]
      rw [h2] at cZ
      clear h1 h2 hdl
      simp only [setV, kV] at *
      go_enter Tryz.func9, Tryz.ntmps9
      go_wp2_with (first | (go_at_call 22; (with_reducible refine (cS _).mono ?_); rintro e w1 ⟨v1, rfl, ho1, U1⟩; obtain ⟨a1, c1, rfl⟩ := ownsRow_shape ho1; clear ho1) | (go_at_call 23; (with_reducible refine (cZ _).mono ?_); rintro e w' ⟨rfl, rfl⟩))
      go_ret2
      refine ⟨rfl, ?_⟩
      (repeat (first | with_reducible exact Up.refl _ | with_reducible assumption | with_reducible refine Up.set ?_ (by first | exact Nat.le_refl _ | (simp only []; omega) | (simp; omega)) _ | with_reducible refine Up.alloc ?_ _ | with_reducible refine Up.drew ?_ | refine Up.trans ?_ (by with_reducible assumption)))
    · obtain ⟨b1, b2⟩ := inB_iff.1 h2
      rw [h2] at cZ
      by_cases h4 : d.size ≤ 2000
      · have h4' : ¬ (2000 : Int) < (d.size : Int) := by omega
        by_cases h3 : (d.size : Int) ≤ size * 40
        · obtain ⟨z, rfl⟩ := Int.eq_ofNat_of_zero_le (by omega : 0 ≤ size)
          have h3' : ¬ (40 * (z : Int)) < (d.size : Int) := by omega
          have HE : Hid (optS (mkO s dict.data.toList d.data.toList (z : Int)) = .tuple #[.string (bs (numbT 0 (blksN (learnK (startK s) dict.data.toList) z d.size d.data.toList))), .bool true]) := by
            unfold Hid mkO mkOk
            rw [h1, h2, hdl, decide_eq_true h3, decide_eq_true h4, numbT_blks h1]; rfl
          rw [HE.out]
          obtain ⟨f1, f2, f3⟩ := fitsB_lits h1
          have hok : (learnK (startK s) dict.data.toList).Ok := learnK_ok (startK_ok f1) f3
          have cM := fun wx v hr => makeBlocksI_any (learnK (startK s) dict.data.toList) v 0 d.data.toList z wx hok (fun _ => rfl) hr (by omega) (by omega) (by omega)
          have hmc := blks_mc hok (size := z) (by omega) (by omega) (L := d.data.toList) (by omega) (by omega)
          rw [bs_self, hdl] at cM
          rw [hdl] at hmc
          clear h1 h2 HE f1 f2 f3 hok hdl
          generalize learnK (startK s) dict.data.toList = kk at *
          generalize blksN kk z d.size d.data.toList = bl at *
          have cC := fun wx v hx => makeContI_any bl v 0 wx hx hmc
          simp only [setV, kV] at *
          go_enter Tryz.func9, Tryz.ntmps9
          go_wp2_with (first | (go_at_call 22; (with_reducible refine (cS _).mono ?_); rintro e w1 ⟨v1, rfl, ho1, U1⟩; have HR1 := Lib.hid ((RdP.of_own ho1).low (Nat.zero_le _)); obtain ⟨a1, c1, rfl⟩ := ownsRow_shape ho1; clear ho1) | (go_at_call 23; (with_reducible refine (cZ _).mono ?_); rintro e w' ⟨rfl, rfl⟩) | (go_at_call 25; (with_reducible refine (cM _ _ (HR1.out.up (by (repeat (first | with_reducible exact Up.refl _ | with_reducible assumption | with_reducible refine Up.set ?_ (by first | exact Nat.le_refl _ | (simp only []; omega) | (simp; omega)) _ | with_reducible refine Up.alloc ?_ _ | with_reducible refine Up.drew ?_ | refine Up.trans ?_ (by with_reducible assumption)))))).mono ?_); rintro e w2 ⟨vb, rfl, hob, U2⟩; have HOB := Lib.hid (ownsRow_base hob (Nat.zero_le _)); clear hob) | (go_at_call 24; (with_reducible refine (cC _ _ HOB.out).mono ?_); rintro e w3 ⟨rfl, U3⟩))
          go_ret2
          refine ⟨rfl, ?_⟩
          (repeat (first | with_reducible exact Up.refl _ | with_reducible assumption | with_reducible refine Up.set ?_ (by first | exact Nat.le_refl _ | (simp only []; omega) | (simp; omega)) _ | with_reducible refine Up.alloc ?_ _ | with_reducible refine Up.drew ?_ | refine Up.trans ?_ (by with_reducible assumption)))
        · rw [mkO_none (by unfold mkOk; rw [h1, h2, hdl, decide_eq_false h3, Bool.false_and]; rfl), optS_none]
          have h3' : 40 * size < (d.size : Int) := by omega
          clear h1 h2 hdl h3
          simp only [setV, kV] at *
          go_enter Tryz.func9, Tryz.ntmps9
          go_wp2_with (first | (go_at_call 22; (with_reducible refine (cS _).mono ?_); rintro e w1 ⟨v1, rfl, ho1, U1⟩; obtain ⟨a1, c1, rfl⟩ := ownsRow_shape ho1; clear ho1) | (go_at_call 23; (with_reducible refine (cZ _).mono ?_); rintro e w' ⟨rfl, rfl⟩))
          go_ret2
          refine ⟨rfl, ?_⟩
          (repeat (first | with_reducible exact Up.refl _ | with_reducible assumption | with_reducible refine Up.set ?_ (by first | exact Nat.le_refl _ | (simp only []; omega) | (simp; omega)) _ | with_reducible refine Up.alloc ?_ _ | with_reducible refine Up.drew ?_ | refine Up.trans ?_ (by with_reducible assumption)))
      · rw [mkO_none (by unfold mkOk; rw [h1, h2, hdl, decide_eq_false h4, Bool.and_false]; rfl), optS_none]
        have h4' : (2000 : Int) < (d.size : Int) := by omega
        clear h1 h2 hdl h4
        simp only [setV, kV] at *
        go_enter Tryz.func9, Tryz.ntmps9
        go_wp2_with (first | (go_at_call 22; (with_reducible refine (cS _).mono ?_); rintro e w1 ⟨v1, rfl, ho1, U1⟩; obtain ⟨a1, c1, rfl⟩ := ownsRow_shape ho1; clear ho1) | (go_at_call 23; (with_reducible refine (cZ _).mono ?_); rintro e w' ⟨rfl, rfl⟩))
        go_ret2
        refine ⟨rfl, ?_⟩
        (repeat (first | with_reducible exact Up.refl _ | with_reducible assumption | with_reducible refine Up.set ?_ (by first | exact Nat.le_refl _ | (simp only []; omega) | (simp; omega)) _ | with_reducible refine Up.alloc ?_ _ | with_reducible refine Up.drew ?_ | refine Up.trans ?_ (by with_reducible assumption)))

end Go.Proofs.YtnbmkoapohjnmaaGreat

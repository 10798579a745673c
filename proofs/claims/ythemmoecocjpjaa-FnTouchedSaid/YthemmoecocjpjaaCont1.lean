/- Walk of the program's ContainerBlocks. Conditions: the string's length is below 2^30. -/
import Derived.Test.YthemmoecocjpjaaCont2
namespace Go.Proofs.Ythemmoecocjpjaa
set_option linter.unusedVariables false
set_option linter.unusedSimpArgs false
open Go.RowKit

theorem infoBlock : (Try.prog.info? 24).map (fun i => (i.zero, i.size, i.bytes)) = some (some (.agg #[.int .i64 0, .bool false, .int .i64 0, .string ⟨#[]⟩]), 4, 40) := by kernel_rfl

/-- What ContainerBlocks leaves: a row of its own with the blocks (none, where the string is no container). -/
def ContPost (s : ByteArray) (w : World) (e : Ending) (w' : World) : Prop := ∃ v, e = .returned (.tuple #[v, .bool (contBlocks s).isSome]) ∧ w'.ownsRow w.heap.size 24 4 v ((contBlocks s).getD []).length (cellsB ((contBlocks s).getD [])) ∧ Up w w'
theorem contPost_none {s : ByteArray} {w w' : World} {e : Ending} (h : contBlocks s = none) (v : Value) (he : e = .returned (.tuple #[v, .bool false])) (ho : w'.ownsRow w.heap.size 24 4 v 0 []) (hu : Up w w') : ContPost s w e w' := by
  refine ⟨v, ?_, ?_, hu⟩
  · rw [he, h]; rfl
  · rw [h]; exact ho
theorem contPost_some {s : ByteArray} {w w' : World} {e : Ending} {l : List BlkD} (h : contBlocks s = some l) (v : Value) (he : e = .returned (.tuple #[v, .bool true])) (ho : w'.ownsRow w.heap.size 24 4 v l.length (cellsB l)) (hu : Up w w') : ContPost s w e w' := by
  refine ⟨v, ?_, ?_, hu⟩
  · rw [he, h]; rfl
  · rw [h]; exact ho

/-- What holds at the head of the loop. -/
def RelC (s : ByteArray) (w : World) (v i : Value) (wr : World) : Prop := ∃ k acc, k ≤ s.size ∧ i = .int .i64 (k : Nat) ∧ wr.ownsRow w.heap.size 24 4 v (acc : List BlkD).length (cellsB acc) ∧ Up w wr ∧ goBlocks s k acc = goBlocks s 0 [] ∧ accOk acc

theorem parsed_blk (s : ByteArray) (k : Nat) : parsed s k = .tuple #[blkV (blkAt s k), .int .i64 (endAt s k + 2 : Nat), .bool true] := rfl

theorem cont_none {s : ByteArray} {k : Nat} {acc : List BlkD} (hg : goBlocks s k acc = goBlocks s 0 []) (h : k < s.size) (hp : ¬ (parseOk s k = true ∧ numAt s (k + 2) = acc.length)) : contBlocks s = none := by
  unfold contBlocks
  rw [← hg, go_fail h hp]; rfl
theorem cont_end {s : ByteArray} {k : Nat} {acc : List BlkD} (hg : goBlocks s k acc = goBlocks s 0 []) (h : ¬ k < s.size) : contBlocks s = if sizeSum acc ≤ 2000 then some acc else none := by
  unfold contBlocks
  rw [← hg, go_end h]; rfl

set_option maxRecDepth 100000 in
set_option maxHeartbeats 2000000 in
theorem contI_any (s : ByteArray) (w : World) (hs : s.size ≤ 1073741824) :
    Calls Try.prog 22 #[.string s] w (ContPost s w) := by
  obtain ⟨i0, hi, hz0, hz1, hz2⟩ := info_parts infoBlock
  have hs' : s.size ≤ 9223372036854775807 := by omega
  go_enter Try.func22, Try.ntmps22
  go_wp2
  go_loopw [4, 5] (fun v i wr => RelC s w v i wr) (fun _ i _ => s.size - (intOf i).toNat)
  case atStart => exact ⟨0, [], Nat.zero_le _, rfl, World.ownsRow_nil _ _ _ _, Up.refl _, rfl, accOk_nil⟩
  case round =>
    obtain ⟨k, acc, hk, rfl, hown, hup, hgo, hok⟩ := hrel
    obtain ⟨a4, c4, rfl⟩ := ownsRow_shape hown
    have HG := Lib.hid hgo
    clear hgo
    have hl40 := hok.1
    obtain ⟨hb1, hb2⟩ := sizeSum_bd hok
    have hb3 : sizeSum acc ≤ 2560 := by omega
    clear hb2
    have hsz := hup.size
    by_cases hlt : k < s.size
    · cases hp : parseOk s k
      · have HC : Hid (contBlocks s = none) := cont_none HG.out hlt (by rw [hp]; simp)
        have cP := fun w => parseI_any s k w hs
        rw [parseV_not hp] at cP
        unfold noBlock at cP
        clear hp
        go_wp2_with ((go_at_call 17; (with_reducible refine (cP _).mono ?_); rintro e w1 ⟨rfl, U1⟩; have B1 := bcell U1; have Z1 := U1.size; (try simp at Z1); (try rw [Nat.add_one_le_iff] at Z1)))
        go_ret2
        exact contPost_none HC.out _ rfl (World.ownsRow_nil _ _ _ _) ((hup.trans U1).alloc _)
      · have cP := fun w => parseI_any s k w hs
        have hb := (formB_bd (parseOk_form hp).2.2)
        have hE := (parseOk_form hp).2.1
        have hkk := endAt_lt s k
        rw [parseV_yes hp, parsed_blk] at cP
        by_cases hn : numAt s (k + 2) = acc.length
        · have hsn := go_step hlt hp hn
          have hoks := accOk_snoc hok hp hn
          have hnum : (blkAt s k).num = acc.length := hn
          generalize hbk : blkAt s k = B at *
          obtain ⟨num, raw, size, body⟩ := B
          generalize hek : endAt s k + 2 = k' at *
          simp only at hnum
          subst hnum
          obtain ⟨hz, hz', _⟩ := hoks.2 _ (List.mem_append_right _ (List.mem_singleton.2 rfl))
          simp only at hz hz'
          have HSS : Hid (sizeSum (acc ++ [⟨acc.length, raw, size, body⟩]) = sizeSum acc + size) := sizeSum_snoc _ _
          unfold blkV at cP
          have HS := Lib.hid hsn
          clear hsn hp hn hb hek hbk
          go_wp2_with (first | (go_at_call 17; (with_reducible refine (cP _).mono ?_); rintro e w1 ⟨rfl, U1⟩; have B1 := bcell U1; have Z1 := U1.size; (try simp at Z1); (try rw [Nat.add_one_le_iff] at Z1)) | (at_builtin; refine wpList_append_own _ rfl _ _ 36 rfl w.heap.size 24 i0 (.agg #[.int .i64 0, .bool false, .int .i64 0, .string ⟨#[]⟩]) 4 40 Try.underlying36 hi hz0 hz1 hz2 rfl (by decide) _ _ _ rfl (((ownsRow_up hown U1).alloc _).alloc _) ⟨w1.heap.size + 1, 0, none⟩ 1 1 (blkC ⟨acc.length, raw, size, body⟩) rfl rfl (new_cells (blkC ⟨acc.length, raw, size, body⟩) _ (size_alloc _ _).symm) (blkC_one _) (by unfold maxLen; omega) (by omega) (by simp; omega) ?_; rintro v2 w2 hown2 hgr2 -))
          go_roundw
          case rel => exact ⟨k', acc ++ [⟨acc.length, raw, size, body⟩], hE, rfl, by simpa [cellsB_snoc] using hown2, (((hup.trans U1).alloc _).alloc _).grown hgr2 (fun x hx => (hown.lt x hx).1), HS.out.trans HG.out, hoks⟩
          case measure => simp [intOf]; omega
        · have HC : Hid (contBlocks s = none) := cont_none HG.out hlt (fun h => hn h.2)
          have hnum : (blkAt s k).num ≠ acc.length := hn
          generalize hbk : blkAt s k = B at *
          obtain ⟨num, raw, size, body⟩ := B
          simp only at hnum
          unfold blkV at cP
          clear hp hn hb hbk hE
          go_wp2_with ((go_at_call 17; (with_reducible refine (cP _).mono ?_); rintro e w1 ⟨rfl, U1⟩; have B1 := bcell U1; have Z1 := U1.size; (try simp at Z1); (try rw [Nat.add_one_le_iff] at Z1)))
          go_ret2
          exact contPost_none HC.out _ rfl (World.ownsRow_nil _ _ _ _) ((hup.trans U1).alloc _)
    · have HE := Lib.hid (cont_end HG.out hlt)
      by_cases hsum : sizeSum acc ≤ 2000
      all_goals
        go_wp2_with ((go_at_call 66; (with_reducible refine (sizeI_any acc _ _ _ hown hok).mono ?_); rintro e w1 ⟨rfl, U1⟩; have B1 := bcell U1; have Z1 := U1.size; (try simp at Z1); (try rw [Nat.add_one_le_iff] at Z1)))
        go_ret2
        first | exact contPost_some (HE.out.trans (if_pos hsum)) _ rfl (ownsRow_up hown U1) (hup.trans U1) | exact contPost_none (HE.out.trans (if_neg (by omega))) _ rfl (World.ownsRow_nil _ _ _ _) (hup.trans U1)

end Go.Proofs.Ythemmoecocjpjaa

/- Walk of the reference's l5Blocks. Conditions: the string's length is below 2^30. -/
import Derived.Test.YthemmoecocjpjaaCont1
namespace Go.Proofs.Ythemmoecocjpjaa
set_option linter.unusedVariables false
set_option linter.unusedSimpArgs false
open Go.RowKit

def RelD (s : ByteArray) (w : World) (v t i : Value) (wr : World) : Prop := ∃ k acc, k ≤ s.size ∧ i = .int .i64 (k : Nat) ∧ t = .int .i64 (sizeSum acc) ∧ wr.ownsRow w.heap.size 24 4 v (acc : List BlkD).length (cellsB acc) ∧ Up w wr ∧ goBlocks s k acc = goBlocks s 0 [] ∧ accOk acc
theorem own_empty {w w' : World} (h : w.heap.size ≤ w'.heap.size) : (w'.alloc (.cells #[] 24)).ownsRow w.heap.size 24 4 (.slice (some ⟨w'.heap.size, 0, none⟩) 0 0) 0 [] := World.ownsRow_made _ _ _ h (by unfold maxLen; omega) rfl
theorem own_emptyg {w w' : World} {g : Nat} (hg : g = w'.heap.size) (h : w.heap.size ≤ w'.heap.size) : (w'.alloc (.cells #[] 24)).ownsRow w.heap.size 24 4 (.slice (some ⟨g, 0, none⟩) 0 0) 0 [] := hg ▸ own_empty h

set_option maxRecDepth 100000 in
set_option maxHeartbeats 2000000 in
theorem contS_any (s : ByteArray) (w : World) (hs : s.size ≤ 1073741824) :
    Calls Try.prog 67 #[.string s] w (ContPost s w) := by
  obtain ⟨i0, hi, hz0, hz1, hz2⟩ := info_parts infoBlock
  have hs' : s.size ≤ 9223372036854775807 := by omega
  go_enter Try.func67, Try.ntmps67
  go_wp2
  go_loopw [4, 5, 6] (fun v t i wr => RelD s w v t i wr) (fun _ _ i _ => s.size - (intOf i).toNat)
  case atStart => exact ⟨0, [], Nat.zero_le _, rfl, rfl, own_empty (Nat.le_refl _), (Up.refl _).alloc _, rfl, accOk_nil⟩
  case round =>
    obtain ⟨k, acc, hk, rfl, rfl, hown, hup, hgo, hok⟩ := hrel
    obtain ⟨a4, c4, rfl⟩ := ownsRow_shape hown
    have HG := Lib.hid hgo
    clear hgo
    have hl40 := hok.1
    obtain ⟨hb1, hb2⟩ := sizeSum_bd hok
    have hb3 : sizeSum acc ≤ 2560 := by omega
    clear hb2
    have hsz := hup.size
    by_cases hlt : k < s.size
    · cases hp : parseOk s k
      · have HC : Hid (contBlocks s = none) := cont_none HG.out hlt (by rw [hp]; simp)
        have cP := fun w => parseS_any s k w hs
        rw [parseV_not hp] at cP
        unfold noBlock at cP
        clear hp
        go_wp2_with ((go_at_call 20; (with_reducible refine (cP _).mono ?_); rintro e w1 ⟨rfl, U1⟩; have B1 := bcell U1; have Z1 := U1.size; (try simp at Z1); (try rw [Nat.add_one_le_iff] at Z1)))
        go_ret2
        exact contPost_none HC.out _ rfl (own_emptyg (size_alloc _ _).symm (by have := (hup.trans U1).size; simp; omega)) (((hup.trans U1).alloc _).alloc _)
      · have cP := fun w => parseS_any s k w hs
        have hb := (formB_bd (parseOk_form hp).2.2)
        have hE := (parseOk_form hp).2.1
        have hkk := endAt_lt s k
        rw [parseV_yes hp, parsed_blk] at cP
        by_cases hn : numAt s (k + 2) = acc.length
        · have hsn := go_step hlt hp hn
          have hoks := accOk_snoc hok hp hn
          have hnum : (blkAt s k).num = acc.length := hn
          generalize hbk : blkAt s k = B at *
          obtain ⟨num, raw, size, body⟩ := B
          generalize hek : endAt s k + 2 = k' at *
          simp only at hnum
          subst hnum
          obtain ⟨hz, hz', _⟩ := hoks.2 _ (List.mem_append_right _ (List.mem_singleton.2 rfl))
          simp only at hz hz'
          have HSS : Hid (sizeSum (acc ++ [⟨acc.length, raw, size, body⟩]) = sizeSum acc + size) := sizeSum_snoc _ _
          unfold blkV at cP
          have HS := Lib.hid hsn
          clear hsn hp hn hb hek hbk
          go_wp2_with (first | (go_at_call 20; (with_reducible refine (cP _).mono ?_); rintro e w1 ⟨rfl, U1⟩; have B1 := bcell U1; have Z1 := U1.size; (try simp at Z1); (try rw [Nat.add_one_le_iff] at Z1)) | (at_builtin; refine wpList_append_own _ rfl _ _ 36 rfl w.heap.size 24 i0 (.agg #[.int .i64 0, .bool false, .int .i64 0, .string ⟨#[]⟩]) 4 40 Try.underlying36 hi hz0 hz1 hz2 rfl (by decide) _ _ _ rfl (((ownsRow_up hown U1).alloc _).alloc _) ⟨w1.heap.size + 1, 0, none⟩ 1 1 (blkC ⟨acc.length, raw, size, body⟩) rfl rfl (new_cells (blkC ⟨acc.length, raw, size, body⟩) _ (size_alloc _ _).symm) (blkC_one _) (by unfold maxLen; omega) (by omega) (by simp; omega) ?_; rintro v2 w2 hown2 hgr2 -; have D2 := hgr2.cell (a := ⟨w1.heap.size, 2, none⟩) (v := .int .i64 size) (by simp) (own_ne (ownsRow_up hown U1) (Nat.le_refl _))))
          go_roundw
          case rel => exact ⟨k', acc ++ [⟨acc.length, raw, size, body⟩], hE, rfl, by rw [HSS.out], by simpa [cellsB_snoc] using hown2, (((hup.trans U1).alloc _).alloc _).grown hgr2 (fun x hx => (hown.lt x hx).1), HS.out.trans HG.out, hoks⟩
          case measure => simp [intOf]; omega
        · have HC : Hid (contBlocks s = none) := cont_none HG.out hlt (fun h => hn h.2)
          have hnum : (blkAt s k).num ≠ acc.length := hn
          generalize hbk : blkAt s k = B at *
          obtain ⟨num, raw, size, body⟩ := B
          simp only at hnum
          unfold blkV at cP
          clear hp hn hb hbk hE
          go_wp2_with ((go_at_call 20; (with_reducible refine (cP _).mono ?_); rintro e w1 ⟨rfl, U1⟩; have B1 := bcell U1; have Z1 := U1.size; (try simp at Z1); (try rw [Nat.add_one_le_iff] at Z1)))
          go_ret2
          exact contPost_none HC.out _ rfl (own_emptyg (size_alloc _ _).symm (by have := (hup.trans U1).size; simp; omega)) (((hup.trans U1).alloc _).alloc _)
    · have HE := Lib.hid (cont_end HG.out hlt)
      by_cases hsum : sizeSum acc ≤ 2000
      all_goals
        go_wp2
        go_ret2
        first | exact contPost_some (HE.out.trans (if_pos hsum)) _ rfl hown hup | exact contPost_none (HE.out.trans (if_neg (by omega))) _ rfl (own_empty hsz) (hup.alloc _)

end Go.Proofs.Ythemmoecocjpjaa

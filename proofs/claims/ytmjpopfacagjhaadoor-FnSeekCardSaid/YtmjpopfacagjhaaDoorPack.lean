/- Walks of the reference's functions that put bits into bytes. Conditions: all bytes are bits; the length is bounded. -/
import Derived.Test.YtmjpopfacagjhaaDoorBit
import Derived.Test.YtmjpopfacagjhaaDoorWord
namespace Go.Proofs.YtmjpopfacagjhaaDoor
set_option linter.unusedVariables false
set_option linter.unusedSimpArgs false
open Go Go.RowKit

/-- Bits with zeros up to a whole number of bytes. -/
def padL (l : List UInt8) : List UInt8 := l ++ List.replicate ((8 - l.length % 8) % 8) 48
theorem padL_length (l : List UInt8) : (padL l).length = 8 * ((l.length + 7) / 8) := by
  unfold padL; rw [List.length_append, List.length_replicate]; omega
theorem rep_one (n : Nat) (b : UInt8) : rep n [b] = List.replicate n b := by
  induction n with
  | zero => rfl
  | succ n ih => rw [rep_succ, ih]; rfl
theorem isBits_pad {l : List UInt8} (h : isBits l) : isBits (padL l) := h.app fun b hb => by rw [List.mem_replicate] at hb; rw [hb.2]; exact .inl rfl

set_option maxRecDepth 100000 in
set_option maxHeartbeats 1000000 in
theorem l1Pad_any (s : ByteArray) (w : World) (hs : s.size ≤ 1048576) :
    Calls Tryd.prog 94  #[.string s] w fun e w' => e = .returned (.string (bs (padL s.data.toList))) ∧ w = w' := by
  have hlen := ba_len s
  have cM := fun w => l9Many_any ⟨#[48]⟩ ((8 - s.size % 8) % 8) w (by omega) (by show _ * 1 ≤ _; omega) (by show 1 ≤ _; omega)
  have e1 : (⟨#[48]⟩ : ByteArray).data.toList = [48] := rfl
  rw [e1, rep_one] at cM
  have hz := bs_size (List.replicate ((8 - s.size % 8) % 8) 48)
  rw [List.length_replicate] at hz
  have HR : Hid (s ++ bs (List.replicate ((8 - s.size % 8) % 8) 48) = bs (padL s.data.toList)) := by
    unfold Hid padL
    rw [hlen, ← bs_app, bs_self]
  have hk : (8 - s.size % 8) % 8 ≤ 7 := by omega
  have hkk : ((8 : Int) - (s.size : Int) % 8) % 8 = ((8 - s.size % 8) % 8 : Nat) := by omega
  generalize (8 - s.size % 8) % 8 = k at *
  clear e1
  go_enter Tryd.func94, Tryd.ntmps94
  go_wp2_with ((go_at_call 102; (with_reducible refine (cM _).mono ?_); rintro e w' ⟨rfl, rfl⟩))
  go_ret
  exact ⟨ret_str (by rw [HR.out]), rfl⟩

/-- Bits in bytes. -/
def byteN (o : Int) (l : List UInt8) (i : Nat) : UInt8 := ub (numL o ((l.drop (8 * i)).take 8))
def packL (o : Int) (l : List UInt8) : List UInt8 := (List.range ((padL l).length / 8)).map (byteN o (padL l))
theorem packL_length (o : Int) (l : List UInt8) : (packL o l).length = (l.length + 7) / 8 := by unfold packL; rw [List.length_map, List.length_range, padL_length]; omega
def midU (l : List UInt8) (k : Nat) : List UInt8 := l.take k ++ List.replicate (l.length - k) 0
theorem midU_len (l : List UInt8) (k : Nat) (h : k ≤ l.length) : (midU l k).length = l.length := by unfold midU; rw [List.length_append, List.length_take, List.length_replicate]; omega
theorem midU_zero (l : List UInt8) : midU l 0 = List.replicate l.length 0 := by simp [midU]
theorem midU_all (l : List UInt8) : midU l l.length = l := by simp [midU]
theorem midU_set (l : List UInt8) (k : Nat) (h : k < l.length) : (midU l k).set k l[k] = midU l (k + 1) := by
  have e : List.replicate (l.length - k) (0 : UInt8) = 0 :: List.replicate (l.length - (k + 1)) 0 := by
    rw [show l.length - k = (l.length - (k + 1)) + 1 by omega]; rfl
  unfold midU
  have e2 : k - (l.take k).length = 0 := by rw [List.length_take]; omega
  rw [e, List.take_succ_eq_append_getElem h, List.set_append_right _ _ (by rw [List.length_take]; omega), e2, List.set_cons_zero, List.append_assoc]
  rfl
theorem midU_at (l : List UInt8) (k : Nat) (h : k < l.length) : (midU l k)[k]? = some 0 := by
  unfold midU
  rw [List.getElem?_append_right (by rw [List.length_take]; omega), List.getElem?_replicate, if_pos (by rw [List.length_take]; omega)]
theorem bs_pad8 (l : List UInt8) (i : Nat) : (bs l).extract (8 * i) (8 * i + 8) = bs ((l.drop (8 * i)).take 8) := by rw [bs_ext, show 8 * i + 8 - 8 * i = 8 by omega]

def RelPk (l : List UInt8) (w : World) (i : Value) (wr : World) : Prop := ∃ k : Nat, k ≤ l.length ∧ i = .int .i64 k ∧ Up w wr ∧ wr.ownsRow w.heap.size 5 1 (.slice (some ⟨w.heap.size, 0, none⟩) l.length l.length) l.length (cellsU (midU l k))
theorem made_list (n : Nat) : (madeCells #[Value.int .u8 0] n).toList.take n = List.replicate n (Value.int .u8 0) := by
  apply List.ext_getElem
  · simp [madeCells]
  · intro i h1 h2
    simp [madeCells, Nat.mod_one]
theorem made_bytes (w : World) (n : Nat) (hn : n ≤ maxLen) : (w.alloc (.cells (madeCells #[.int .u8 0] n) 5)).ownsRow w.heap.size 5 1 (.slice (some ⟨w.heap.size, 0, none⟩) n n) n (cellsU (List.replicate n 0)) := by
  refine ⟨by simp [cellsU], .inr ⟨w.heap.size, n, _, rfl, Nat.le_refl _, (MapKept.heap_alloc w _).1, Nat.le_refl _, hn, ?_, ?_⟩⟩
  · simp [madeCells]
  · rw [Nat.mul_one, made_list]; simp [cellsU]

set_option maxRecDepth 100000 in
set_option maxHeartbeats 2000000 in
theorem l1Pack_any (o : Int) (s : ByteArray) (w : World) (hb : isBits s.data.toList) (hs : s.size ≤ 1048576) :
    Calls Tryd.prog 87  #[.int .i64 o, .string s] w (Same (.string (bs (packL o s.data.toList))) w) := by
  obtain ⟨i0, hi0, hz0, hz1, hz2⟩ := info_parts infoByte
  have hmk : ∀ (w : World) (n : Nat), n ≤ 1048576 → (Instr.makeSlice 29 (.int .i64 (n : Int)) (.int .i64 (n : Int))).run Tryd.prog w = .ok (.slice (some ⟨w.heap.size, 0, none⟩) n n) (w.alloc (.cells (madeCells #[.int .u8 0] n) 5)) := fun w n hn => by
    have := run_make (P := Tryd.prog) w 29 5 i0 _ Tryd.underlying29 hi0 hz0 .i64 .i64 n n (by omega) (Int.le_refl _) (by rw [hz2]; omega) (by omega)
    rw [hz1] at this
    simpa [Value.cells] using this
  clear hz0 hz1 hz2 hi0
  have hlen := ba_len s
  have cP := fun w => l1Pad_any s w hs
  have hpl := padL_length s.data.toList
  have hpb := isBits_pad hb
  have hkl := packL_length o s.data.toList
  have hget : ∀ i (h : i < (packL o s.data.toList).length), (packL o s.data.toList)[i] = byteN o (padL s.data.toList) i := fun i h => by simp [packL]
  rw [hlen] at hpl hkl
  have hz := bs_size (padL s.data.toList)
  have HB := Lib.hid hpb
  have HG := Lib.hid hget
  clear hb hpb hget
  generalize packL o s.data.toList = pk at *
  generalize padL s.data.toList = pd at *
  have hpk : pd.length = 8 * pk.length := by omega
  have hkl' : ((pk.length : Nat) : Int) = ((s.size : Int) + 7) / 8 := by omega
  have hmk' := fun w => hmk w pk.length (by omega)
  rw [hkl'] at hmk'
  clear hmk hpl
  go_enter Tryd.func87, Tryd.ntmps87
  go_wp2_with ((go_at_call 94; (with_reducible refine (cP _).mono ?_); rintro e w' ⟨rfl, rfl⟩))
  have hkn : pk.length = (s.size + 7) / 8 := hkl
  rw [← hkn]
  have hpk2 : pk.length ≤ 131072 := by omega
  clear hkn hkl hkl' hmk' hlen
  go_loopw [7] (fun i wr => RelPk pk w i wr) (fun i _ => pk.length - (intOf i).toNat)
  case atStart => exact ⟨0, Nat.zero_le _, rfl, (Up.refl _).alloc _, by rw [midU_zero]; exact made_bytes w _ (by unfold maxLen; omega)⟩
  case round =>
    obtain ⟨j, hj, rfl, hup, ho⟩ := hrel
    by_cases hlt : j < pk.length
    · have hrl : w.heap.size < wr.heap.size := (ho.lt _ rfl).2
      have d0 := ownsRow_cell ho (cellsU_at (midU_at pk j hlt))
      have f0 := ownsRow_free ho j
      have hb8 : isBits ((pd.drop (8 * j)).take 8) := (HB.out.drop _).take _
      have hl8 : ((pd.drop (8 * j)).take 8).length = 8 := by rw [List.length_take, List.length_drop]; omega
      have HE : Hid ((bs pd).extract (8 * j) (8 * j + 8) = bs ((pd.drop (8 * j)).take 8)) := bs_pad8 pd j
      have cN := fun w => l1Number_any o (bs ((pd.drop (8 * j)).take 8)) w (by rw [bs_data]; exact hb8) (by rw [bs_size, hl8]; omega)
      rw [bs_data, ← HE.out] at cN
      have hnb := numL_bd (o := o) hb8
      rw [hl8] at hnb
      have hn1 := hnb.1
      have hn2 : numL o ((pd.drop (8 * j)).take 8) < 256 := by have := hnb.2; simpa using this
      have HPK : Hid (((pk[j]).toNat : Int) = numL o ((pd.drop (8 * j)).take 8)) := by unfold Hid; rw [HG.out j hlt]; exact ub_nat hn1 hn2
      have HS := Lib.hid (midU_set pk j hlt)
      clear hb8 hnb hl8
      generalize numL o ((pd.drop (8 * j)).take 8) = nm at *
      go_wp2_with ((go_at_call 95; (with_reducible refine (cN _).mono ?_); rintro e w' ⟨rfl, rfl⟩))
      go_roundw
      case rel => exact ⟨j + 1, by omega, by go_num, hup.set (p := ⟨w.heap.size, j, none⟩) (Nat.le_refl _) _, by rw [← HS.out, ← cellsU_set, HPK.out]; exact ownsRow_set ho j _⟩
      case measure => simp [intOf]; omega
    · have e : j = pk.length := by omega
      subst e
      rw [midU_all] at ho
      have hconv := conv_row ho rfl
      go_wp2
      go_ret
      exact ⟨rfl, hup⟩

end Go.Proofs.YtmjpopfacagjhaaDoor

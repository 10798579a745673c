/- Walks of SeekBlock, the program's and the reference's. Conditions: the places can be read. -/
import Derived.Test.YtmjpopfacagjhaaDoorSeek4
namespace Go.Proofs.YtmjpopfacagjhaaDoor
set_option linter.unusedVariables false
set_option linter.unusedSimpArgs false
open Go.RowKit

def seekV (ps : List PlaceD) (o : Int) : Int := if validP ps then seekK ps o ps.length else -1

set_option maxRecDepth 100000 in
set_option maxHeartbeats 1000000 in
theorem seekS_any (ps : List PlaceD) (v : Value) (base : Nat) (o : Int) (w : World) (hown : w.ownsRow base 34 2 v ps.length (cellsP ps)) (hl : ps.length ≤ 1048576) :
    Calls Tryd.prog 12 #[v, .int .i64 o] w (Same (.int .i64 (seekV ps o)) w) := by
  cases hv : validP ps
  · have e : Hid (seekV ps o = -1) := by unfold Hid seekV; rw [hv]; rfl
    have cV := fun w h => validS_any ps v base w h hl
    rw [hv] at cV
    rw [e.out]
    clear hv
    go_enter Tryd.func12, Tryd.ntmps12
    go_wp2_with fail
    (with_reducible refine (cV _ hown).mono ?_); rintro e w1 ⟨rfl, U1⟩
    go_wp2
    go_ret
    exact ⟨rfl, U1⟩
  · have e : Hid (seekV ps o = seekK ps o ps.length) := by unfold Hid seekV; rw [hv]; rfl
    have cV := fun w h => validS_any ps v base w h hl
    rw [hv] at cV
    rw [e.out]
    clear hv
    go_enter Tryd.func12, Tryd.ntmps12
    go_wp2_with fail
    (with_reducible refine (cV _ hown).mono ?_); rintro e w1 ⟨rfl, U1⟩
    go_wp2_with fail
    (with_reducible refine (l5Seek_any ps v base o _ (ownsRow_up hown U1) hl).mono ?_); rintro e w2 ⟨rfl, U2⟩
    go_wp2
    go_ret
    exact ⟨rfl, U1.trans U2⟩

set_option maxRecDepth 100000 in
set_option maxHeartbeats 1000000 in
theorem seekI_any (ps : List PlaceD) (v : Value) (base : Nat) (o : Int) (w : World) (hown : w.ownsRow base 34 2 v ps.length (cellsP ps)) (hl : ps.length ≤ 1048576) :
    Calls Tryd.prog 11 #[v, .int .i64 o] w (Same (.int .i64 (seekV ps o)) w) := by
  obtain ⟨a, ca, rfl, hm, -⟩ := ownsRow_any hown
  cases hv : validP ps
  · have e : Hid (seekV ps o = -1) := by unfold Hid seekV; rw [hv]; rfl
    have cV := fun w h => validI_any ps (.slice a ps.length ca) base w h hl
    rw [hv] at cV
    rw [e.out]
    clear hv
    go_enter Tryd.func11, Tryd.ntmps11
    go_wp2_with fail
    (with_reducible refine (cV _ hown).mono ?_); rintro e w1 ⟨rfl, U1⟩
    go_wp2
    go_ret
    exact ⟨rfl, U1⟩
  · have e : Hid (seekV ps o = seekK ps o ps.length) := by unfold Hid seekV; rw [hv]; rfl
    have cV := fun w h => validI_any ps (.slice a ps.length ca) base w h hl
    rw [hv] at cV
    rw [e.out]
    clear hv
    go_enter Tryd.func11, Tryd.ntmps11
    go_wp2_with fail
    (with_reducible refine (cV _ hown).mono ?_); rintro e w1 ⟨rfl, U1⟩
    go_wp2
    go_loopw [5, 13] (fun f i wr => RelK ps o w1 f i wr) (fun _ i _ => ps.length - (intOf i).toNat)
    case atStart => exact ⟨0, Nat.zero_le _, rfl, rfl, Up.refl _⟩
    case round =>
      obtain ⟨k, hk, rfl, rfl, hup⟩ := hrel
      by_cases hlt : k < ps.length
      · obtain ⟨g, rfl, hc1, hc2, -, hg⟩ := ownsRow_slot hown (by omega)
        obtain ⟨c0, c1⟩ := plc_cells' (read_cells (ownsRow_up (ownsRow_up hown U1) hup)) hlt
        by_cases hp : ps[k].start ≤ o
        · have HS := Lib.hid (seekK_hit hlt hp)
          go_wp2
          go_roundw
          case rel => exact ⟨k + 1, by omega, by go_num, by rw [HS.out], hup.alloc _⟩
          case measure => simp [intOf]; omega
        · have HS := Lib.hid (seekK_miss hlt hp)
          go_wp2
          go_roundw
          case rel => exact ⟨k + 1, by omega, by go_num, by rw [HS.out], hup.alloc _⟩
          case measure => simp [intOf]; omega
      · have e : k = ps.length := by omega
        subst e
        go_wp2
        go_ret
        exact ⟨rfl, U1.trans hup⟩

end Go.Proofs.YtmjpopfacagjhaaDoor

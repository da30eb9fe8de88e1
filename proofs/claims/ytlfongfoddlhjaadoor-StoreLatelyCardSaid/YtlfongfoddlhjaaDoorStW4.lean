/- The walk of the store's 'bytes'. -/
import Derived.Test.YtlfongfoddlhjaaDoorStW1
namespace Go.Lod
open Go Go.RowKit
/-- the k-th byte of an id -/
def idByte (x : Int) (k : Nat) : Int := x / 2 ^ (8 * k) % 256
theorem idByte_bounds (x : Int) (k : Nat) : 0 ≤ idByte x k ∧ idByte x k < 256 := by unfold idByte; omega
end Go.Lod
namespace Go.Proofs.YtlfongfoddlhjaaDoor
open Go Go.RowKit Go.Lod
set_option maxHeartbeats 400000
set_option maxRecDepth 100000

def idCells (x : Int) (k : Nat) : Array Value := ((List.range 8).map fun i => Value.int .u8 (if i < k then idByte x i else 0)).toArray

theorem bytes_calls (x : Int) (h0 : 0 ≤ x) (h1 : x < 18446744073709551616) (w : World) :
    Calls Tryd.prog 23 #[.int .u64 x] w fun e w' => e = .returned (.string ⟨(idBytes x).toArray⟩) ∧ Below w.heap.size w w' := by
  have hmk : ∀ w, (Instr.makeSlice 22 (.int .i64 8) (.int .i64 8)).run Tryd.prog w = .ok (.slice (some ⟨w.heap.size, 0, none⟩) 8 8) (w.alloc (.cells #[.int .u8 0, .int .u8 0, .int .u8 0, .int .u8 0, .int .u8 0, .int .u8 0, .int .u8 0, .int .u8 0] 5)) := fun _ => by kernel_rfl
  go_enter Tryd.func23, Tryd.ntmps23
  go_wp2
  go_loopw [8] (fun i W => ∃ k : Nat, i = .int .i64 k ∧ k ≤ 8 ∧ W.heap[w.heap.size]? = some (.cells (idCells x k) 5 (0, 0)) ∧ Below w.heap.size w W) (fun i _ => 8 - (intOf i).toNat)
  case atStart => exact ⟨0, rfl, by omega, heap_alloc_new w _, (Below.refl _ w).alloc (Nat.le_refl _) _⟩
  case round =>
    obtain ⟨k, rfl, hk, hb, hB⟩ := hrel
    by_cases hlt : k < 8
    · have hcell : wr.cell? ⟨w.heap.size, k, none⟩ = some (.int .u8 0) := by
        simp only [World.cell?, hb, Option.isSome_none, Bool.false_eq_true, if_false, idCells]
        simp [hlt]
      have hfz : wr.frozen? ⟨w.heap.size, k, none⟩ = false := by simp [World.frozen?, hb]
      have hset : (idCells x k).setIfInBounds k (.int .u8 (idByte x k)) = idCells x (k + 1) := by
        unfold idCells
        apply Array.ext
        · simp
        · intro i hi1 hi2
          have hi : i < 8 := by simpa using hi2
          simp only [Array.getElem_setIfInBounds, List.getElem_toArray, List.getElem_map, List.getElem_range]
          by_cases hik : k = i
          · subst hik; simp
          · have : (i < k) ↔ (i < k + 1) := by omega
            simp [hik, this]
      have hnew : (wr.setCell ⟨w.heap.size, k, none⟩ (.int .u8 (idByte x k))).heap[w.heap.size]? = some (.cells (idCells x (k + 1)) 5 (0, 0)) := by
        rw [Go.Lod.heap_setCell_same hb, hset]
      have HN := Lib.hid hnew
      have HB := Lib.hid hB
      clear hnew hset hB hb hmk
      go_wp2
      go_roundw
      case rel => exact ⟨k + 1, by go_num, by omega, HN.out, HB.out.setCell (p := ⟨w.heap.size, k, none⟩) (Nat.le_refl _) _⟩
      case measure => simp [intOf]; omega
    · obtain rfl : k = 8 := by omega
      have hconv := run_convert_bytes_arg (P := Tryd.prog) wr 22 5 Tryd.underlying22 Tryd.underlying5 w.heap.size 0 8 8 ((List.range 8).map (idByte x)) (by simp)
        (fun i hi => by
          simp only [World.cell?, hb, Option.isSome_none, Bool.false_eq_true, if_false, idCells, Nat.zero_add]
          simp [hi, List.getD]) 9 Tryd.underlying9
      have hs : strOfNums ((List.range 8).map (idByte x)) = ⟨(idBytes x).toArray⟩ := by
        unfold strOfNums idBytes
        congr 2
        rw [List.map_map]
        refine List.map_congr_left fun i _ => ?_
        simp only [Function.comp, idByte]
        congr 1
        have : (x / 2 ^ (8 * i) % 256).toNat = x.toNat / 2 ^ (8 * i) % 256 := by
          obtain ⟨n, rfl⟩ := Int.eq_ofNat_of_zero_le h0
          have e : ((2 : Int) ^ (8 * i)) = ((2 ^ (8 * i) : Nat) : Int) := by simp
          rw [e]
          simp only [Int.toNat_natCast]
          rw [← Int.natCast_ediv, show (256 : Int) = ((256 : Nat) : Int) from rfl, ← Int.natCast_emod, Int.toNat_natCast]
        exact this
      rw [hs] at hconv
      clear hs hmk hb h0 h1
      go_wp2
      go_ret
      exact ⟨rfl, hB⟩
end Go.Proofs.YtlfongfoddlhjaaDoor

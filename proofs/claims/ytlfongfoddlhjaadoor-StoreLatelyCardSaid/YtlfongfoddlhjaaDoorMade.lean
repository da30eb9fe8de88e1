/- made, field: texts of some bytes alone. -/
import Derived.Test.YtlfongfoddlhjaaDoorShelf
import Derived.Deep.WholeRow
import Derived.Lib.AsciiSet
import Derived.Lib.IndexLaws
import Derived.Lib.Hide
import Derived.Deep.DeepCutAuto
import Derived.Deep.DeepMust
import Derived.Deep.RegionHeld3
import Derived.Below
namespace Go.Proofs.YtlfongfoddlhjaaDoor
open Go Go.RowKit
set_option maxRecDepth 100000

theorem trimLeft_nil (b : Nat) (w : World) : Calls Tryd.prog 69 #[.string ⟨#[]⟩, .pointer (some ⟨b, 0, none⟩)] w fun e w' => e = .returned (.string ⟨#[]⟩) ∧ w' = w := by
  go_enter Tryd.func69, Tryd.ntmps69
  go_wp2
  go_loopw [0] (fun v W => v = .string ⟨#[]⟩ ∧ W = w) (fun _ _ => 0)
  case atStart => exact ⟨rfl, rfl⟩
  case round =>
    obtain ⟨rfl, rfl⟩ := hrel
    have hsz : (⟨#[]⟩ : ByteArray).size = 0 := rfl
    go_wp2
    go_ret
    exact ⟨rfl, rfl⟩

set_option maxHeartbeats 1000000 in
theorem trimRight_all (s : ByteArray) (b : Nat) (w : World) (hs : s.size ≤ 9223372036854775807) (hc : ∀ x ∈ s.data.toList, w.cell? ⟨b, x.toNat, none⟩ = some (.bool true)) :
    Calls Tryd.prog 70 #[.string s, .pointer (some ⟨b, 0, none⟩)] w fun e w' => e = .returned (.string ⟨#[]⟩) ∧ w' = w := by
  go_enter Tryd.func70, Tryd.ntmps70
  go_wp2
  go_loopw [0] (fun v W => ∃ k : Nat, k ≤ s.size ∧ v = .string ⟨(s.data.toList.take k).toArray⟩ ∧ W = w) (fun v _ => Lib.strSize v)
  case atStart => exact ⟨s.size, Nat.le_refl _, by rw [Lib.size_eq, List.take_length, Lib.mk_data], rfl⟩
  case round =>
    obtain ⟨k, hk, rfl, rfl⟩ := hrel
    have hkl : k ≤ s.data.toList.length := by rw [← Lib.size_eq]; exact hk
    have hts : (⟨(s.data.toList.take k).toArray⟩ : ByteArray).size = k := by rw [Lib.size_mk, List.length_take]; omega
    have hb0 : ∀ h, s.data.toList[k - 1]? = some ((⟨(s.data.toList.take k).toArray⟩ : ByteArray)[k - 1]'h) := by
      intro h
      rw [← Lib.getElem_mk (s.data.toList.take k) (k - 1) h, List.getElem?_take]
      rw [hts] at h
      rw [if_pos h]
    have hx1 : (⟨(s.data.toList.take k).toArray⟩ : ByteArray).extract 0 (k - 1) = ⟨(s.data.toList.take (k - 1)).toArray⟩ := by
      rw [Lib.extract_mk, List.drop_zero, List.take_take]
      congr 3
      omega
    have HC := Lib.hid hc
    have HKL := Lib.hid hkl
    clear hc hkl
    generalize ht : (⟨(s.data.toList.take k).toArray⟩ : ByteArray) = t at hts hb0 hx1 ⊢
    have HT := Lib.hid ht
    clear ht
    by_cases h0 : 0 < k
    · have h1 : k - 1 < t.size := by omega
      have hwr : ((k : Int) - 1 + 9223372036854775808) % 18446744073709551616 - 9223372036854775808 = ((k - 1 : Nat) : Int) := by omega
      have hbk := hb0 h1
      have hcell := HC.out _ (List.mem_of_getElem? hbk)
      have hcall := Tryd.asciiSet_contains b (t[k - 1]'h1) true wr hcell
      clear hb0 hbk hcell
      go_wp2_with (go_at_call 75; refine hcall.mono ?_; clear hcall; rintro e w2 ⟨rfl, rfl⟩)
      refine ⟨⟨k - 1, by omega, rfl, trivial⟩, ?_⟩
      rw [Lib.strSize_string, Lib.strSize_string, Lib.size_mk, List.length_take]
      have := HKL.out
      omega
    · obtain rfl : k = 0 := by omega
      clear hb0
      go_wp2
      go_ret
      refine ⟨?_, rfl⟩
      rw [show t = ⟨#[]⟩ from by rw [← HT.out]; simp]
      rfl

theorem info_set : (Tryd.prog.info? 114).map (·.size) = some 256 := by kernel_rfl
theorem zero_set (w : World) : (zeroValue 114).run Tryd.prog w = .ok (.agg (Array.replicate 256 (.bool false))) w := by kernel_rfl

set_option maxHeartbeats 2000000 in
/-- a text whose bytes are all in the cutset is trimmed to nothing -/
theorem trim_all (s c : ByteArray) (w : World) (hs : s.size ≤ 9223372036854775807) (h0 : s ≠ ⟨#[]⟩) (hc0 : 2 ≤ c.size) (hcs : c.size < 4294967281) (hasc : ∀ (j : Nat) b, c.data.toList[j]? = some b → b.toNat < 128) (hall : ∀ x ∈ s.data.toList, x ∈ c.data.toList) :
    Calls Tryd.prog 46 #[.string s, .string c] w fun e w' => e = .returned (.string ⟨#[]⟩) ∧ Below w.heap.size w w' := by
  have hset := Tryd.strings_makeASCIISet zero_set c w hcs hasc
  have hn1 : ¬ s.toList = [] := fun h => h0 (by rw [← Lib.mk_data s, ← Lib.toList_data, h])
  have hn2 : ¬ c.toList = [] := fun h => by rw [← Lib.mk_data c, ← Lib.toList_data, h] at hc0; simp [ByteArray.size] at hc0
  have hb1 : s.toList.isEmpty = false := by simpa using hn1
  have hb2 : c.toList.isEmpty = false := by simpa using hn2
  have hb3 : ((c.size : Int) == 1) = false := beq_eq_false_iff_ne.2 (by omega)
  have hrep : (Array.replicate 256 (Value.bool false)).size = (Lib.setCells c.data.toList).size := by rw [Lib.setCells_size]; simp
  have hsz1 : (w.alloc (.cells (Lib.setCells c.data.toList) 114)).heap.size = w.heap.size + 1 := by simp only [World.size_alloc]
  have hsc := Lib.setCells_size c.data.toList
  have hst := run_storeCells_new (P := Tryd.prog) (w.alloc (.cells (Lib.setCells c.data.toList) 114)) 114 (Array.replicate 256 (.bool false)) (Lib.setCells c.data.toList) (by rw [Lib.setCells_size]; exact info_set) hrep (Lib.setCells_one _)
  rw [hsz1] at hst
  have hz := zero_set
  have HS := Lib.hid (And.intro h0 (And.intro hc0 (And.intro hasc hall)))
  clear h0 hc0 hcs hasc hall
  go_enter Tryd.func46, Tryd.ntmps46
  go_upto_if 34 with (go_at_call 68; refine hset.mono ?_; clear hset; rintro e w1 ⟨rfl, rfl⟩)
  obtain ⟨h0, hc0, hasc, hall⟩ := HS.out
  have hr := trimRight_all s (w.heap.size + 1) ((w.alloc (.cells (Lib.setCells c.data.toList) 114)).alloc (.cells (Lib.setCells c.data.toList) 114)) hs (fun x hx => by
    rw [World.cell?_alloc_at _ _ _ _ hsz1.symm, Lib.setCells_at]
    rw [show c.data.toList.contains x = true from by simpa using hall x hx])
  have hl := trimLeft_nil (w.heap.size + 1) ((w.alloc (.cells (Lib.setCells c.data.toList) 114)).alloc (.cells (Lib.setCells c.data.toList) 114))
  have hB : Below w.heap.size w ((w.alloc (.cells (Lib.setCells c.data.toList) 114)).alloc (.cells (Lib.setCells c.data.toList) 114)) := ((Below.refl _ w).alloc (Nat.le_refl _) _).alloc (by rw [hsz1]; omega) _
  have HB := Lib.hid hB
  clear h0 hc0 hasc hall hst hrep hsz1 hsc hB
  go_wp2_with (first | (go_at_call 70; refine hr.mono ?_; clear hr; rintro e w3 ⟨rfl, rfl⟩) | (go_at_call 69; refine hl.mono ?_; clear hl; rintro e w4 ⟨rfl, rfl⟩))
  go_ret
  exact ⟨rfl, HB.out⟩

def usualB : List UInt8 := "abcdefghijklmnopqrstuvwxyzABCDEFGHIJKLMNOPQRSTUVWXYZ0123456789_".toUTF8.data.toList
/-- a text of usual bytes, and of some others, of a length -/
def madeB (s others : ByteArray) (most : Nat) : Bool := !s.data.toList.isEmpty && decide (s.size ≤ most) && s.data.toList.all (fun x => usualB.contains x || others.data.toList.contains x)

theorem made_true (s others : ByteArray) (most : Nat) (hm : most ≤ 4096) (ho : others.size ≤ 4096) (hoa : ∀ x ∈ others.data.toList, x.toNat < 128) (h : madeB s others most = true) (w : World) :
    Calls Tryd.prog 32 #[.string s, .string others, .int .i64 most] w fun e w' => e = .returned (.bool true) ∧ Below w.heap.size w w' := by
  simp only [madeB, Bool.and_eq_true, Bool.not_eq_true', List.isEmpty_eq_false_iff, decide_eq_true_eq, List.all_eq_true, Bool.or_eq_true, List.contains_iff_mem] at h
  obtain ⟨⟨h1, h2⟩, h3⟩ := h
  have hn0 : s ≠ ⟨#[]⟩ := by rintro rfl; exact h1 rfl
  have hn1 : ¬ s.toList = [] := fun h => h1 (by rw [← Lib.toList_data, h])
  have hb1 : s.toList.isEmpty = false := by simpa using hn1
  have hus : usualB.length = 63 := by decide
  have husa : ∀ x ∈ usualB, x.toNat < 128 := by decide
  have hsz : ((⟨usualB.toArray⟩ : ByteArray) ++ others).size = 63 + others.size := by rw [ByteArray.size_append]; simp only [ByteArray.size, List.size_toArray, hus]
  have hdt : ((⟨usualB.toArray⟩ : ByteArray) ++ others).data.toList = usualB ++ others.data.toList := by simp
  have ht := trim_all s (⟨usualB.toArray⟩ ++ others) w (by omega) hn0 (by rw [hsz]; omega) (by rw [hsz]; omega)
    (fun j b hj => by
      rw [hdt] at hj
      rcases List.mem_append.1 (List.mem_of_getElem? hj) with hm | hm
      · exact husa b hm
      · exact hoa b hm)
    (fun x hx => by rw [hdt]; exact List.mem_append.2 (h3 x hx))
  have hd : decide ((s.size : Int) ≤ (most : Int)) = true := decide_eq_true (by omega)
  clear h1 h3
  go_enter Tryd.func32, Tryd.ntmps32
  go_wp2_with (go_at_call 46; refine ht.mono ?_; clear ht; rintro e w2 ⟨rfl, hB⟩)
  go_ret
  exact ⟨rfl, hB⟩

/-- a field's name -/
def fieldB (s : ByteArray) : Bool := madeB s ⟨#[]⟩ 24 && !(s.data.toList.head?.any fun x => decide (48 ≤ x.toNat) && decide (x.toNat ≤ 57))

theorem field_true (s : ByteArray) (h : fieldB s = true) (w : World) : Calls Tryd.prog 35 #[.string s] w fun e w' => e = .returned (.bool true) ∧ Below w.heap.size w w' := by
  simp only [fieldB, Bool.and_eq_true, Bool.not_eq_true'] at h
  obtain ⟨h1, h2⟩ := h
  have hm := made_true s ⟨#[]⟩ 24 (by omega) (by decide) (by simp) h1 w
  obtain ⟨c, l, hl⟩ : ∃ c l, s.data.toList = c :: l := by
    cases hh : s.data.toList with
    | nil => simp [madeB, hh] at h1
    | cons c l => exact ⟨c, l, rfl⟩
  have hs1 : s.extract 0 1 = ⟨#[c]⟩ := by
    rw [← Lib.mk_data s, Lib.extract_mk, hl]; rfl
  have hlen : 1 ≤ s.size := by rw [Lib.size_eq, hl]; simp
  have hix : decide (0 ≤ Lib.indexByte (⟨#[48, 49, 50, 51, 52, 53, 54, 55, 56, 57]⟩ : ByteArray).data.toList c) = false := by
    rw [hl] at h2
    refine decide_eq_false fun hge => ?_
    obtain ⟨o, ho⟩ := Int.eq_ofNat_of_zero_le hge
    have hm := List.mem_of_getElem? (Lib.indexByte_some ho).1
    have hd : ∀ x ∈ (⟨#[48, 49, 50, 51, 52, 53, 54, 55, 56, 57]⟩ : ByteArray).data.toList, (decide (48 ≤ x.toNat) && decide (x.toNat ≤ 57)) = true := by decide
    simp [hd c hm] at h2
  have hc := fun w => Tryd.strings_Contains_one ⟨#[48, 49, 50, 51, 52, 53, 54, 55, 56, 57]⟩ c w
  rw [hix] at hc
  have hex : (1 : Int) ≤ s.size := by omega
  clear h1 h2 hl hix
  go_enter Tryd.func35, Tryd.ntmps35
  go_wp2_with (first | (go_at_call 32; refine hm.mono ?_; clear hm; rintro e w2 ⟨rfl, hB⟩) | (go_at_call 48; refine (hc _).mono ?_; clear hc; rintro e w3 ⟨rfl, rfl⟩))
  go_ret
  exact ⟨rfl, hB⟩
end Go.Proofs.YtlfongfoddlhjaaDoor

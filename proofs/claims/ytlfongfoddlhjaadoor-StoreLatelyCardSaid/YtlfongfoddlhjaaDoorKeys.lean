/- The keys of the store's maps. -/
import Derived.Test.YtlfongfoddlhjaaDoorProg
import Derived.Test.YtlfongfoddlhjaaDoorBase
namespace Go.Lod
open Go Go.RowKit
open Go.ChangeMaps (setBlock)

theorem keyEnc_asking {P : Program} {k : TypeId} {d : TypeDesc} {α : Type} [DecidableEq α] {enc : α → Value} (hk : P.underlying k = some d)
    (hn : ∀ a b : α, Instr.sameNow d (enc a) (enc b) = none)
    (hc : ∀ (empty : Bool) (a : α) (w : World), (Instr.checkKey empty 10000 k (enc a)).run P w = .ok () w)
    (he : ∀ (a b : α) (w : World), (Op.equal k (enc a) (enc b)).run P w = .ok (decide (b = a)) w)
    (hs : ∀ a : α, Instr.sameBits 10000 (enc a) (enc a) = true) : KeyEnc P k enc := by
  refine ⟨hc, ?_, hs⟩
  intro β encV a l w
  have h : ∀ (l : List (α × β × Nat)) (i : Nat), (Instr.findAsking k (enc a) (mEl enc encV l) i).run P w = .ok (findL encV a l i) w := by
    intro l
    induction l with
    | nil => intro i; simp [mEl, Instr.findAsking, findL]
    | cons p l ih =>
      intro i
      have e1 : mEl enc encV (p :: l) = { key := enc p.1, val := encV p.2.1, born := p.2.2 } :: mEl enc encV l := rfl
      simp only [e1, Instr.findAsking, findL, Sem.run_bind, he, Result.andThen]
      by_cases h : p.1 = a
      · simp [h]
      · simp only [h, decide_false, Bool.false_eq_true, if_false]
        exact ih (i + 1)
  cases l with
  | nil => simp [Instr.findKey, Sem.run_bind, run_underlying hk, Result.andThen, Instr.findNow, mEl, findL]
  | cons p l =>
    have := h (p :: l) 0
    have e1 : mEl enc encV (p :: l) = { key := enc p.1, val := encV p.2.1, born := p.2.2 } :: mEl enc encV l := rfl
    simp only [Instr.findKey, Sem.run_bind, run_underlying hk, Result.andThen]
    rw [e1] at this ⊢
    simp only [Instr.findNow, hn]
    exact this

structure Shape where
  kind : Int
  name : ByteArray
  fields : ByteArray
  parts : ByteArray
  ret : Int
  deriving DecidableEq

def encShape (s : Shape) : Value := .agg #[.int .i64 s.kind, .string s.name, .string s.fields, .string s.parts, .int .u64 s.ret]
end Go.Lod

namespace Go.Proofs.YtlfongfoddlhjaaDoor
open Go Go.RowKit Go.Lod
set_option maxRecDepth 100000

theorem bytes_toList_eq (a b : ByteArray) : a.toList = b.toList ↔ a = b := by
  rw [← Go.MapKept.bytes_beq a b, beq_toListBytes]; simp

theorem shape_check (empty : Bool) (a : Shape) (w : World) : (Instr.checkKey empty 10000 57 (encShape a)).run Tryd.prog w = .ok () w := by
  kernel_rfl

theorem shape_equal (a b : Shape) (w : World) : (Op.equal 57 (encShape a) (encShape b)).run Tryd.prog w = .ok (decide (b = a)) w := by
  have h : (Op.equalIn 10000 57 (encShape a) (encShape b)).run Tryd.prog w = .ok (decide (b = a)) w := by
    simp [encShape, go_sem]
    obtain ⟨a1, a2, a3, a4, a5⟩ := a
    obtain ⟨b1, b2, b3, b4, b5⟩ := b
    simp only [bytes_toList_eq, Shape.mk.injEq]
    by_cases h1 : a1 = b1
    · by_cases h2 : a2 = b2
      · by_cases h3 : a3 = b3
        · by_cases h4 : a4 = b4
          · by_cases h5 : a5 = b5
            · simp [h1, h2, h3, h4, h5]
            · simp [h1, h2, h3, h4, h5, Ne.symm h5]
          · simp [h1, h2, h3, h4, Ne.symm h4]
        · simp [h1, h2, h3, Ne.symm h3]
      · simp [h1, h2, Ne.symm h2]
    · simp [h1, Ne.symm h1]
  exact h

theorem keyShape : KeyEnc Tryd.prog 57 encShape :=
  keyEnc_asking Tryd.underlying57 (fun _ _ => rfl) shape_check shape_equal (fun a => by
    obtain ⟨a1, a2, a3, a4, a5⟩ := a
    simp only [encShape]
    show Instr.sameBits (9999 + 1) _ _ = true
    simp [Instr.sameBits, sameBits_int, sameBits_string, Go.MapKept.bytes_beq])

theorem keyU : KeyEnc Tryd.prog 28 (Value.int .u64) := keyEnc_int Tryd.underlying28
end Go.Proofs.YtlfongfoddlhjaaDoor

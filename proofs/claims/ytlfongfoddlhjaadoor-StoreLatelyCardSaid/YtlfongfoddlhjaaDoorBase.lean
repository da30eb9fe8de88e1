/- What a map's operations come to, of worlds and of blocks: general lemmas, of no program. -/
import Derived.WalkKit
import Derived.WalkLawsBesides
import Derived.WalkSpells
import Derived.Maps.RangeRun
import Derived.Maps.OwnSet
namespace Go.Lod
open Go Go.RowKit
open Go.ChangeMaps (setBlock)
open Go.MapKept (bytes_beq)

/-! ### A map as a list -/
section
variable {α β : Type} [DecidableEq α]

def look (a : α) : List (α × β × Nat) → Option β
  | [] => none
  | p :: l => if p.1 = a then some p.2.1 else look a l

def putL (a : α) (v : β) (c : Nat) : List (α × β × Nat) → List (α × β × Nat)
  | [] => [(a, v, c)]
  | p :: l => if p.1 = a then (a, v, p.2.2) :: l else p :: putL a v c l

def delL (a : α) : List (α × β × Nat) → List (α × β × Nat)
  | [] => []
  | p :: l => if p.1 = a then l else p :: delL a l

def findL (encV : β → Value) (a : α) : List (α × β × Nat) → Nat → Option (Nat × Value)
  | [], _ => none
  | p :: l, i => if p.1 = a then some (i, encV p.2.1) else findL encV a l (i + 1)

def mEl (enc : α → Value) (encV : β → Value) (l : List (α × β × Nat)) : List MapEntry := l.map fun p => { key := enc p.1, val := encV p.2.1, born := p.2.2 }
def mEs (enc : α → Value) (encV : β → Value) (l : List (α × β × Nat)) : Array MapEntry := (mEl enc encV l).toArray

omit [DecidableEq α] in
theorem mEs_toList (enc : α → Value) (encV : β → Value) (l : List (α × β × Nat)) : (mEs enc encV l).toList = mEl enc encV l := rfl
omit [DecidableEq α] in
theorem mEs_size (enc : α → Value) (encV : β → Value) (l : List (α × β × Nat)) : (mEs enc encV l).size = l.length := by simp [mEs, mEl]

theorem findL_none (encV : β → Value) (a : α) : ∀ (l : List (α × β × Nat)) (i : Nat), findL encV a l i = none ↔ look a l = none
  | [], _ => by simp [findL, look]
  | p :: l, i => by
    simp only [findL, look]
    by_cases h : p.1 = a
    · simp [h]
    · simp only [h, if_false]; exact findL_none encV a l (i + 1)

theorem findL_val (encV : β → Value) (a : α) : ∀ (l : List (α × β × Nat)) (i : Nat), (findL encV a l i).map (·.2) = (look a l).map encV
  | [], _ => by simp [findL, look]
  | p :: l, i => by
    simp only [findL, look]
    by_cases h : p.1 = a
    · simp [h]
    · simp only [h, if_false]; exact findL_val encV a l (i + 1)

/-- where it was found -/
theorem findL_some (enc : α → Value) (encV : β → Value) (a : α) (v : β) (c : Nat) : ∀ (l : List (α × β × Nat)) (i j : Nat) (x : Value), findL encV a l i = some (j, x) →
    i ≤ j ∧ (∃ p, l[j - i]? = some p ∧ p.1 = a) ∧
    (mEl enc encV l).modify (j - i) (fun e => { e with key := enc a, val := encV v }) = mEl enc encV (putL a v c l) ∧
    (mEl enc encV l).eraseIdx (j - i) = mEl enc encV (delL a l)
  | [], i, j, x, h => by simp [findL] at h
  | p :: l, i, j, x, h => by
    simp only [findL] at h
    by_cases hp : p.1 = a
    · simp only [hp, if_true, Option.some.injEq, Prod.mk.injEq] at h
      obtain ⟨rfl, rfl⟩ := h
      refine ⟨Nat.le_refl _, ⟨p, by simp, hp⟩, ?_, ?_⟩
      · simp [mEl, putL, hp]
      · simp [mEl, delL, hp]
    · simp only [hp, if_false] at h
      obtain ⟨h1, h2, h3, h4⟩ := findL_some enc encV a v c l (i + 1) j x h
      have e : j - i = (j - (i + 1)) + 1 := by omega
      refine ⟨by omega, ?_, ?_, ?_⟩
      · rw [e]; simpa using h2
      · rw [e]; simp only [putL, hp, if_false]; simp only [mEl, List.map_cons] at h3 ⊢; simp only [List.modify_succ_cons, List.cons.injEq, true_and]; exact h3
      · rw [e]; simp only [delL, hp, if_false]; simp only [mEl, List.map_cons] at h4 ⊢; simp only [List.eraseIdx_cons_succ, List.cons.injEq, true_and]; exact h4

theorem putL_none (a : α) (v : β) (c : Nat) : ∀ (l : List (α × β × Nat)), look a l = none → putL a v c l = l ++ [(a, v, c)]
  | [], _ => rfl
  | p :: l, h => by
    simp only [look] at h
    by_cases hp : p.1 = a
    · simp [hp] at h
    · simp only [hp, if_false] at h
      simp only [putL, hp, if_false, List.cons_append, putL_none a v c l h]

theorem delL_none (a : α) : ∀ (l : List (α × β × Nat)), look a l = none → delL a l = l
  | [], _ => rfl
  | p :: l, h => by
    simp only [look] at h
    by_cases hp : p.1 = a
    · simp [hp] at h
    · simp only [hp, if_false] at h
      simp only [delL, hp, if_false, delL_none a l h]

theorem look_mem (a : α) (v : β) : ∀ (l : List (α × β × Nat)), look a l = some v → ∃ c, (a, v, c) ∈ l
  | [], h => by simp [look] at h
  | p :: l, h => by
    simp only [look] at h
    by_cases hp : p.1 = a
    · simp only [hp, if_true, Option.some.injEq] at h
      exact ⟨p.2.2, by simp [← hp, ← h]⟩
    · simp only [hp, if_false] at h
      obtain ⟨c, hc⟩ := look_mem a v l h
      exact ⟨c, by simp [hc]⟩
end

/-! ### Keys -/
/-- How keys of a type stand as values: what a look among them comes to. -/
structure KeyEnc (P : Program) (k : TypeId) {α : Type} [DecidableEq α] (enc : α → Value) : Prop where
  check : ∀ (empty : Bool) (a : α) (w : World), (Instr.checkKey empty 10000 k (enc a)).run P w = .ok () w
  find : ∀ {β : Type} (encV : β → Value) (a : α) (l : List (α × β × Nat)) (w : World), (Instr.findKey k (enc a) (mEl enc encV l)).run P w = .ok (findL encV a l 0) w
  same : ∀ a : α, Instr.sameBits 10000 (enc a) (enc a) = true

theorem keyEnc_of_now {P : Program} {k : TypeId} {d : TypeDesc} {α : Type} [DecidableEq α] {enc : α → Value} (hk : P.underlying k = some d)
    (hn : ∀ a b : α, Instr.sameNow d (enc a) (enc b) = some (decide (b = a)))
    (hc : ∀ (empty : Bool) (a : α) (w : World), (Instr.checkKey empty 10000 k (enc a)).run P w = .ok () w)
    (hs : ∀ a : α, Instr.sameBits 10000 (enc a) (enc a) = true) : KeyEnc P k enc := by
  refine ⟨hc, ?_, hs⟩
  intro β encV a l w
  have h : ∀ (l : List (α × β × Nat)) (i : Nat), Instr.findNow d (enc a) (mEl enc encV l) i = some (findL encV a l i) := by
    intro l
    induction l with
    | nil => intro i; simp [mEl, Instr.findNow, findL]
    | cons p l ih =>
      intro i
      simp only [mEl, List.map_cons, Instr.findNow, findL, hn]
      by_cases h : p.1 = a
      · simp [h]
      · simp only [h, decide_false, if_false]
        exact ih (i + 1)
  simp [Instr.findKey, Sem.run_bind, run_underlying hk, Result.andThen, h l 0]

theorem checkKey_int {P : Program} {k : TypeId} {q : IntKind} (hk : P.underlying k = some (.int q)) (n : Nat) (empty : Bool) (a : Int) (w : World) : (Instr.checkKey empty (n + 1) k (.int q a)).run P w = .ok () w := by
  simp [Instr.checkKey, Sem.run_bind, run_underlying hk, Result.andThen]

theorem checkKey_string {P : Program} {k : TypeId} (hk : P.underlying k = some .string) (n : Nat) (empty : Bool) (a : ByteArray) (w : World) : (Instr.checkKey empty (n + 1) k (.string a)).run P w = .ok () w := by
  simp [Instr.checkKey, Sem.run_bind, run_underlying hk, Result.andThen]

theorem sameBits_int (n : Nat) (q : IntKind) (a : Int) : Instr.sameBits n (.int q a) (.int q a) = true := by
  cases n <;> simp [Instr.sameBits]

theorem sameBits_string (n : Nat) (a : ByteArray) : Instr.sameBits n (.string a) (.string a) = true := by
  cases n <;> simp [Instr.sameBits, bytes_beq]

theorem sameNow_int (q : IntKind) (a b : Int) : Instr.sameNow (.int q) (.int q a) (.int q b) = some (decide (b = a)) := by
  simp only [Instr.sameNow, if_true, Option.some.injEq]
  by_cases h : a = b
  · simp [h]
  · have h' : b ≠ a := fun e => h e.symm
    simp [h, h']

theorem sameNow_string (a b : ByteArray) : Instr.sameNow .string (.string a) (.string b) = some (decide (b = a)) := by
  simp only [Instr.sameNow, Option.some.injEq]
  by_cases h : a = b
  · simp [h, bytes_beq]
  · have h' : b ≠ a := fun e => h e.symm
    simp only [h', decide_false]
    cases hb : a == b
    · rfl
    · exact absurd ((bytes_beq a b).1 hb) h

theorem keyEnc_int {P : Program} {k : TypeId} {q : IntKind} (hk : P.underlying k = some (.int q)) : KeyEnc P k (Value.int q) :=
  keyEnc_of_now hk (fun a b => sameNow_int q a b)
    (fun empty a w => checkKey_int hk 9999 empty a w) (fun a => sameBits_int 10000 q a)

theorem keyEnc_string {P : Program} {k : TypeId} (hk : P.underlying k = some .string) : KeyEnc P k Value.string :=
  keyEnc_of_now hk (fun a b => sameNow_string a b)
    (fun empty a w => checkKey_string hk 9999 empty a w) (fun a => sameBits_string 10000 a)

/-! ### The operations of a map -/
section
variable {P : Program} {k e t : TypeId} {α β : Type} [DecidableEq α] {enc : α → Value} {encV : β → Value} {l : List (α × β × Nat)} {b clk : Nat} {w : World}

def lookVal (encV : β → Value) (z : Value) (c : Bool) (o : Option β) : Value :=
  if c then .tuple #[(o.map encV).getD z, .bool o.isSome] else (o.map encV).getD z

theorem run_lookup_at (K : KeyEnc P k enc) (ht : P.underlying t = some (.map k e)) {z : Value} (hz : (zeroValue e).run P w = .ok z w)
    (hb : w.heap[b]? = some (.map (mEs enc encV l) clk)) (a : α) (c : Bool) :
    (Instr.lookup t (.map (some b)) (enc a) c).run P w = .ok (lookVal encV z c (look a l)) w := by
  have hf := K.find encV a l w
  have hv := findL_val encV a l 0
  simp only [Instr.lookup, Sem.run_bind, run_underlying ht, Result.andThen, getObj, Sem.run, Sem.run_pure, hb, K.check, mEs_toList, hf]
  cases hfl : findL encV a l 0 with
  | none =>
    rw [hfl] at hv
    have hl : look a l = none := by simpa using hv.symm
    simp only [Sem.run_bind, Sem.run_pure, hz, Result.andThen, hl, lookVal]
    cases c <;> rfl
  | some p =>
    rw [hfl] at hv
    obtain ⟨i, x⟩ := p
    cases hl : look a l with
    | none => rw [hl] at hv; simp at hv
    | some y =>
      rw [hl] at hv
      simp at hv
      subst hv
      cases c <;> rfl

theorem run_update_at (K : KeyEnc P k enc) (ht : P.underlying t = some (.map k e))
    (hb : w.heap[b]? = some (.map (mEs enc encV l) clk)) (a : α) (v : β) :
    (Instr.mapUpdate t (.map (some b)) (enc a) (encV v)).run P w =
      .ok () (setBlock w b (.map (mEs enc encV (putL a v clk l)) (if (look a l).isSome then clk else clk + 1))) := by
  have hf := K.find encV a l w
  simp only [Instr.mapUpdate, Sem.run_bind, run_underlying ht, Result.andThen, getObj, Sem.run, Sem.run_pure, hb, K.check, mEs_toList, hf]
  cases hfl : findL encV a l 0 with
  | none =>
    have hl := (findL_none encV a l 0).1 hfl
    simp only [hl, Option.isSome_none, Bool.false_eq_true, if_false, setObj, Sem.run, hb, putL_none a v clk l hl]
    simp [setBlock, mEs, mEl]
  | some p =>
    obtain ⟨i, x⟩ := p
    have hne : look a l ≠ none := fun h => by rw [(findL_none encV a l 0).2 h] at hfl; simp at hfl
    have hl : (look a l).isSome = true := by cases h : look a l <;> simp_all
    obtain ⟨_, ⟨q, hq, hqa⟩, h3, _⟩ := findL_some enc encV a v clk l 0 i x hfl
    have hk : (((mEs enc encV l)[i]?).map (·.key)).getD (enc a) = enc a := by
      have : (mEs enc encV l)[i]? = some { key := enc q.1, val := encV q.2.1, born := q.2.2 } := by
        simp only [Nat.sub_zero] at hq
        simp [mEs, mEl, hq]
      rw [this]; simp [hqa]
    simp only [hk, Instr.keyThatStays, K.same a, if_true, Sem.run_bind, Sem.run, Result.andThen, hl, setObj, hb, pure]
    congr 3
    simp only [mEs, Nat.sub_zero] at h3 ⊢
    rw [← h3]
    simp

theorem run_delete_at (K : KeyEnc P k enc) (ht : P.underlying t = some (.map k e))
    (hb : w.heap[b]? = some (.map (mEs enc encV l) clk)) (a : α) (ty : TypeId) :
    (Builtin.delete_ #[t, k] ty #[.map (some b), enc a]).run P w = .ok (.tuple #[]) (setBlock w b (.map (mEs enc encV (delL a l)) clk)) := by
  have hf := K.find encV a l w
  simp only [Builtin.delete_, List.getElem?_toArray, List.getElem?_cons_zero, List.getElem?_cons_succ, Sem.run_bind, run_underlying ht, Result.andThen, getObj, Sem.run, Sem.run_pure, hb, K.check, mEs_toList, hf]
  cases hfl : findL encV a l 0 with
  | none =>
    have hl := (findL_none encV a l 0).1 hfl
    simp only [setObj, Sem.run, hb, delL_none a l hl, Result.andThen, Sem.run_bind]
    rfl
  | some p =>
    obtain ⟨i, x⟩ := p
    cases l with
    | nil => simp [findL] at hfl
    | cons p0 l0 =>
    obtain ⟨_, ⟨q, hq, hqa⟩, _, h4⟩ := findL_some enc encV a p0.2.1 clk (p0 :: l0) 0 i x hfl
    simp only [setObj, Sem.run, hb, Result.andThen, Sem.run_bind]
    simp only [Nat.sub_zero] at h4 hq
    have hi : i < (mEl enc encV (p0 :: l0)).length := by
      have := (List.getElem?_eq_some_iff.1 hq).1
      simpa [mEl] using this
    have he : (mEs enc encV (p0 :: l0)).eraseIdxIfInBounds i = mEs enc encV (delL a (p0 :: l0)) := by
      simp only [mEs, ← h4, Array.eraseIdxIfInBounds]
      have hi' : i < (mEl enc encV (p0 :: l0)).toArray.size := by simpa using hi
      simp [hi]
    rw [he]
    rfl

omit [DecidableEq α] in
theorem run_len_map_at (hb : w.heap[b]? = some (.map (mEs enc encV l) clk)) (ht : P.underlying t = some (.map k e)) (ty : TypeId) :
    (Builtin.len_ #[t] ty #[.map (some b)]).run P w = .ok (.int .i64 l.length) w := by
  simp [Builtin.len_, Sem.run_bind, run_underlying ht, Result.andThen, getObj, Sem.run, hb, mEs_size, goInt]
end

/-- a delete, its world behind a name -/
theorem delete_world {P : Program} {k e t : TypeId} {α β : Type} [DecidableEq α] {enc : α → Value} {encV : β → Value} {l : List (α × β × Nat)} {b clk : Nat} {w : World}
    (K : KeyEnc P k enc) (ht : P.underlying t = some (.map k e)) (hb : w.heap[b]? = some (.map (mEs enc encV l) clk)) (a : α) (ty : TypeId) :
    ∃ W : World, (Builtin.delete_ #[t, k] ty #[.map (some b), enc a]).run P w = .ok (.tuple #[]) W ∧ W.heap[b]? = some (.map (mEs enc encV (delL a l)) clk) ∧
      (∀ i, i ≠ b → W.heap[i]? = w.heap[i]?) ∧ W.heap.size = w.heap.size ∧ W.os = w.os ∧ W.tape = w.tape ∧ W.output = w.output := by
  refine ⟨_, run_delete_at K ht hb a ty, ?_, ?_, by simp [setBlock], rfl, rfl, rfl⟩
  · simp [setBlock, lt_of_block hb]
  · intro i hi; simp only [setBlock, Array.getElem?_setIfInBounds]; rw [if_neg (Ne.symm hi)]
/-- a store into a map, its world behind a name -/
theorem update_world {P : Program} {k e t : TypeId} {α β : Type} [DecidableEq α] {enc : α → Value} {encV : β → Value} {l : List (α × β × Nat)} {b clk : Nat} {w : World}
    (K : KeyEnc P k enc) (ht : P.underlying t = some (.map k e)) (hb : w.heap[b]? = some (.map (mEs enc encV l) clk)) (a : α) (v : β) :
    ∃ W : World, (Instr.mapUpdate t (.map (some b)) (enc a) (encV v)).run P w = .ok () W ∧ W.heap[b]? = some (.map (mEs enc encV (putL a v clk l)) (if (look a l).isSome then clk else clk + 1)) ∧
      (∀ i, i ≠ b → W.heap[i]? = w.heap[i]?) ∧ W.heap.size = w.heap.size ∧ W.os = w.os ∧ W.tape = w.tape ∧ W.output = w.output := by
  refine ⟨_, run_update_at K ht hb a v, ?_, ?_, by simp [setBlock], rfl, rfl, rfl⟩
  · simp [setBlock, lt_of_block hb]
  · intro i hi; simp only [setBlock, Array.getElem?_setIfInBounds]; rw [if_neg (Ne.symm hi)]

/-- the builtin delete, by what it comes to -/
theorem wpList_delete_at {P : Program} {w w' : World} {ops : Array Oper} {rest : List Oper} {o : Oper} {a : Act} {Q : Exit → Act → World → Prop}
    (hg : o.guard = none) (m x : Operand) (t k : TypeId) (hop : o.op = Op.call { callee := Callee.builtin Builtin.delete, args := #[m, x], argTypes := #[t, k] })
    {vm vx : Value} (hm : a.eval m = vm) (hx : a.eval x = vx) (hrun : (Builtin.delete_ #[t, k] o.type #[vm, vx]).run P w = .ok (.tuple #[]) w')
    (h : wpList P ops Q rest (a.put o.dst (.tuple #[])) w') : wpList P ops Q (o :: rest) a w := by
  refine wpList_plain hg fun K hK => ?_
  unfold Oper.wp
  simp [execOp, hop, resolve, invoke, builtin, hm, hx, hrun, Result.andThen]
  exact hK _ _ h

/-- 'm[k], .. = ..': a key that is not there is laid first, with a zero value -/
theorem mapEntry_world {P : Program} {k e t : TypeId} {α β : Type} [DecidableEq α] {enc : α → Value} {encV : β → Value} {l : List (α × β × Nat)} {b clk : Nat} {w : World}
    (K : KeyEnc P k enc) (ht : P.underlying t = some (.map k e)) (hb : w.heap[b]? = some (.map (mEs enc encV l) clk)) (a : α) (ha : look a l = none) {z : Value} (hz : ∀ w, (zeroValue e).run P w = .ok z w) :
    ∃ W : World, (Instr.mapEntry t (.map (some b)) (enc a)).run P w = .ok (.tuple #[z, .int .i64 clk]) W ∧ W.heap[b]? = some (.map ((mEs enc encV l).push { key := enc a, val := z, born := clk }) (clk + 1)) ∧
      (∀ i, i ≠ b → W.heap[i]? = w.heap[i]?) ∧ W.heap.size = w.heap.size ∧ W.os = w.os ∧ W.tape = w.tape ∧ W.output = w.output := by
  refine ⟨setBlock w b (.map ((mEs enc encV l).push { key := enc a, val := z, born := clk }) (clk + 1)), ?_, ?_, ?_, by simp [setBlock], rfl, rfl, rfl⟩
  · have hf := K.find encV a l w
    rw [(findL_none encV a l 0).2 ha] at hf
    simp only [Instr.mapEntry, Sem.run_bind, run_underlying ht, Result.andThen, getObj, Sem.run, hb, K.check, mEs_toList, hf, hz, setObj]
    rfl
  · simp [setBlock, lt_of_block hb]
  · intro i hi; simp only [setBlock, Array.getElem?_setIfInBounds]; rw [if_neg (Ne.symm hi)]

theorem entryStore_world {P : Program} {t : TypeId} {α β : Type} [DecidableEq α] {enc : α → Value} {encV : β → Value} {l : List (α × β × Nat)} {b clk clk2 : Nat} {w : World} (a : α) (z : Value)
    (hb : w.heap[b]? = some (.map ((mEs enc encV l).push { key := enc a, val := z, born := clk }) clk2)) (hl : ∀ p ∈ l, p.2.2 < clk) (v : β) :
    ∃ W : World, (Instr.entryStore t (.map (some b)) (.int .i64 clk) (encV v)).run P w = .ok () W ∧ W.heap[b]? = some (.map (mEs enc encV (l ++ [(a, v, clk)])) clk2) ∧
      (∀ i, i ≠ b → W.heap[i]? = w.heap[i]?) ∧ W.heap.size = w.heap.size ∧ W.os = w.os ∧ W.tape = w.tape ∧ W.output = w.output := by
  refine ⟨setBlock w b (.map (mEs enc encV (l ++ [(a, v, clk)])) clk2), ?_, ?_, ?_, by simp [setBlock], rfl, rfl, rfl⟩
  · have hidx : ((mEs enc encV l).push { key := enc a, val := z, born := clk }).findIdx? (fun e => (e.born : Int) == (clk : Int)) = some l.length := by
      have h1 : (mEs enc encV l).findIdx? (fun e => (e.born : Int) == (clk : Int)) = none := by
        unfold mEs
        rw [List.findIdx?_toArray, List.findIdx?_eq_none_iff]
        intro x hx
        obtain ⟨p, hp, rfl⟩ := List.mem_map.1 hx
        have := hl p hp
        simp only [beq_eq_false_iff_ne, ne_eq]
        omega
      rw [Array.findIdx?_push, h1]
      simp [mEs_size]
    have hm : ((mEs enc encV l).push { key := enc a, val := z, born := clk }).modify l.length (fun e => { e with val := encV v }) = mEs enc encV (l ++ [(a, v, clk)]) := by
      apply Array.ext'
      apply List.ext_getElem?
      intro i
      simp only [Array.toList_modify, Array.toList_push, mEs_toList, mEl, List.map_append, List.map_cons, List.map_nil, List.getElem?_modify]
      by_cases h1 : i < l.length
      · rw [List.getElem?_append_left (by simpa using h1), List.getElem?_append_left (by simpa using h1)]
        have : ¬ l.length = i := by omega
        simp [this]
      · rw [List.getElem?_append_right (by simp; omega), List.getElem?_append_right (by simp; omega)]
        simp only [List.length_map]
        by_cases h2 : i = l.length
        · subst h2; simp
        · have : i - l.length ≠ 0 := by omega
          obtain ⟨j, hj⟩ : ∃ j, i - l.length = j + 1 := ⟨i - l.length - 1, by omega⟩
          rw [hj]; simp
    have hai : (asInt (Value.int .i64 clk)).run P w = .ok (clk : Int) w := rfl
    simp only [Instr.entryStore, Sem.run_bind, Result.andThen, getObj, Sem.run, hb, hai, hidx, hm, setObj]
    rfl
  · simp [setBlock, lt_of_block hb]
  · intro i hi; simp only [setBlock, Array.getElem?_setIfInBounds]; rw [if_neg (Ne.symm hi)]

end Go.Lod

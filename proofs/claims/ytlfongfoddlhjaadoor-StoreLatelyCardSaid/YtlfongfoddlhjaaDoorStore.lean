/- The store: the plain model, and how it lies in memory. -/
import Derived.Test.YtlfongfoddlhjaaDoorTyDef
import Derived.Lib.Join
namespace Go.Lod
open Go Go.RowKit
open Go.ChangeMaps (setBlock)

/-! ### The plain model -/
structure Ent where
  id : Int
  kind : Int
  name : ByteArray
  names : List ByteArray
  args : List Int
  ret : Int
  pins : Int
  held : Int
  used : Int

structure St where
  cap : Int
  given : Int
  clock : Int
  ents : List Ent

def fieldsOf (ns : List ByteArray) : ByteArray := ⟨(Lib.join (ns.map (·.data.toList)) [32]).toArray⟩
def idBytes (x : Int) : List UInt8 := (List.range 8).map fun i => UInt8.ofNat (x.toNat / 2 ^ (8 * i) % 256)
def partsOf (ids : List Int) : ByteArray := ⟨(ids.flatMap idBytes).toArray⟩
def Ent.shape (e : Ent) : Shape := ⟨e.kind, e.name, fieldsOf e.names, partsOf e.args, e.ret⟩

def wrapu (x : Int) : Int := IntKind.u64.wrap x

def updL (l : List Ent) (id : Int) (f : Ent → Ent) : List Ent := l.map fun e => if e.id = id then f e else e
def St.upd (s : St) (id : Int) (f : Ent → Ent) : St := { s with ents := updL s.ents id f }
def Ent.addHeld (by_ : Int) (e : Ent) : Ent := { e with held := wrap64 (e.held + by_) }
def St.hold (s : St) (ids : List Int) (by_ : Int) : St := ids.foldl (fun s id => s.upd id (Ent.addHeld by_)) s

def St.find (s : St) (id : Int) : Option Ent := s.ents.find? (fun e => e.id == id)
def St.at (s : St) (sh : Shape) : Option Ent := s.ents.find? (fun e => e.shape == sh)

/-- what stands behind the parts: an entry is found or made -/
def St.layOne (s : St) (kind : Int) (name : ByteArray) (names : List ByteArray) (args : List Int) (ret : Int) : St × Int :=
  let s1 : St := { s with clock := wrapu (s.clock + 1) }
  match s1.at ⟨kind, name, fieldsOf names, partsOf args, ret⟩ with
  | some e => (s1.upd e.id (fun e => { e with used := s1.clock }), e.id)
  | none =>
    let id := wrapu (s1.given + 1)
    let e : Ent := { id, kind, name, names, args, ret, pins := 0, held := 0, used := 0 }
    let s2 : St := { s1 with given := id, ents := s1.ents ++ [e] }
    ((s2.hold (ret :: args) 1).upd id (fun e => { e with used := s1.clock }), id)

mutual
def St.lay (s : St) : Ty → St × Int
  | .nil => (s, 0)
  | .mk k nm ns gs r =>
    let (s1, ids) := s.layL gs
    let (s2, ret) := s1.lay r
    s2.layOne k nm ns ids ret
def St.layL (s : St) : List Ty → St × List Int
  | [] => (s, [])
  | t :: ts =>
    let (s1, id) := s.lay t
    let (s2, ids) := s1.layL ts
    (s2, id :: ids)
end

def Ent.loose (e : Ent) : Bool := e.pins == 0 && e.held == 0
/-- the one that was used least lately, of those that nobody holds -/
def leastL : List Ent → Option Ent
  | [] => none
  | e :: l =>
    match leastL l with
    | none => if e.loose then some e else none
    | some b => if e.loose && decide (e.used ≤ b.used) then some e else some b
def St.least (s : St) : Option Ent := leastL s.ents
def St.evict (s : St) (e : Ent) : St :=
  let s1 := s.hold (e.ret :: e.args) (-1)
  { s1 with ents := s1.ents.filter (fun x => x.id != e.id) }
def St.roomN : Nat → St → St
  | 0, s => s
  | n + 1, s => if (s.ents.length : Int) ≤ s.cap then s else
    match s.least with
    | none => s
    | some e => St.roomN n (s.evict e)
def St.room (s : St) : St := St.roomN s.ents.length s

def Ent.addPins (by_ : Int) (e : Ent) : Ent := { e with pins := wrap64 (e.pins + by_) }
def St.intern (s : St) (t : Ty) : St × Int :=
  let (s1, id) := s.lay t
  ((s1.upd id (Ent.addPins 1)).room, id)
def St.release (s : St) (id : Int) : St × Int :=
  match s.find id with
  | none => (s, 5)
  | some e => if e.pins = 0 then (s, 2) else ((s.upd id (Ent.addPins (-1))).room, 0)

/-! ### In memory -/
/-- where an entry lies: its block, its names, its parts' ids -/
structure Site where
  blk : Nat
  nv : Value
  av : Value

def encP (p : Site) : Value := .pointer (some ⟨p.blk, 0, none⟩)
def encU (x : Int) : Value := .int .u64 x

def cellsOfEnt (p : Site) (e : Ent) : Array Value :=
  #[.int .i64 e.kind, .string e.name, .string (fieldsOf e.names), .string (partsOf e.args), .int .u64 e.ret, p.nv, p.av, .int .i64 e.pins, .int .i64 e.held, .int .u64 e.used]

structure EntAt (w : World) (own : Nat → Prop) (p : Site) (e : Ent) : Prop where
  mine : own p.blk
  heap : w.heap[p.blk]? = some (.cells (cellsOfEnt p e) 59 (0, 0))
  names : SlAt w own 9 p.nv (e.names.map .string)
  args : SlAt w own 28 p.av (e.args.map (.int .u64))

def BornOk {α β : Type} (l : List (α × β × Nat)) (clk : Nat) : Prop := (∀ p ∈ l, p.2.2 < clk) ∧ (l.map (·.2.2)).Nodup

/-- what a store's blocks are: maps, and cells of these types -/
def GoodKind : Option Obj → Prop
  | some (.map _ _) => True
  | some (.cells _ T _) => T = 54 ∨ T = 59 ∨ T = 9 ∨ T = 28
  | _ => False
theorem GoodKind.setCell {w : World} {k : Nat} (h : GoodKind w.heap[k]?) (a : Addr) (v : Value) : GoodKind (w.setCell a v).heap[k]? := by
  by_cases hk : k = a.block
  · subst hk
    cases ho : w.heap[a.block]? with
    | none => rw [ho] at h; exact h.elim
    | some o =>
      rw [ho] at h
      simp only [World.setCell, Array.getElem?_modify, if_true, ho, Option.map_some]
      cases o <;> first | exact h | exact h.elim
  · rw [Below.heap_setCell _ _ _ _ hk]; exact h

/-- the store of block bs lies in memory as s, its entries at pl -/
structure StoreAt (w : World) (own : Nat → Prop) (bs be bk : Nat) (pl : Int → Site) (s : St) : Prop where
  mine : own bs ∧ own be ∧ own bk
  low : ∀ k, own k → k < w.heap.size
  kinds : ∀ k, own k → GoodKind w.heap[k]?
  main : w.heap[bs]? = some (.cells #[.int .i64 s.cap, .int .u64 s.given, .int .u64 s.clock, .map (some be), .map (some bk)] 54 (0, 0))
  entries : ∃ l clk, w.heap[be]? = some (.map (mEs (.int .u64) encP l) clk) ∧ l.map (fun p => (p.1, p.2.1)) = s.ents.map (fun e => (e.id, pl e.id)) ∧ BornOk l clk
  known : ∃ l clk, w.heap[bk]? = some (.map (mEs encShape (.int .u64) l) clk) ∧ l.map (fun p => (p.1, p.2.1)) = s.ents.map (fun e => (e.shape, e.id)) ∧ BornOk l clk
  ents : ∀ e ∈ s.ents, EntAt w own (pl e.id) e
  maps : be ≠ bk
  apart : ∀ e ∈ s.ents, ∀ e' ∈ s.ents, (pl e.id).blk = (pl e'.id).blk → e.id = e'.id

theorem EntAt.kept {w w' : World} {own own' : Nat → Prop} {p : Site} {e : Ent} (h : EntAt w own p e)
    (hk : ∀ k o, own k → w.heap[k]? = some o → w'.heap[k]? = some o ∧ own' k) : EntAt w' own' p e :=
  ⟨(hk _ _ h.mine h.heap).2, (hk _ _ h.mine h.heap).1, h.names.kept hk, h.args.kept hk⟩

theorem StoreAt.kept {w w' : World} {own : Nat → Prop} {bs be bk : Nat} {pl : Int → Site} {s : St} (h : StoreAt w own bs be bk pl s)
    (hk : ∀ k, own k → w'.heap[k]? = w.heap[k]?) (hsz : w.heap.size ≤ w'.heap.size) : StoreAt w' own bs be bk pl s := by
  obtain ⟨l, clk, h1, h2, h3⟩ := h.entries
  obtain ⟨l', clk', k1, k2, k3⟩ := h.known
  exact ⟨h.mine, fun k ho => Nat.lt_of_lt_of_le (h.low k ho) hsz, fun k ho => by rw [hk k ho]; exact h.kinds k ho, (hk _ h.mine.1).trans h.main,
    ⟨l, clk, (hk _ h.mine.2.1).trans h1, h2, h3⟩, ⟨l', clk', (hk _ h.mine.2.2).trans k1, k2, k3⟩, fun e he => (h.ents e he).kept (fun k o ho hko => ⟨(hk k ho).trans hko, ho⟩), h.maps, h.apart⟩
theorem StoreAt.below {w w' : World} {own : Nat → Prop} {bs be bk : Nat} {pl : Int → Site} {s : St} (h : StoreAt w own bs be bk pl s) (hb : Below w.heap.size w w') : StoreAt w' own bs be bk pl s :=
  h.kept (fun k hk => hb.block k (h.low k hk)) hb.size

theorem look_map {α β : Type} [DecidableEq α] (a : α) : ∀ (l : List (α × β × Nat)), look a l = ((l.map fun p => (p.1, p.2.1)).find? (fun p => decide (p.1 = a))).map (·.2)
  | [] => rfl
  | p :: l => by
    simp only [look, List.map_cons, List.find?_cons]
    by_cases h : p.1 = a
    · simp [h]
    · simp [h, look_map a l]

theorem find_map_id (l : List Ent) (pl : Int → Site) (id : Int) :
    (((l.map fun e => (e.id, pl e.id)).find? (fun p => decide (p.1 = id))).map (·.2)) = (l.find? (fun e => e.id == id)).map (fun e => pl e.id) := by
  induction l with
  | nil => rfl
  | cons e l ih =>
    simp only [List.map_cons, List.find?_cons]
    by_cases h : e.id = id
    · simp [h]
    · simp only [h, decide_false, beq_eq_false_iff_ne.2 h]; exact ih

theorem find_map_shape (l : List Ent) (sh : Shape) :
    (((l.map fun e => (e.shape, e.id)).find? (fun p => decide (p.1 = sh))).map (·.2)) = (l.find? (fun e => e.shape == sh)).map (fun e => e.id) := by
  induction l with
  | nil => rfl
  | cons e l ih =>
    simp only [List.map_cons, List.find?_cons]
    by_cases h : e.shape = sh
    · simp [h]
    · simp only [h, decide_false, beq_eq_false_iff_ne.2 h]; exact ih

/-- what a look for an id comes to -/
theorem StoreAt.look_id {w : World} {own : Nat → Prop} {bs be bk : Nat} {pl : Int → Site} {s : St} (h : StoreAt w own bs be bk pl s) :
    ∃ l clk, w.heap[be]? = some (.map (mEs (.int .u64) encP l) clk) ∧ l.map (fun p => (p.1, p.2.1)) = s.ents.map (fun e => (e.id, pl e.id)) ∧ BornOk l clk ∧
      ∀ id, look id l = (s.find id).map (fun e => pl e.id) := by
  obtain ⟨l, clk, h1, h2, h3⟩ := h.entries
  exact ⟨l, clk, h1, h2, h3, fun id => by rw [look_map, h2, find_map_id]; rfl⟩

theorem StoreAt.look_shape {w : World} {own : Nat → Prop} {bs be bk : Nat} {pl : Int → Site} {s : St} (h : StoreAt w own bs be bk pl s) :
    ∃ l clk, w.heap[bk]? = some (.map (mEs encShape (.int .u64) l) clk) ∧ l.map (fun p => (p.1, p.2.1)) = s.ents.map (fun e => (e.shape, e.id)) ∧ BornOk l clk ∧
      ∀ sh, look sh l = (s.at sh).map (fun e => e.id) := by
  obtain ⟨l, clk, h1, h2, h3⟩ := h.known
  exact ⟨l, clk, h1, h2, h3, fun sh => by rw [look_map, h2, find_map_shape]; rfl⟩

theorem St.find_mem {s : St} {id : Int} {e : Ent} (h : s.find id = some e) : e ∈ s.ents ∧ e.id = id := by
  have := List.find?_some h
  exact ⟨List.mem_of_find?_eq_some h, by simpa using this⟩
theorem St.at_mem {s : St} {sh : Shape} {e : Ent} (h : s.at sh = some e) : e ∈ s.ents ∧ e.shape = sh := by
  have := List.find?_some h
  exact ⟨List.mem_of_find?_eq_some h, by simpa using this⟩

/-! ### Stores into the store's blocks -/
theorem heap_setCell_same {w : World} {b i : Nat} {cur : Array Value} {T : TypeId} {fz : Nat × Nat} (h : w.heap[b]? = some (.cells cur T fz)) (v : Value) :
    (w.setCell ⟨b, i, none⟩ v).heap[b]? = some (.cells (cur.setIfInBounds i v) T fz) := by
  simp [World.setCell, Array.getElem?_modify, h]

theorem updL_map_id (l : List Ent) (id : Int) (f : Ent → Ent) (hf : ∀ e, (f e).id = e.id) (g : Int → Site) : (updL l id f).map (fun e => (e.id, g e.id)) = l.map fun e => (e.id, g e.id) := by
  unfold updL
  rw [List.map_map]
  refine List.map_congr_left fun e _ => ?_
  simp only [Function.comp]
  by_cases h : e.id = id <;> simp [h, hf]

theorem updL_map_shape (l : List Ent) (id : Int) (f : Ent → Ent) (hf : ∀ e, (f e).id = e.id) (hs : ∀ e, (f e).shape = e.shape) : (updL l id f).map (fun e => (e.shape, e.id)) = l.map fun e => (e.shape, e.id) := by
  unfold updL
  rw [List.map_map]
  refine List.map_congr_left fun e _ => ?_
  simp only [Function.comp]
  by_cases h : e.id = id <;> simp [h, hf, hs]

theorem updL_mem {l : List Ent} {id : Int} {f : Ent → Ent} {e : Ent} (h : e ∈ updL l id f) : ∃ e0 ∈ l, e = if e0.id = id then f e0 else e0 := by
  obtain ⟨e0, h1, h2⟩ := List.mem_map.1 h
  exact ⟨e0, h1, h2.symm⟩

/-- one cell of an entry is written -/
theorem StoreAt.setEnt {w : World} {own : Nat → Prop} {bs be bk : Nat} {pl : Int → Site} {s : St} (h : StoreAt w own bs be bk pl s)
    {e : Ent} (he : e ∈ s.ents) (i : Nat) (v : Value) (f : Ent → Ent) (hid : ∀ x, (f x).id = x.id) (hsh : ∀ x, (f x).shape = x.shape)
    (hn : ∀ x, (f x).names = x.names) (ha : ∀ x, (f x).args = x.args)
    (huniq : ∀ x ∈ s.ents, x.id = e.id → x = e)
    (hc : (cellsOfEnt (pl e.id) e).setIfInBounds i v = cellsOfEnt (pl e.id) (f e)) :
    StoreAt (w.setCell ⟨(pl e.id).blk, i, none⟩ v) own bs be bk pl (s.upd e.id f) := by
  have E := h.ents e he
  have hk : ∀ k o, k ≠ (pl e.id).blk → w.heap[k]? = some o → (w.setCell ⟨(pl e.id).blk, i, none⟩ v).heap[k]? = some o := by
    intro k o hne ho
    rw [Below.heap_setCell _ _ _ _ hne]; exact ho
  have hsl : ∀ {T : TypeId} {v' : Value} {xs : List Value}, T ≠ 59 → SlAt w own T v' xs → SlAt (w.setCell ⟨(pl e.id).blk, i, none⟩ v) own T v' xs := by
    intro T v' xs hT hs
    rcases hs with hs | ⟨b, off, c, cur, fz, h1, h2, h3, h4, h5⟩
    · exact .inl hs
    · refine .inr ⟨b, off, c, cur, fz, h1, h2, h3, hk _ _ ?_ h4, h5⟩
      rintro rfl
      rw [E.heap] at h4
      simp only [Option.some.injEq, Obj.cells.injEq] at h4
      exact hT h4.2.1.symm
  obtain ⟨l, clk, h1, h2, h3⟩ := h.entries
  obtain ⟨l', clk', k1, k2, k3⟩ := h.known
  refine ⟨h.mine, fun k ho => by rw [World.size_setCell]; exact h.low k ho, fun k ho => (h.kinds k ho).setCell _ _, hk _ _ ?_ h.main, ⟨l, clk, hk _ _ ?_ h1, ?_, h3⟩, ⟨l', clk', hk _ _ ?_ k1, ?_, k3⟩, ?_, h.maps, ?_⟩
  · intro hb
    have := h.main; rw [hb, E.heap] at this
    simp only [Option.some.injEq, Obj.cells.injEq] at this
    exact absurd this.2.1 (by decide)
  · intro hb; rw [hb, E.heap] at h1; simp at h1
  · rw [h2]; exact (updL_map_id _ _ _ hid _).symm
  · intro hb; rw [hb, E.heap] at k1; simp at k1
  · rw [k2]; exact (updL_map_shape _ _ _ hid hsh).symm
  · intro x hx
    obtain ⟨x0, hx0, rfl⟩ := updL_mem hx
    have X := h.ents x0 hx0
    by_cases hxe : x0.id = e.id
    · have hxe' := huniq x0 hx0 hxe
      subst hxe'
      simp only [if_true]
      rw [hid]
      refine ⟨X.mine, ?_, ?_, ?_⟩
      · rw [heap_setCell_same X.heap, hc]
      · rw [hn]; exact hsl (by decide) X.names
      · rw [ha]; exact hsl (by decide) X.args
    · simp only [hxe, if_false]
      refine ⟨X.mine, hk _ _ (fun hb => hxe (h.apart x0 hx0 e he hb)) X.heap, hsl (by decide) X.names, hsl (by decide) X.args⟩
  · intro x hx y hy hxy
    obtain ⟨x0, hx0, rfl⟩ := updL_mem hx
    obtain ⟨y0, hy0, rfl⟩ := updL_mem hy
    have e1 : ∀ z : Ent, (if z.id = e.id then f z else z).id = z.id := by intro z; by_cases hz : z.id = e.id <;> simp [hz, hid]
    rw [e1, e1] at hxy ⊢
    exact h.apart x0 hx0 y0 hy0 hxy

/-! ### Facts about the model that the walks want -/
def St.ids (s : St) : List Int := s.ents.map (·.id)

theorem updL_ids (l : List Ent) (id : Int) (f : Ent → Ent) (hf : ∀ e, (f e).id = e.id) : (updL l id f).map (·.id) = l.map (·.id) := by
  unfold updL
  rw [List.map_map]
  refine List.map_congr_left fun e _ => ?_
  simp only [Function.comp]
  by_cases h : e.id = id <;> simp [h, hf]
theorem St.upd_ids (s : St) (id : Int) (f : Ent → Ent) (hf : ∀ e, (f e).id = e.id) : (s.upd id f).ids = s.ids := updL_ids _ _ _ hf
theorem St.hold_ids (ids : List Int) (by_ : Int) : ∀ s : St, (s.hold ids by_).ids = s.ids := by
  induction ids with
  | nil => intro s; rfl
  | cons x ids ih => intro s; exact (ih _).trans (s.upd_ids x _ fun _ => rfl)
theorem St.hold_snoc (s : St) (ids : List Int) (x : Int) (by_ : Int) : s.hold (ids ++ [x]) by_ = (s.hold ids by_).upd x (Ent.addHeld by_) := by
  simp [St.hold, List.foldl_append]
theorem St.upd_none {s : St} {id : Int} (f : Ent → Ent) (h : s.find id = none) : s.upd id f = s := by
  have : updL s.ents id f = s.ents := by
    unfold updL
    conv => rhs; rw [← List.map_id s.ents]
    refine List.map_congr_left fun e he => ?_
    have := List.find?_eq_none.1 h e he
    simp at this
    simp [this]
  unfold St.upd
  rw [this]
theorem uniq_of_nodup {s : St} (h : s.ids.Nodup) {e : Ent} (he : e ∈ s.ents) : ∀ x ∈ s.ents, x.id = e.id → x = e := by
  intro x hx hxe
  unfold St.ids at h
  generalize s.ents = l at *
  induction l with
  | nil => simp at he
  | cons y l ih =>
    rw [List.map_cons, List.nodup_cons] at h
    rcases List.mem_cons.1 he with rfl | he' <;> rcases List.mem_cons.1 hx with rfl | hx'
    · rfl
    · exact absurd (List.mem_map.2 ⟨x, hx', hxe⟩) h.1
    · exact absurd (List.mem_map.2 ⟨e, he', hxe.symm⟩) h.1
    · exact ih h.2 he' hx'
theorem St.find_of_mem {s : St} (h : s.ids.Nodup) {e : Ent} (he : e ∈ s.ents) : s.find e.id = some e := by
  cases hf : s.find e.id with
  | none => have := List.find?_eq_none.1 hf e he; simp at this
  | some x => rw [uniq_of_nodup h he x (St.find_mem hf).1 (St.find_mem hf).2]

theorem St.upd_find (s : St) (id : Int) (f : Ent → Ent) (hf : ∀ e, (f e).id = e.id) (j : Int) : (s.upd id f).find j = (s.find j).map fun e => if e.id = id then f e else e := by
  unfold St.find St.upd updL
  simp only
  generalize s.ents = l
  induction l with
  | nil => rfl
  | cons e l ih =>
    have e1 : (if e.id = id then f e else e).id = e.id := by by_cases h : e.id = id <;> simp [h, hf]
    simp only [List.map_cons, List.find?_cons, e1]
    by_cases h : e.id = j
    · simp [h]
    · simp only [beq_eq_false_iff_ne.2 h]; exact ih
theorem St.hold_find {j : Int} (by_ : Int) (ids : List Int) : ∀ (s : St) (e : Ent), s.find j = some e → ∃ h', (s.hold ids by_).find j = some { e with held := h' } := by
  induction ids with
  | nil => intro s e h; exact ⟨e.held, h⟩
  | cons x ids ih =>
    intro s e h
    have h1 := s.upd_find x (Ent.addHeld by_) (fun _ => rfl) j
    rw [h] at h1
    by_cases hx : e.id = x
    · simp only [Option.map_some, hx, if_true] at h1
      obtain ⟨h', hh⟩ := ih (s.upd x (Ent.addHeld by_)) _ h1
      exact ⟨h', hh⟩
    · simp only [Option.map_some, hx, if_false] at h1
      exact ih (s.upd x (Ent.addHeld by_)) e h1

theorem StoreAt.cells {w : World} {own : Nat → Prop} {bs be bk : Nat} {pl : Int → Site} {s : St} (h : StoreAt w own bs be bk pl s) :
    w.cell? ⟨bs, 0, none⟩ = some (.int .i64 s.cap) ∧ w.cell? ⟨bs, 1, none⟩ = some (.int .u64 s.given) ∧ w.cell? ⟨bs, 2, none⟩ = some (.int .u64 s.clock) ∧
    w.cell? ⟨bs, 3, none⟩ = some (.map (some be)) ∧ w.cell? ⟨bs, 4, none⟩ = some (.map (some bk)) := by
  simp [World.cell?, h.main]
theorem StoreAt.free {w : World} {own : Nat → Prop} {bs be bk : Nat} {pl : Int → Site} {s : St} (h : StoreAt w own bs be bk pl s) (i : Nat) : w.frozen? ⟨bs, i, none⟩ = false := by
  simp [World.frozen?, h.main]
theorem EntAt.cells {w : World} {own : Nat → Prop} {p : Site} {e : Ent} (h : EntAt w own p e) :
    w.cell? ⟨p.blk, 0, none⟩ = some (.int .i64 e.kind) ∧ w.cell? ⟨p.blk, 1, none⟩ = some (.string e.name) ∧ w.cell? ⟨p.blk, 2, none⟩ = some (.string (fieldsOf e.names)) ∧ w.cell? ⟨p.blk, 3, none⟩ = some (.string (partsOf e.args)) ∧
    w.cell? ⟨p.blk, 4, none⟩ = some (.int .u64 e.ret) ∧ w.cell? ⟨p.blk, 5, none⟩ = some p.nv ∧ w.cell? ⟨p.blk, 6, none⟩ = some p.av ∧ w.cell? ⟨p.blk, 7, none⟩ = some (.int .i64 e.pins) ∧
    w.cell? ⟨p.blk, 8, none⟩ = some (.int .i64 e.held) ∧ w.cell? ⟨p.blk, 9, none⟩ = some (.int .u64 e.used) := by
  simp [World.cell?, h.heap, cellsOfEnt]
theorem EntAt.free {w : World} {own : Nat → Prop} {p : Site} {e : Ent} (h : EntAt w own p e) (i : Nat) : w.frozen? ⟨p.blk, i, none⟩ = false := by
  simp [World.frozen?, h.heap]

/-! ### An entry goes -/
theorem heap_setBlock_eq {w : World} {b : Nat} {o o' : Obj} (h : w.heap[b]? = some o) : (setBlock w b o').heap[b]? = some o' := by
  simp [setBlock, lt_of_block h]
theorem heap_setBlock_ne {w : World} {b k : Nat} {o' : Obj} (h : k ≠ b) : (setBlock w b o').heap[k]? = w.heap[k]? := by
  simp only [setBlock, Array.getElem?_setIfInBounds]; rw [if_neg (Ne.symm h)]
theorem cell_setBlock_ne {w : World} {b : Nat} {o' : Obj} {a : Addr} (h : a.block ≠ b) : (setBlock w b o').cell? a = w.cell? a := World.cell?_of_block (heap_setBlock_ne h)
theorem size_setBlock (w : World) (b : Nat) (o' : Obj) : (setBlock w b o').heap.size = w.heap.size := by simp [setBlock]

section
variable {α β γ : Type} [DecidableEq α]
theorem delL_sub (a : α) : ∀ l : List (α × β × Nat), (delL a l).Sublist l
  | [] => List.Sublist.slnil
  | p :: l => by
    unfold delL
    by_cases h : p.1 = a
    · simp only [h, if_true]; exact List.sublist_cons_self _ _
    · simp only [h, if_false]; exact (delL_sub a l).cons_cons _
theorem BornOk.del {l : List (α × β × Nat)} {clk : Nat} (h : BornOk l clk) (a : α) : BornOk (delL a l) clk :=
  ⟨fun p hp => h.1 p ((delL_sub a l).subset hp), h.2.sublist ((delL_sub a l).map _)⟩
theorem delL_map (f : γ → α) (g : γ → β) (t : γ) : ∀ (l : List (α × β × Nat)) (xs : List γ), l.map (fun p => (p.1, p.2.1)) = xs.map (fun x => (f x, g x)) → (xs.map f).Nodup → t ∈ xs →
    (delL (f t) l).map (fun p => (p.1, p.2.1)) = (xs.filter fun x => decide (f x ≠ f t)).map (fun x => (f x, g x))
  | [], [], _, _, ht => by simp at ht
  | [], _ :: _, h, _, _ => by simp at h
  | _ :: _, [], h, _, _ => by simp at h
  | p :: l, x :: xs, h, hn, ht => by
    simp only [List.map_cons, List.cons.injEq, Prod.mk.injEq] at h
    obtain ⟨⟨h1, h2⟩, h3⟩ := h
    rw [List.map_cons, List.nodup_cons] at hn
    unfold delL
    by_cases he : p.1 = f t
    · have hx : f x = f t := h1 ▸ he
      simp only [he, if_true, List.filter_cons, hx, ne_eq, not_true_eq_false, decide_false, Bool.false_eq_true, if_false]
      rw [h3]
      congr 1
      symm
      rw [List.filter_eq_self]
      intro y hy
      simp only [decide_eq_true_eq]
      intro hyt
      exact hn.1 (List.mem_map.2 ⟨y, hy, by rw [hyt, hx]⟩)
    · have hx : f x ≠ f t := fun e => he (h1.trans e)
      have ht' : t ∈ xs := by
        rcases List.mem_cons.1 ht with rfl | h
        · exact absurd rfl hx
        · exact h
      simp only [he, if_false, List.filter_cons, ne_eq, hx, not_false_eq_true, decide_true, if_true, List.map_cons, List.cons.injEq, Prod.mk.injEq]
      exact ⟨⟨h1, h2⟩, delL_map f g t l xs h3 hn.2 ht'⟩
end

theorem filter_shape_id {l : List Ent} (hn : (l.map (·.shape)).Nodup) (hd : (l.map (·.id)).Nodup) {e : Ent} (he : e ∈ l) :
    (l.filter fun x => decide (x.shape ≠ e.shape)) = l.filter fun x => x.id != e.id := by
  refine List.filter_congr fun x hx => ?_
  have h1 : x.shape = e.shape → x = e := by
    intro h
    clear hd
    induction l with
    | nil => simp at he
    | cons y l ih =>
      rw [List.map_cons, List.nodup_cons] at hn
      rcases List.mem_cons.1 he with rfl | he' <;> rcases List.mem_cons.1 hx with rfl | hx'
      · rfl
      · exact absurd (List.mem_map.2 ⟨x, hx', h⟩) hn.1
      · exact absurd (List.mem_map.2 ⟨e, he', h.symm⟩) hn.1
      · exact ih hn.2 he' hx'
  have h2 := uniq_of_nodup (s := { cap := 0, given := 0, clock := 0, ents := l }) hd he x hx
  by_cases hi : x.id = e.id
  · simp [h2 hi]
  · have : x.shape ≠ e.shape := fun h => hi (by rw [h1 h])
    simp [hi, this]

/-- an entry is struck from both maps -/
theorem StoreAt.drop {w w2 : World} {own : Nat → Prop} {bs be bk : Nat} {pl : Int → Site} {s : St} (h : StoreAt w own bs be bk pl s) {e : Ent} (he : e ∈ s.ents)
    (hnd : s.ids.Nodup) (hsh : (s.ents.map (·.shape)).Nodup)
    {l : List (Int × Site × Nat)} {clk : Nat} (hl : l.map (fun p => (p.1, p.2.1)) = s.ents.map (fun e => (e.id, pl e.id))) (hlb : BornOk l clk)
    {l' : List (Shape × Int × Nat)} {clk' : Nat} (hl' : l'.map (fun p => (p.1, p.2.1)) = s.ents.map (fun e => (e.shape, e.id))) (hlb' : BornOk l' clk')
    (h2 : w2.heap[be]? = some (.map (mEs (.int .u64) encP (delL e.id l)) clk)) (h3 : w2.heap[bk]? = some (.map (mEs encShape (.int .u64) (delL e.shape l')) clk'))
    (hoth : ∀ k, k ≠ be → k ≠ bk → w2.heap[k]? = w.heap[k]?) (hsz : w2.heap.size = w.heap.size) : StoreAt w2 own bs be bk pl { s with ents := s.ents.filter fun x => x.id != e.id } := by
  obtain ⟨l0, clk0, h0, _, _⟩ := h.entries
  obtain ⟨k0, kc0, k1, _, _⟩ := h.known
  have hbs : bs ≠ be ∧ bs ≠ bk := by
    constructor
    · rintro rfl; rw [h.main] at h0; simp at h0
    · rintro rfl; rw [h.main] at k1; simp at k1
  have hkind : ∀ k, own k → GoodKind w2.heap[k]? := by
    intro k ho
    by_cases h1 : k = be
    · rw [h1, h2]; trivial
    · by_cases h2' : k = bk
      · rw [h2', h3]; trivial
      · rw [hoth k h1 h2']; exact h.kinds k ho
  have hne : ∀ (k : Nat) (cur : Array Value) (T : TypeId) (fz : Nat × Nat), w.heap[k]? = some (.cells cur T fz) → w2.heap[k]? = some (.cells cur T fz) := by
    intro k cur T fz hk
    rw [hoth k ?_ ?_]
    · exact hk
    · rintro rfl; rw [h0] at hk; simp at hk
    · rintro rfl; rw [k1] at hk; simp at hk
  refine ⟨h.mine, fun k ho => by rw [hsz]; exact h.low k ho, hkind, hne _ _ _ _ h.main, ⟨_, clk, h2, ?_, hlb.del _⟩, ⟨_, clk', h3, ?_, hlb'.del _⟩, ?_, h.maps, ?_⟩
  · have := delL_map (fun e : Ent => e.id) (fun e => pl e.id) e l s.ents hl hnd he
    rw [this]
    congr 1
    refine List.filter_congr fun x _ => ?_
    by_cases hx : x.id = e.id <;> simp [hx]
  · have := delL_map (fun e : Ent => e.shape) (fun e => e.id) e l' s.ents hl' hsh he
    rw [this, filter_shape_id hsh hnd he]
  · intro x hx
    have X := h.ents x (List.mem_filter.1 hx).1
    have hsl : ∀ {T : TypeId} {v' : Value} {xs : List Value}, SlAt w own T v' xs → SlAt w2 own T v' xs := by
      intro T v' xs hs
      rcases hs with hs | ⟨b, off, c, cur, fz, h1, h2, h3, h4, h5⟩
      · exact .inl hs
      · exact .inr ⟨b, off, c, cur, fz, h1, h2, h3, hne _ _ _ _ h4, h5⟩
    exact ⟨X.mine, hne _ _ _ _ X.heap, hsl X.names, hsl X.args⟩
  · intro x hx y hy
    exact h.apart x (List.mem_filter.1 hx).1 y (List.mem_filter.1 hy).1

/-- what the walks ask of a model's state -/
structure St.Ok (s : St) : Prop where
  nd : s.ids.Nodup
  nz : ∀ e ∈ s.ents, e.id ≠ 0
  us : (s.ents.map (·.used)).Nodup
  sh : (s.ents.map (·.shape)).Nodup
  ln : ∀ e ∈ s.ents, e.args.length < 2147483648

theorem St.upd_map {γ : Type} (g : Ent → γ) (s : St) (id : Int) (f : Ent → Ent) (hg : ∀ e, g (f e) = g e) : (s.upd id f).ents.map g = s.ents.map g := by
  unfold St.upd updL
  simp only [List.map_map]
  refine List.map_congr_left fun e _ => ?_
  simp only [Function.comp]
  by_cases h : e.id = id <;> simp [h, hg]
theorem St.hold_map {γ : Type} (g : Ent → γ) (by_ : Int) (hg : ∀ e, g (Ent.addHeld by_ e) = g e) (ids : List Int) : ∀ s : St, (s.hold ids by_).ents.map g = s.ents.map g := by
  induction ids with
  | nil => intro s; rfl
  | cons x ids ih => intro s; exact (ih _).trans (St.upd_map g s x _ hg)
theorem St.hold_cap (ids : List Int) (by_ : Int) : ∀ s : St, (s.hold ids by_).cap = s.cap ∧ (s.hold ids by_).given = s.given ∧ (s.hold ids by_).clock = s.clock := by
  induction ids with
  | nil => intro s; exact ⟨rfl, rfl, rfl⟩
  | cons x ids ih => intro s; exact ih _

theorem St.Ok.of_map {s s' : St} (h : s.Ok) (hm : s'.ents.map (fun e => (e.id, e.used, e.shape, e.args.length)) = s.ents.map (fun e => (e.id, e.used, e.shape, e.args.length))) : s'.Ok := by
  have g : ∀ {γ : Type} (f : Int × Int × Shape × Nat → γ), s'.ents.map (fun e => f (e.id, e.used, e.shape, e.args.length)) = s.ents.map (fun e => f (e.id, e.used, e.shape, e.args.length)) := by
    intro γ f
    have := congrArg (List.map f) hm
    simpa [List.map_map, Function.comp_def] using this
  refine ⟨?_, ?_, ?_, ?_, ?_⟩
  · have := g (fun t => t.1); unfold St.ids; rw [this]; exact h.nd
  · intro e he
    have : e.id ∈ s.ents.map (fun e => e.id) := by rw [← g (fun t => t.1)]; exact List.mem_map.2 ⟨e, he, rfl⟩
    obtain ⟨e0, h0, h1⟩ := List.mem_map.1 this
    rw [← h1]; exact h.nz e0 h0
  · rw [g (fun t => t.2.1)]; exact h.us
  · rw [g (fun t => t.2.2.1)]; exact h.sh
  · intro e he
    have : e.args.length ∈ s.ents.map (fun e => e.args.length) := by rw [← g (fun t => t.2.2.2)]; exact List.mem_map.2 ⟨e, he, rfl⟩
    obtain ⟨e0, h0, h1⟩ := List.mem_map.1 this
    rw [← h1]; exact h.ln e0 h0
theorem St.Ok.hold {s : St} (h : s.Ok) (ids : List Int) (by_ : Int) : (s.hold ids by_).Ok := h.of_map (St.hold_map _ by_ (fun _ => rfl) ids s)
theorem St.Ok.filter {s : St} (h : s.Ok) (p : Ent → Bool) : St.Ok { s with ents := s.ents.filter p } :=
  ⟨h.nd.sublist (List.filter_sublist.map _), fun e he => h.nz e (List.mem_filter.1 he).1, h.us.sublist (List.filter_sublist.map _), h.sh.sublist (List.filter_sublist.map _), fun e he => h.ln e (List.mem_filter.1 he).1⟩
theorem St.Ok.evict {s : St} (h : s.Ok) (e : Ent) : (s.evict e).Ok := (h.hold _ _).filter _

end Go.Lod

namespace Go.Proofs.YtlfongfoddlhjaaDoor
open Go Go.RowKit Go.Lod
theorem zero_entry (w : World) : (zeroValue 55).run Tryd.prog w = .ok (.pointer none) w := by kernel_rfl
theorem zero_u64 (w : World) : (zeroValue 28).run Tryd.prog w = .ok (.int .u64 0) w := by kernel_rfl

/-- 's.entries[id]' -/
theorem look_entry {w : World} {own : Nat → Prop} {bs be bk : Nat} {pl : Int → Site} {s : St} (h : StoreAt w own bs be bk pl s) (id : Int) (c : Bool) :
    (Instr.lookup 51 (.map (some be)) (.int .u64 id) c).run Tryd.prog w = .ok (lookVal encP (.pointer none) c ((s.find id).map fun e => pl e.id)) w := by
  obtain ⟨l, clk, h1, _, _, h4⟩ := h.look_id
  have := run_lookup_at keyU Tryd.underlying51 (zero_entry w) h1 id c
  rw [h4] at this
  exact this
/-- 's.known[shape]' -/
theorem look_known {w : World} {own : Nat → Prop} {bs be bk : Nat} {pl : Int → Site} {s : St} (h : StoreAt w own bs be bk pl s) (sh : Shape) (c : Bool) :
    (Instr.lookup 52 (.map (some bk)) (encShape sh) c).run Tryd.prog w = .ok (lookVal encU (.int .u64 0) c ((s.at sh).map fun e => e.id)) w := by
  obtain ⟨l, clk, h1, _, _, h4⟩ := h.look_shape
  have := run_lookup_at keyShape Tryd.underlying52 (zero_u64 w) h1 sh c
  rw [h4] at this
  exact this
end Go.Proofs.YtlfongfoddlhjaaDoor

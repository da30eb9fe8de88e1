/- The walk of the store's Type: a tree is laid anew, by what the entries tell. -/
import Derived.Test.YtlfongfoddlhjaaDoorStW8
namespace Go.Lod
open Go Go.RowKit
mutual
/-- what the entries tell of an id -/
def Reads (s : St) : Ty → Int → Prop
  | .nil, id => s.find id = none
  | .mk k nm ns gs r, id => ∃ e, s.find id = some e ∧ e.kind = k ∧ e.name = nm ∧ e.names = ns ∧ ReadsL s gs e.args ∧ Reads s r e.ret
def ReadsL (s : St) : List Ty → List Int → Prop
  | [], ids => ids = []
  | t :: ts, ids => ∃ i is, ids = i :: is ∧ Reads s t i ∧ ReadsL s ts is
end
theorem ReadsL.length {s : St} : ∀ {ts : List Ty} {ids : List Int}, ReadsL s ts ids → ids.length = ts.length
  | [], ids, h => by rw [show ids = [] from h]; rfl
  | t :: ts, ids, h => by
    obtain ⟨i, is, rfl, _, h2⟩ := h
    simp [ReadsL.length h2]
theorem ReadsL.get {s : St} : ∀ {ts : List Ty} {ids : List Int}, ReadsL s ts ids → ∀ (j : Nat) t, ts[j]? = some t → ∃ i, ids[j]? = some i ∧ Reads s t i
  | [], ids, h, j, t, ht => by simp at ht
  | t :: ts, ids, h, j, t', ht => by
    obtain ⟨i, is, rfl, h1, h2⟩ := h
    cases j with
    | zero => simp at ht; subst ht; exact ⟨i, rfl, h1⟩
    | succ j => simpa using ReadsL.get h2 j t' (by simpa using ht)
end Go.Lod
namespace Go.Proofs.YtlfongfoddlhjaaDoor
open Go Go.RowKit Go.Lod
set_option maxRecDepth 100000

theorem tysAt_append {w : World} {S : Nat → Prop} {t : Ty} {p : Value} (hp : TyAt w S t p) : ∀ {ts : List Ty} {ps : List Value}, TysAt w S ts ps → TysAt w S (ts ++ [t]) (ps ++ [p])
  | [], ps, h => by rw [show ps = [] from h]; exact ⟨p, [], rfl, hp, rfl⟩
  | t0 :: ts, ps, h => by
    obtain ⟨q, qs, rfl, h1, h2⟩ := h
    exact ⟨q, qs ++ [p], rfl, h1, tysAt_append hp h2⟩

/-- the type that is being laid anew -/
structure TInv (w : World) (eb : Nat) (k : Int) (nm : ByteArray) (nvv : Value) (ns : List ByteArray) (gs : List Ty) (j : Nat) (av : Value) (ps : List Value) (W : World) : Prop where
  kept : Below w.heap.size w W
  ebl : w.heap.size ≤ eb
  blk : W.heap[eb]? = some (.cells #[.int .i64 k, .string nm, nvv, av, .pointer none] 43 (0, 0))
  names : SlAt W (fun i => w.heap.size ≤ i ∧ i < eb) 9 nvv (ns.map .string)
  row : W.ownsRow w.heap.size 33 1 av j ps
  tys : TysAt W (fun i => w.heap.size ≤ i ∧ i ≠ eb ∧ av.ownBlock ≠ some i) (gs.take j) ps

variable {w W W' : World} {eb : Nat} {k : Int} {nm : ByteArray} {nvv av : Value} {ns : List ByteArray} {gs : List Ty} {j : Nat} {ps : List Value}
theorem TInv.later (h : TInv w eb k nm nvv ns gs j av ps W) (hB : Below W.heap.size W W') : TInv w eb k nm nvv ns gs j av ps W' := by
  have hk : ∀ i o, W.heap[i]? = some o → W'.heap[i]? = some o := fun i o ho => by rw [hB.block i (lt_of_block ho)]; exact ho
  exact ⟨h.kept.trans (hB.mono h.kept.size), h.ebl, hk _ _ h.blk, h.names.kept fun i o hS ho => ⟨hk _ _ ho, hS⟩, ownsRow_same h.row fun g o _ ho => hk _ _ ho, TysAt.kept (fun i o hS ho => ⟨hk _ _ ho, hS⟩) _ _ h.tys⟩

theorem TInv.push (h : TInv w eb k nm nvv ns gs j av ps W) {t : Ty} (ht : gs[j]? = some t) {p : Value} {B : Nat} (hp : TyAt W (fun i => B ≤ i) t p) (hB : w.heap.size ≤ B) (hBe : eb < B) (hBa : ∀ g, av.ownBlock = some g → g < B) {g cap : Nat}
    (hrow : W'.ownsRow w.heap.size 33 1 (.slice (some ⟨g, 0, none⟩) (j + 1) cap) (j + 1) (ps ++ [p]))
    (hg : (W.alloc (.cells #[p] 33)).grownBy W' av.ownBlock) (hgg : av.ownBlock = some g ∨ g = W.heap.size + 1) :
    TInv w eb k nm nvv ns gs (j + 1) (.slice (some ⟨g, 0, none⟩) (j + 1) cap) (ps ++ [p]) (W'.setCell ⟨eb, 3, none⟩ (.slice (some ⟨g, 0, none⟩) (j + 1) cap)) := by
  have hsz : W.heap.size ≤ W'.heap.size := by have := hg.size; simp at this; omega
  have hblk : ∀ i, i < W.heap.size → some i ≠ av.ownBlock → W'.heap[i]? = W.heap[i]? := by
    intro i hi hne
    rw [hg.block i (by simp; omega) hne]
    exact heap_alloc_old _ _ hi
  have hkind : ∀ i cu T fz, av.ownBlock = some i → W.heap[i]? = some (Obj.cells cu T fz) → T = 33 ∧ w.heap.size ≤ i := by
    intro i cu T fz ho hc
    obtain ⟨cu', hc', hb⟩ := ownsRow_kind h.row ho
    rw [hc'] at hc
    simp only [Option.some.injEq, Obj.cells.injEq] at hc
    exact ⟨hc.2.1.symm, hb⟩
  have hne : ∀ (i : Nat) (cu : Array Value) (T : TypeId) (fz : Nat × Nat), T ≠ 33 → W.heap[i]? = some (Obj.cells cu T fz) → W'.heap[i]? = some (Obj.cells cu T fz) := by
    intro i cu T fz hT hc
    rw [hblk i (lt_of_block hc) (fun e => hT (hkind i cu T fz e.symm hc).1)]
    exact hc
  have heb := hne eb _ _ _ (by decide) h.blk
  have hgeb : g ≠ eb := by
    rcases hgg with hgg | hgg
    · rintro rfl
      exact absurd (hkind _ _ _ _ hgg h.blk).1 (by decide)
    · have := lt_of_block h.blk; omega
  have hset : ∀ i o, i ≠ eb → W'.heap[i]? = some o → (W'.setCell ⟨eb, 3, none⟩ (.slice (some ⟨g, 0, none⟩) (j + 1) cap)).heap[i]? = some o := fun i o hi ho => by rw [Below.heap_setCell _ _ _ _ hi]; exact ho
  have htk : gs.take (j + 1) = gs.take j ++ [t] := by rw [List.take_add_one, ht]; rfl
  refine ⟨?_, h.ebl, ?_, ?_, ?_, ?_⟩
  · refine Below.setCell (p := ⟨eb, 3, none⟩) ?_ h.ebl _
    refine ⟨hg.os.trans h.kept.os, hg.tape.trans h.kept.tape, hg.output.trans h.kept.output, Nat.le_trans h.kept.size hsz, fun i hi => ?_⟩
    rw [hblk i (Nat.lt_of_lt_of_le hi h.kept.size)]
    · exact h.kept.block i hi
    · intro e
      obtain ⟨cu', hc', hb⟩ := ownsRow_kind h.row e.symm
      omega
  · rw [Go.Lod.heap_setCell_same heb]; simp
  · rcases h.names with hs | ⟨b, off, c, cu, fz, h1, h2, h3, h4, h5⟩
    · exact .inl hs
    · exact .inr ⟨b, off, c, cu, fz, h1, h2, h3, hset _ _ (by omega) (hne _ _ _ _ (by decide) h4), h5⟩
  · exact ownsRow_same hrow fun i o hi ho => hset _ _ (fun e => hgeb (by simp only [Value.ownBlock, Option.some.injEq] at hi; omega)) ho
  · rw [htk]
    refine tysAt_append ?_ ?_
    · refine hp.kept fun i o hi ho => ⟨hset _ _ (by omega) ?_, by omega, by omega, ?_⟩
      · rw [hblk i (lt_of_block ho) (fun e => by have := hBa i e.symm; omega)]; exact ho
      · intro e
        simp only [Value.ownBlock, Option.some.injEq] at e
        rcases hgg with hgg | hgg
        · have := hBa g hgg; omega
        · have := lt_of_block ho; omega
    · refine TysAt.kept (fun i o hi ho => ⟨hset _ _ hi.2.1 ?_, hi.1, hi.2.1, ?_⟩) _ _ h.tys
      · rw [hblk i (lt_of_block ho) (fun e => hi.2.2 e.symm)]; exact ho
      · intro e
        simp only [Value.ownBlock, Option.some.injEq] at e
        rcases hgg with hgg | hgg
        · exact hi.2.2 (by rw [hgg, e])
        · have := lt_of_block ho; omega

theorem TInv.grown (h : TInv w eb k nm nvv ns gs j av ps W) {p : Value} (hg : (W.alloc (.cells #[p] 33)).grownBy W' av.ownBlock) :
    W'.heap[eb]? = some (.cells #[.int .i64 k, .string nm, nvv, av, .pointer none] 43 (0, 0)) := by
  rw [hg.block eb (by have := lt_of_block h.blk; simp; omega) ?_]
  · rw [heap_alloc_old _ _ (lt_of_block h.blk)]; exact h.blk
  · intro e
    obtain ⟨cu', hc', hb⟩ := ownsRow_kind h.row e.symm
    rw [h.blk] at hc'
    simp at hc'

theorem info_ptr : (Tryd.prog.info? 33).map (fun i => (i.zero, i.size, i.bytes)) = some (some (.pointer none), 1, 8) := by kernel_rfl

def TypeAt (bs be bk : Nat) (T : Ty) : Prop :=
  ∀ (w : World) (own : Nat → Prop) (pl : Int → Site) (s : St) (id : Int), StoreAt w own bs be bk pl s → Reads s T id → T.Fits →
    Calls Tryd.prog 7 #[.pointer (some ⟨bs, 0, none⟩), .int .u64 id] w fun e w' => ∃ v, e = .returned (.tuple #[v, .bool (!T.isNil)]) ∧ TyAt w' (fun k => w.heap.size ≤ k) T v ∧ Below w.heap.size w w'

theorem type_nil (bs be bk : Nat) : TypeAt bs be bk .nil := by
  intro w own pl s id h hr _
  have hr : s.find id = none := hr
  have c3 := h.cells.2.2.2.1
  have hn := none_false c3
  have hlook := look_entry h id false
  simp only [hr, Option.map_none, lookVal, Option.getD_none, Bool.false_eq_true, if_false] at hlook
  clear h hr
  go_enter Tryd.func7, Tryd.ntmps7
  go_wp2_with (go_at_call 14; refine hn.mono ?_; clear hn; rintro e0 w0 ⟨rfl, hw0⟩; obtain rfl := hw0.symm)
  go_ret2
  exact ⟨_, rfl, rfl, Below.refl _ _⟩
end Go.Proofs.YtlfongfoddlhjaaDoor

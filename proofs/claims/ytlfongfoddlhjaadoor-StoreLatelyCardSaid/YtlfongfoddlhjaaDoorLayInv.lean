/- What holds while a type is laid: of the store so far, of the entry that is being made, of the parts' text. -/
import Derived.Test.YtlfongfoddlhjaaDoorStW5
import Derived.Test.YtlfongfoddlhjaaDoorStoreG
import Derived.Deep.AppendLies
namespace Go.Proofs.YtlfongfoddlhjaaDoor
open Go Go.RowKit Go.Lod

/-- the entry's block, as it is being made -/
def eCells (nv av : Value) : Array Value := #[.int .i64 0, .string ⟨#[]⟩, .string ⟨#[]⟩, .string ⟨#[]⟩, .int .u64 0, nv, av, .int .i64 0, .int .i64 0, .int .u64 0]

/-- own1: the store's blocks by now; av: the entry's parts so far; nv: its names -/
structure LayInv (w : World) (own own1 : Nat → Prop) (bs be bk : Nat) (pl1 : Int → Site) (eb : Nat) (nv av : Value) (ns : List ByteArray) (s1 : St) (ids : List Int) (l : List UInt8) (cur : Array Value) (W : World) : Prop where
  st : StoreAt W own1 bs be bk pl1 s1
  kept : Kept own w W
  sub : ∀ k, own k → own1 k
  sup : ∀ k, own1 k → own k ∨ w.heap.size ≤ k
  ebn : ¬ own1 eb
  ebl : w.heap.size ≤ eb
  ent : W.heap[eb]? = some (.cells cur 59 (0, 0))
  names : SlAt W (fun k => ¬ own1 k ∧ w.heap.size ≤ k ∧ k < eb) 9 nv (ns.map .string)
  row : W.ownsRow eb 28 1 av ids.length (ids.map (.int .u64))
  rown : ∀ g, av.ownBlock = some g → ¬ own1 g
  bld : BldAt W eb (eb + 1) l

theorem ownsRow_same {w w' : World} {base : Nat} {T : TypeId} {sz : Nat} {v : Value} {n : Nat} {xs : List Value} (h : w.ownsRow base T sz v n xs) (hk : ∀ g o, v.ownBlock = some g → w.heap[g]? = some o → w'.heap[g]? = some o) : w'.ownsRow base T sz v n xs := by
  obtain ⟨h1, h2⟩ := h
  refine ⟨h1, ?_⟩
  rcases h2 with h2 | ⟨g, cap, cur, e1, e2, e3, e4⟩
  · exact .inl h2
  · exact .inr ⟨g, cap, cur, e1, e2, hk g _ (by rw [e1]; rfl) e3, e4⟩

theorem ownsRow_kind {w : World} {base : Nat} {T : TypeId} {v : Value} {n : Nat} {xs : List Value} (h : w.ownsRow base T 1 v n xs) {g : Nat} (hg : v.ownBlock = some g) : ∃ cur, w.heap[g]? = some (.cells cur T (0, 0)) ∧ base ≤ g := by
  rcases h.2 with ⟨rfl, _⟩ | ⟨g', cap, cur, e1, e2, e3, e4⟩
  · simp [Value.ownBlock] at hg
  · rw [e1] at hg
    simp only [Value.ownBlock, Option.some.injEq] at hg
    subst hg
    exact ⟨cur, e3, e2⟩

variable {w W W' : World} {own own1 own2 : Nat → Prop} {bs be bk eb : Nat} {pl1 pl2 : Int → Site} {nv av : Value} {ns : List ByteArray} {s1 s2 : St} {ids : List Int} {l : List UInt8} {cur : Array Value}

/-- a part has been laid -/
theorem LayInv.laid (h : LayInv w own own1 bs be bk pl1 eb nv av ns s1 ids l cur W) (hs : StoreAt W' own2 bs be bk pl2 s2) (hk : Kept own1 W W') (hsub : ∀ k, own1 k → own2 k) (hsup : ∀ k, own2 k → own1 k ∨ W.heap.size ≤ k) :
    LayInv w own own2 bs be bk pl2 eb nv av ns s2 ids l cur W' := by
  have hnew : ∀ k o, ¬ own1 k → W.heap[k]? = some o → W'.heap[k]? = some o ∧ ¬ own2 k := fun k o hn ho =>
    ⟨hk.heap hn ho, fun h2 => (hsup k h2).elim hn (fun h3 => by have := lt_of_block ho; omega)⟩
  refine ⟨hs, h.kept.trans hk h.sup, fun k hk => hsub k (h.sub k hk), fun k h2 => ?_, (hnew _ _ h.ebn h.ent).2, h.ebl, (hnew _ _ h.ebn h.ent).1, ?_, ?_, ?_, ?_⟩
  · rcases hsup k h2 with h3 | h3
    · exact h.sup k h3
    · have := h.kept.size; exact .inr (by omega)
  · exact h.names.kept fun k o hS ho => ⟨(hnew k o hS.1 ho).1, (hnew k o hS.1 ho).2, hS.2⟩
  · exact ownsRow_same h.row fun g o hg ho => (hnew g o (h.rown g hg) ho).1
  · intro g hg
    obtain ⟨cur, hc, _⟩ := ownsRow_kind h.row hg
    exact (hnew g _ (h.rown g hg) hc).2
  · refine bld_kept h.bld fun k c T fz hT hc => (hnew k _ ?_ hc).1
    intro ho
    have := h.st.kinds k ho
    rw [hc] at this
    rcases hT with rfl | rfl <;> simp [GoodKind] at this

/-- whatever leaves alone what lies in the blocks from eb on, but for new blocks and bytes of the builder -/
theorem LayInv.wrote (h : LayInv w own own1 bs be bk pl1 eb nv av ns s1 ids l cur W) {l' : List UInt8} (hb : BldAt W' eb (eb + 1) l') (hB : Below eb W W') (ho : Lib.OthersKept 5 (some (eb + 1)) W W') :
    LayInv w own own1 bs be bk pl1 eb nv av ns s1 ids l' cur W' := by
  obtain ⟨pc, hpc⟩ := bld_lt h.bld
  have hnp : ¬ own1 (eb + 1) := fun hh => by
    have := h.st.kinds _ hh
    rw [hpc] at this
    simp [GoodKind] at this
  have hcell : ∀ (k : Nat) (c : Array Value) (T : TypeId) (fz : Nat × Nat), T ≠ 5 → T ≠ 69 → W.heap[k]? = some (Obj.cells c T fz) → W'.heap[k]? = some (Obj.cells c T fz) := by
    intro k c T fz h1 h2 hc
    refine ho k _ hc ?_ ?_
    · intro e
      simp only [Option.some.injEq] at e
      subst e
      rw [hpc] at hc
      simp only [Option.some.injEq, Obj.cells.injEq] at hc
      exact h2 hc.2.1.symm
    · intro c' fz' e
      simp only [Obj.cells.injEq] at e
      exact h1 e.2.1
  have hown : ∀ k, own1 k → W'.heap[k]? = W.heap[k]? := by
    intro k hk
    have hlt := h.st.low k hk
    have hkind := h.st.kinds k hk
    have hne : k ≠ eb + 1 := fun e => hnp (e ▸ hk)
    cases hh : W.heap[k]? with
    | none => simp [Array.getElem?_eq_none_iff] at hh; omega
    | some o =>
      refine ho k o hh (by simpa using hne) ?_
      rintro c fz rfl
      rw [hh] at hkind
      simp [GoodKind] at hkind
  refine ⟨h.st.kept hown hB.size, h.kept.trans (own' := fun k => eb ≤ k) ⟨hB.os, hB.tape, hB.output, hB.size, fun k _ hn => hB.block k (by omega)⟩ (fun k hk => .inr (Nat.le_trans h.ebl hk)), h.sub, h.sup, h.ebn, h.ebl,
    hcell _ _ _ _ (by decide) (by decide) h.ent, ?_, ?_, h.rown, hb⟩
  · rcases h.names with hs | ⟨b, off, c, cu, fz, h1, h2, h3, h4, h5⟩
    · exact .inl hs
    · exact .inr ⟨b, off, c, cu, fz, h1, h2, h3, hcell _ _ _ _ (by decide) (by decide) h4, h5⟩
  · refine ownsRow_same h.row fun g o hg hgo => ?_
    obtain ⟨cu, hc, _⟩ := ownsRow_kind h.row hg
    rw [hc] at hgo
    simp only [Option.some.injEq] at hgo
    subst hgo
    exact hcell _ _ _ _ (by decide) (by decide) hc

/-- a cell of the entry's own block -/
theorem LayInv.cellAt (h : LayInv w own own1 bs be bk pl1 eb nv av ns s1 ids l cur W) (i : Nat) : W.cell? ⟨eb, i, none⟩ = cur[i]? := by simp [World.cell?, h.ent]
theorem LayInv.free (h : LayInv w own own1 bs be bk pl1 eb nv av ns s1 ids l cur W) (i : Nat) : W.frozen? ⟨eb, i, none⟩ = false := by simp [World.frozen?, h.ent]

theorem LayInv.others (h : LayInv w own own1 bs be bk pl1 eb nv av ns s1 ids l cur W) {av' : Value} {ids' : List Int} {cur' : Array Value} (hk : ∀ k, own1 k → W'.heap[k]? = W.heap[k]?) (hsz : W.heap.size ≤ W'.heap.size) (hkept : Kept own w W')
    (heb : W'.heap[eb]? = some (.cells cur' 59 (0, 0))) (hn : ∀ k, k < eb → ¬ own1 k → w.heap.size ≤ k → W'.heap[k]? = W.heap[k]?)
    (hrow : W'.ownsRow eb 28 1 av' ids'.length (ids'.map (.int .u64))) (hrown : ∀ g, av'.ownBlock = some g → ¬ own1 g)
    (hbld : ∀ (k : Nat) (c : Array Value) (T : TypeId) (fz : Nat × Nat), T = 69 ∨ T = 5 → W.heap[k]? = some (Obj.cells c T fz) → W'.heap[k]? = some (Obj.cells c T fz)) :
    LayInv w own own1 bs be bk pl1 eb nv av' ns s1 ids' l cur' W' :=
  ⟨h.st.kept hk hsz, hkept, h.sub, h.sup, h.ebn, h.ebl, heb, h.names.kept (fun k o hS ho => ⟨by rw [hn k hS.2.2 hS.1 hS.2.1]; exact ho, hS⟩), hrow, hrown, bld_kept h.bld hbld⟩

/-- a part's id is put behind the others -/
theorem LayInv.push (h : LayInv w own own1 bs be bk pl1 eb nv av ns s1 ids l (eCells nv av) W) {x : Int} {g cap : Nat}
    (hrow : W'.ownsRow eb 28 1 (.slice (some ⟨g, 0, none⟩) (ids.length + 1) cap) (ids.length + 1) (ids.map (.int .u64) ++ [.int .u64 x]))
    (hg : (W.alloc (.cells #[.int .u64 x] 28)).grownBy W' av.ownBlock) (hgg : av.ownBlock = some g ∨ g = W.heap.size + 1) :
    LayInv w own own1 bs be bk pl1 eb nv (.slice (some ⟨g, 0, none⟩) (ids.length + 1) cap) ns s1 (ids ++ [x]) l (eCells nv (.slice (some ⟨g, 0, none⟩) (ids.length + 1) cap)) (W'.setCell ⟨eb, 6, none⟩ (.slice (some ⟨g, 0, none⟩) (ids.length + 1) cap)) := by
  have hsz : W.heap.size ≤ W'.heap.size := by have := hg.size; simp at this; omega
  have hblk : ∀ k, k < W.heap.size → some k ≠ av.ownBlock → W'.heap[k]? = W.heap[k]? := by
    intro k hk hne
    rw [hg.block k (by simp; omega) hne]
    exact heap_alloc_old _ _ hk
  have hrowk : ∀ k cu T fz, av.ownBlock = some k → W.heap[k]? = some (Obj.cells cu T fz) → T = 28 := by
    intro k cu T fz ho hc
    obtain ⟨cu', hc', _⟩ := ownsRow_kind h.row ho
    rw [hc'] at hc
    simp only [Option.some.injEq, Obj.cells.injEq] at hc
    exact hc.2.1.symm
  have hne : ∀ (k : Nat) (cu : Array Value) (T : TypeId) (fz : Nat × Nat), T ≠ 28 → W.heap[k]? = some (Obj.cells cu T fz) → W'.heap[k]? = some (Obj.cells cu T fz) := by
    intro k cu T fz hT hc
    rw [hblk k (lt_of_block hc) (fun e => hT (hrowk k cu T fz e.symm hc))]
    exact hc
  have heb := hne eb _ _ _ (by decide) h.ent
  have hgeb : g ≠ eb := by
    rcases hgg with hgg | hgg
    · rintro rfl
      exact absurd (hrowk _ _ _ _ hgg h.ent) (by decide)
    · have := lt_of_block h.ent; omega
  refine h.others ?_ ?_ ?_ ?_ ?_ ?_ ?_ ?_
  · intro k hk
    have hkne : k ≠ eb := fun e => h.ebn (e ▸ hk)
    rw [Below.heap_setCell _ _ _ _ hkne]
    exact hblk k (h.st.low k hk) (fun e => h.rown k e.symm hk)
  · rw [World.size_setCell]; exact hsz
  · refine Kept.setCell ?_ (.inr h.ebl) _
    refine ⟨hg.os.trans h.kept.os, hg.tape.trans h.kept.tape, hg.output.trans h.kept.output, Nat.le_trans h.kept.size hsz, fun k hk hn => ?_⟩
    have hk2 : k < W.heap.size := Nat.lt_of_lt_of_le hk h.kept.size
    rw [hblk k hk2 ?_]
    · exact h.kept.block k hk hn
    · intro e
      obtain ⟨_, _, hb⟩ := ownsRow_kind h.row e.symm
      have := h.ebl
      omega
  · rw [Go.Lod.heap_setCell_same heb]
    simp [eCells]
  · intro k hk hn hk2
    have hkne : k ≠ eb := by omega
    rw [Below.heap_setCell _ _ _ _ hkne]
    refine hblk k ?_ ?_
    · have := lt_of_block h.ent; omega
    · intro e
      obtain ⟨_, _, hb⟩ := ownsRow_kind h.row e.symm
      omega
  · have e1 : (ids ++ [x]).length = ids.length + 1 := by simp
    have e2 : (ids ++ [x]).map (Value.int .u64) = ids.map (.int .u64) ++ [.int .u64 x] := by simp
    rw [e1, e2]
    refine ownsRow_same hrow fun g' o hg' ho => ?_
    simp only [Value.ownBlock, Option.some.injEq] at hg'
    subst hg'
    rw [Below.heap_setCell _ _ _ _ hgeb]; exact ho
  · intro g' hg'
    simp only [Value.ownBlock, Option.some.injEq] at hg'
    subst hg'
    rcases hgg with hgg | hgg
    · exact h.rown _ hgg
    · intro ho
      have := h.st.low _ ho
      omega
  · intro k c T fz hT hc
    have hkne : k ≠ eb := by
      rintro rfl
      rw [h.ent] at hc
      simp only [Option.some.injEq, Obj.cells.injEq] at hc
      rcases hT with hT | hT <;> rw [hT] at hc <;> exact absurd hc.2.1 (by decide)
    rw [Below.heap_setCell _ _ _ _ hkne]
    exact hne _ _ _ _ (by rcases hT with rfl | rfl <;> decide) hc

/-- whatever leaves alone all that is there -/
theorem LayInv.below (h : LayInv w own own1 bs be bk pl1 eb nv av ns s1 ids l cur W) (hB : Below W.heap.size W W') : LayInv w own own1 bs be bk pl1 eb nv av ns s1 ids l cur W' := by
  have hk : ∀ k o, W.heap[k]? = some o → W'.heap[k]? = some o := fun k o ho => by rw [hB.block k (lt_of_block ho)]; exact ho
  obtain ⟨pc, hpc⟩ := bld_lt h.bld
  refine h.wrote (bld_kept h.bld fun k c T fz _ hc => hk _ _ hc) (hB.mono ?_) (fun k o ho _ _ => hk _ _ ho)
  have := lt_of_block h.ent; omega

theorem LayInv.size (h : LayInv w own own1 bs be bk pl1 eb nv av ns s1 ids l cur W) : eb + 1 < W.heap.size := by
  obtain ⟨pc, hpc⟩ := bld_lt h.bld
  exact lt_of_block hpc
theorem LayInv.grownCell (h : LayInv w own own1 bs be bk pl1 eb nv av ns s1 ids l cur W) {o : Obj} (hg : (W.alloc o).grownBy W' av.ownBlock) (i : Nat) : W'.cell? ⟨eb, i, none⟩ = cur[i]? ∧ W'.frozen? ⟨eb, i, none⟩ = false ∧ W.heap.size < W'.heap.size := by
  have hlt := lt_of_block h.ent
  have hb : W'.heap[eb]? = some (.cells cur 59 (0, 0)) := by
    rw [hg.block eb (by simp; omega) ?_, heap_alloc_old _ _ hlt]
    · exact h.ent
    · intro e
      obtain ⟨c, hc, _⟩ := ownsRow_kind h.row e.symm
      rw [h.ent] at hc
      simp at hc
  refine ⟨by simp [World.cell?, hb], by simp [World.frozen?, hb], ?_⟩
  have := hg.size; simp at this; omega
/-- a cell of the entry is written -/
theorem LayInv.poke (h : LayInv w own own1 bs be bk pl1 eb nv av ns s1 ids l cur W) (i : Nat) (v : Value) :
    LayInv w own own1 bs be bk pl1 eb nv av ns s1 ids l (cur.setIfInBounds i v) (W.setCell ⟨eb, i, none⟩ v) := by
  have hk : ∀ k o, k ≠ eb → W.heap[k]? = some o → (W.setCell ⟨eb, i, none⟩ v).heap[k]? = some o := fun k o hne ho => by
    rw [Below.heap_setCell _ _ _ _ hne]; exact ho
  refine h.others (fun k ho => Below.heap_setCell _ _ _ _ (fun e : k = eb => h.ebn (e ▸ ho))) (by rw [World.size_setCell]; exact Nat.le_refl _) (h.kept.setCell (.inr h.ebl) _) (Go.Lod.heap_setCell_same h.ent v)
    (fun k hlt _ _ => Below.heap_setCell _ _ _ _ (by show k ≠ eb; omega)) (ownsRow_same h.row fun g o hg ho => hk g o ?_ ho) h.rown (fun k c T fz hT hc => hk k _ ?_ hc)
  · rintro rfl
    obtain ⟨c, hc, _⟩ := ownsRow_kind h.row hg
    rw [h.ent] at hc
    simp at hc
  · rintro rfl
    rw [h.ent] at hc
    simp only [Option.some.injEq, Obj.cells.injEq] at hc
    rcases hT with hT | hT <;> rw [hT] at hc <;> exact absurd hc.2.1 (by decide)
end Go.Proofs.YtlfongfoddlhjaaDoor

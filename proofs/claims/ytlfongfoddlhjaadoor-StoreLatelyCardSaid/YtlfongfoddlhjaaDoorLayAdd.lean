/- An entry comes: of the blocks in memory. -/
import Derived.Test.YtlfongfoddlhjaaDoorLayInv
namespace Go.Proofs.YtlfongfoddlhjaaDoor
open Go Go.RowKit Go.Lod
open Go.ChangeMaps (setBlock)

theorem slat_blocks {w : World} {S : Nat → Prop} {T : TypeId} {v : Value} {xs : List Value} (h : SlAt w S T v xs) :
    ∃ B : Nat → Prop, SlAt w B T v xs ∧ (∀ i, B i → S i) ∧ (∀ i, B i → ∃ cur fz, w.heap[i]? = some (.cells cur T fz)) := by
  rcases h with h0 | ⟨b, off, c, cur, fz, h1, h2, h3, h4, h5⟩
  · exact ⟨fun _ => False, .inl h0, fun _ h => h.elim, fun _ h => h.elim⟩
  · exact ⟨fun i => i = b, .inr ⟨b, off, c, cur, fz, h1, h2, rfl, h4, h5⟩, fun i hi => by rw [hi]; exact h3, fun i hi => by rw [hi]; exact ⟨cur, fz, h4⟩⟩

theorem own_slat' {w : World} {base : Nat} {T : TypeId} {v : Value} {n : Nat} {xs : List Value} (h : w.ownsRow base T 1 v n xs) : SlAt w (fun k => base ≤ k ∧ v.ownBlock = some k) T v xs := by
  obtain ⟨hl, h⟩ := h
  rcases h with ⟨rfl, rfl⟩ | ⟨g, cap, cur, h1, h2, h3, h4, h5, h6, h7⟩
  · exact .inl ⟨List.eq_nil_of_length_eq_zero (by simpa using hl), none, 0, rfl⟩
  · simp only [Nat.mul_one] at hl h7
    refine .inr ⟨g, 0, cap, cur, (0, 0), by rw [h1, hl], by omega, ⟨h2, by rw [h1]; rfl⟩, h3, ?_⟩
    intro i x hx
    have := cell_of_take h3 h7 hx
    simp only [World.cell?, h3] at this
    simpa using this

variable {w W W' : World} {own own1 own2 : Nat → Prop} {bs be bk eb : Nat} {pl1 pl2 : Int → Site} {nv av : Value} {ns : List ByteArray} {s1 s2 : St} {ids : List Int} {lb : List UInt8} {cur : Array Value}

theorem LayInv.comes {e : Ent} (h : LayInv w own own1 bs be bk pl1 eb nv av ns s1 ids lb cur W) (hcur : cur = cellsOfEnt ⟨eb, nv, av⟩ e) (hns : e.names = ns) (hids : e.args = ids) (hid : e.id ∉ s1.ids)
    {l : List (Int × Site × Nat)} {clk : Nat} (hl : l.map (fun p => (p.1, p.2.1)) = s1.ents.map (fun e => (e.id, pl1 e.id))) (hlb : BornOk l clk)
    {l' : List (Shape × Int × Nat)} {clk' : Nat} (hl' : l'.map (fun p => (p.1, p.2.1)) = s1.ents.map (fun e => (e.shape, e.id))) (hlb' : BornOk l' clk')
    (h2 : W'.heap[be]? = some (.map (mEs (.int .u64) encP (l ++ [(e.id, ⟨eb, nv, av⟩, clk)])) (clk + 1))) (h3 : W'.heap[bk]? = some (.map (mEs encShape (.int .u64) (l' ++ [(e.shape, e.id, clk')])) (clk' + 1)))
    (hoth : ∀ k, k ≠ be → k ≠ bk → W'.heap[k]? = W.heap[k]?) (hsz : W'.heap.size = W.heap.size) (hrest : W'.os = W.os ∧ W'.tape = W.tape ∧ W'.output = W.output) :
    ∃ own3 : Nat → Prop, StoreAt W' own3 bs be bk (plAdd pl1 e.id ⟨eb, nv, av⟩) { s1 with ents := s1.ents ++ [e] } ∧ Kept own w W' ∧ (∀ i, own i → own3 i) ∧ (∀ i, own3 i → own i ∨ w.heap.size ≤ i) := by
  obtain ⟨B1, b11, b12, b13⟩ := slat_blocks h.names
  obtain ⟨B2, b21, b22, b23⟩ := slat_blocks (own_slat' h.row)
  have hst := h.st
  have hn2 : ∀ i, B2 i → ¬ own1 i := fun i hi => h.rown i (b22 i hi).2
  have hnm : ∀ i, ¬ own1 i → W'.heap[i]? = W.heap[i]? := fun i hi => hoth i (fun hh => hi (hh ▸ hst.mine.2.1)) (fun hh => hi (hh ▸ hst.mine.2.2))
  refine ⟨fun i => own1 i ∨ i = eb ∨ B1 i ∨ B2 i, ?_, ?_, fun i hi => .inl (h.sub i hi), ?_⟩
  · refine hst.add hid (p := ⟨eb, nv, av⟩) ⟨.inr (.inl rfl), ?_, ?_, ?_⟩ h.ebn (fun _ hi => .inl hi) ?_ ?_ hl hlb hl' hlb' h2 h3 (fun k _ h1 h2 => hoth k h1 h2)
    · rw [hnm _ h.ebn, h.ent, hcur]
    · rw [hns]; exact b11.kept fun k o hk ho => ⟨by rw [hnm k (b12 k hk).1]; exact ho, .inr (.inr (.inl hk))⟩
    · rw [hids]; exact b21.kept fun k o hk ho => ⟨by rw [hnm k (hn2 k hk)]; exact ho, .inr (.inr (.inr hk))⟩
    · intro k hk
      rw [hsz]
      rcases hk with hk | rfl | hk | hk
      · exact hst.low k hk
      · exact lt_of_block h.ent
      · obtain ⟨_, _, hh⟩ := b13 k hk; exact lt_of_block hh
      · obtain ⟨_, _, hh⟩ := b23 k hk; exact lt_of_block hh
    · intro k hk
      rcases hk with hk | rfl | hk | hk
      · by_cases k1 : k = be
        · rw [k1, h2]; trivial
        · by_cases k2 : k = bk
          · rw [k2, h3]; trivial
          · rw [hoth k k1 k2]; exact hst.kinds k hk
      · rw [hnm _ h.ebn, h.ent]; exact .inr (.inl rfl)
      · obtain ⟨c, f, hh⟩ := b13 k hk
        rw [hnm _ (b12 k hk).1, hh]; exact .inr (.inr (.inl rfl))
      · obtain ⟨c, f, hh⟩ := b23 k hk
        rw [hnm _ (hn2 k hk), hh]; exact .inr (.inr (.inr rfl))
  · refine h.kept.trans (own' := fun i => i = be ∨ i = bk) ⟨hrest.1, hrest.2.1, hrest.2.2, by rw [hsz]; exact Nat.le_refl _, fun k _ hn => hoth k (fun hh => hn (.inl hh)) (fun hh => hn (.inr hh))⟩ ?_
    rintro i (rfl | rfl)
    · exact h.sup _ hst.mine.2.1
    · exact h.sup _ hst.mine.2.2
  · intro i hi
    rcases hi with hi | rfl | hi | hi
    · exact h.sup i hi
    · exact .inr h.ebl
    · exact .inr (b12 i hi).2.1
    · have := (b22 i hi).1; have := h.ebl; exact .inr (by omega)
end Go.Proofs.YtlfongfoddlhjaaDoor

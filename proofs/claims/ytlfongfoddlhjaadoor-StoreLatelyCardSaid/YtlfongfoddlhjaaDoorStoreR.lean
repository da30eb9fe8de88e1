/- The store's model: what room, intern and release keep. -/
import Derived.Test.YtlfongfoddlhjaaDoorStoreG
import Derived.Test.YtlfongfoddlhjaaDoorStW2
namespace Go.Lod
open Go Go.RowKit

theorem St.Good.sub {s s' : St} (h : s.Good) (hok : s'.Ok) (h1 : s'.given = s.given) (h2 : s'.clock = s.clock) (hm : ∀ e ∈ s'.ents, ∃ e0 ∈ s.ents, e.id = e0.id ∧ e.used = e0.used) : s'.Good := by
  refine ⟨hok, ?_, ?_, by rw [h1]; exact h.g0, by rw [h2]; exact h.c0⟩
  · intro e he
    obtain ⟨e0, h0, e1, _⟩ := hm e he
    rw [e1, h1]; exact h.ids e0 h0
  · intro e he
    obtain ⟨e0, h0, _, e1⟩ := hm e he
    rw [e1, h2]; exact h.used e0 h0

theorem St.hold_mem {s : St} {ids : List Int} {by_ : Int} {e : Ent} (h : e ∈ (s.hold ids by_).ents) : ∃ e0 ∈ s.ents, e.id = e0.id ∧ e.used = e0.used ∧ e.pins = e0.pins ∧ e.shape = e0.shape ∧ e.names = e0.names ∧ e.args = e0.args := by
  have hm := St.hold_map (fun e : Ent => (e.id, e.used, e.pins, e.shape, e.names, e.args)) by_ (fun _ => rfl) ids s
  have : (e.id, e.used, e.pins, e.shape, e.names, e.args) ∈ s.ents.map (fun e : Ent => (e.id, e.used, e.pins, e.shape, e.names, e.args)) := by rw [← hm]; exact List.mem_map.2 ⟨e, h, rfl⟩
  obtain ⟨e0, h0, h1⟩ := List.mem_map.1 this
  simp only [Prod.mk.injEq] at h1
  exact ⟨e0, h0, h1.1.symm, h1.2.1.symm, h1.2.2.1.symm, h1.2.2.2.1.symm, h1.2.2.2.2.1.symm, h1.2.2.2.2.2.symm⟩

theorem St.evict_mem {s : St} {x e : Ent} (h : e ∈ (s.evict x).ents) : e.id ≠ x.id ∧ ∃ e0 ∈ s.ents, e.id = e0.id ∧ e.used = e0.used ∧ e.pins = e0.pins ∧ e.shape = e0.shape ∧ e.names = e0.names ∧ e.args = e0.args := by
  unfold St.evict at h
  obtain ⟨h1, h2⟩ := List.mem_filter.1 h
  exact ⟨by simpa using h2, St.hold_mem h1⟩
theorem St.evict_cap (s : St) (x : Ent) : (s.evict x).cap = s.cap ∧ (s.evict x).given = s.given ∧ (s.evict x).clock = s.clock := St.hold_cap (x.ret :: x.args) (-1) s
theorem St.Good.evict {s : St} (h : s.Good) (x : Ent) : (s.evict x).Good :=
  h.sub (h.ok.evict x) (s.evict_cap x).2.1 (s.evict_cap x).2.2 fun _ he => by
    obtain ⟨_, e0, h0, h1, h2, _⟩ := St.evict_mem he
    exact ⟨e0, h0, h1, h2⟩

theorem St.roomN_good : ∀ (n : Nat) (s : St), s.Good → (St.roomN n s).Good ∧ (St.roomN n s).cap = s.cap ∧ (St.roomN n s).given = s.given ∧ (St.roomN n s).clock = s.clock
  | 0, s, h => ⟨h, rfl, rfl, rfl⟩
  | n + 1, s, h => by
    unfold St.roomN
    by_cases hc : (s.ents.length : Int) ≤ s.cap
    · rw [if_pos hc]; exact ⟨h, rfl, rfl, rfl⟩
    · rw [if_neg hc]
      cases hl : s.least with
      | none => exact ⟨h, rfl, rfl, rfl⟩
      | some e =>
        obtain ⟨a, b, c, d⟩ := St.roomN_good n (s.evict e) (h.evict e)
        obtain ⟨x, y, z⟩ := s.evict_cap e
        exact ⟨a, b.trans x, c.trans y, d.trans z⟩
theorem St.room_good {s : St} (h : s.Good) : s.room.Good ∧ s.room.cap = s.cap ∧ s.room.given = s.given ∧ s.room.clock = s.clock := St.roomN_good _ s h

theorem St.Ok.upd' {s : St} (h : s.Ok) (id : Int) (by_ : Int) : (s.upd id (Ent.addPins by_)).Ok :=
  h.of_map (St.upd_map (fun e => (e.id, e.used, e.shape, e.args.length)) s id _ fun _ => rfl)
theorem St.Good.pin {s : St} (h : s.Good) (id by_ : Int) : (s.upd id (Ent.addPins by_)).Good :=
  h.sub (h.ok.upd' id by_) rfl rfl fun e he => by
    obtain ⟨e0, h0, rfl⟩ := St.upd_mem he
    refine ⟨e0, h0, ?_, ?_⟩ <;> by_cases hx : e0.id = id <;> simp [hx, Ent.addPins]

theorem St.intern_good {s : St} {T : Ty} (h : s.Good) (hf : T.Fits) (hg : s.given + T.size < 9223372036854775808) (hc : s.clock + T.size < 9223372036854775808) :
    (s.intern T).1.Good ∧ (s.intern T).1.cap = s.cap ∧ s.given ≤ (s.intern T).1.given ∧ (s.intern T).1.given ≤ s.given + T.size ∧ (s.intern T).1.clock = s.clock + T.size := by
  obtain ⟨a1, a2, a3, a4, a5, a6⟩ := St.lay_spec T s h hf hg hc
  have he : s.intern T = (((s.lay T).1.upd (s.lay T).2 (Ent.addPins 1)).room, (s.lay T).2) := rfl
  rw [he]
  obtain ⟨b1, b2, b3, b4⟩ := St.room_good (a1.pin (s.lay T).2 1)
  refine ⟨b1, b2.trans a6, ?_, ?_, b4.trans a2⟩
  · show _ ≤ (St.room _).given
    rw [b3]; exact a4
  · show (St.room _).given ≤ _
    rw [b3]; exact a3

theorem St.release_good {s : St} (h : s.Good) (id : Int) : (s.release id).1.Good ∧ (s.release id).1.cap = s.cap ∧ (s.release id).1.given = s.given ∧ (s.release id).1.clock = s.clock := by
  unfold St.release
  cases s.find id with
  | none => exact ⟨h, rfl, rfl, rfl⟩
  | some e =>
    by_cases hz : e.pins = 0
    · simp only [hz, if_true, and_true]; exact h
    · simp only [hz, if_false]
      exact St.room_good (h.pin id (-1))
end Go.Lod

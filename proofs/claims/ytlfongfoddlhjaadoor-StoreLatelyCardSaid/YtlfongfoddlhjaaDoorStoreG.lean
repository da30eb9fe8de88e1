/- The store's model: what laying keeps; the store's blocks when an entry comes. -/
import Derived.Test.YtlfongfoddlhjaaDoorStore
namespace Go.Lod
open Go Go.RowKit
open Go.ChangeMaps (setBlock)

theorem wrapu_in {x : Int} (h0 : 0 ≤ x) (h1 : x < 18446744073709551616) : wrapu x = x := by
  unfold wrapu
  simp only [IntKind.wrap, IntKind.signed, IntKind.bits, Bool.false_and, Bool.false_eq_true, if_false]
  omega

structure St.Good (s : St) : Prop where
  ok : s.Ok
  ids : ∀ e ∈ s.ents, 1 ≤ e.id ∧ e.id ≤ s.given
  used : ∀ e ∈ s.ents, 1 ≤ e.used ∧ e.used ≤ s.clock
  g0 : 0 ≤ s.given
  c0 : 0 ≤ s.clock

mutual
def Ty.size : Ty → Nat
  | .nil => 0
  | .mk _ _ _ gs r => 1 + Ty.sizeL gs + r.size
def Ty.sizeL : List Ty → Nat
  | [] => 0
  | t :: ts => t.size + Ty.sizeL ts
end

/-- no part is nil where it may not be, and no list is so long that memory ends -/
def Ty.isNil : Ty → Bool
  | .nil => true
  | .mk .. => false
mutual
def Ty.Fits : Ty → Prop
  | .nil => True
  | .mk _ _ ns gs r => ns.length < 2147483648 ∧ gs.length < 2147483648 ∧ (Lib.join (ns.map (·.data.toList)) [32]).length ≤ 140737488355328 ∧ Ty.FitsL gs ∧ r.Fits
def Ty.FitsL : List Ty → Prop
  | [] => True
  | t :: ts => t.isNil = false ∧ t.Fits ∧ Ty.FitsL ts
end

theorem St.use_ids (s : St) (id c : Int) : (s.upd id (fun e => { e with used := c })).ids = s.ids := s.upd_ids id _ (fun _ => rfl)

theorem upd_used_nodup {l : List Ent} {id c : Int} (hn : (l.map (·.used)).Nodup) (hd : (l.map (·.id)).Nodup) (hc : ∀ e ∈ l, e.used < c) :
    ((updL l id (fun e => { e with used := c })).map (·.used)).Nodup := by
  induction l with
  | nil => simp [updL]
  | cons e l ih =>
    rw [List.map_cons, List.nodup_cons] at hn hd
    have ih' := ih hn.2 hd.2 (fun e he => hc e (by simp [he]))
    have hsub : ∀ u ∈ (updL l id (fun e => { e with used := c })).map (·.used), u ∈ l.map (·.used) ∨ (u = c ∧ id ∈ l.map (·.id)) := by
      intro u hu
      obtain ⟨x, hx, rfl⟩ := List.mem_map.1 hu
      obtain ⟨x0, hx0, rfl⟩ := updL_mem hx
      by_cases h : x0.id = id
      · right; simp only [h, if_true, true_and]; exact List.mem_map.2 ⟨x0, hx0, h⟩
      · left; simp only [h, if_false]; exact List.mem_map.2 ⟨x0, hx0, rfl⟩
    simp only [updL, List.map_cons] at ih' hsub ⊢
    rw [List.nodup_cons]
    refine ⟨?_, ih'⟩
    by_cases h : e.id = id
    · simp only [h, if_true]
      intro hm
      rcases hsub _ hm with h1 | h1
      · obtain ⟨x, hx, hxu⟩ := List.mem_map.1 h1
        have := hc x (by simp [hx])
        omega
      · rw [← h] at h1; exact hd.1 h1.2
    · simp only [h, if_false]
      intro hm
      rcases hsub _ hm with h1 | h1
      · exact hn.1 h1
      · have := hc e (by simp)
        omega

theorem St.Good.mem_id {s : St} (h : s.Good) {id : Int} (hi : id ∈ s.ids) : 1 ≤ id ∧ id ≤ s.given := by
  obtain ⟨e, he, rfl⟩ := List.mem_map.1 hi
  exact h.ids e he

theorem St.upd_mem {s : St} {id : Int} {f : Ent → Ent} {e : Ent} (h : e ∈ (s.upd id f).ents) : ∃ e0 ∈ s.ents, e = if e0.id = id then f e0 else e0 := updL_mem h

/-- an entry is used again -/
theorem St.Good.use {s : St} (h : s.Good) {c : Int} (hc : s.clock < c) (id : Int) : St.Good ({ s with clock := c }.upd id (fun e => { e with used := c })) := by
  have hok := h.ok
  have hmem : ∀ e ∈ ({ s with clock := c }.upd id (fun e => { e with used := c }) : St).ents, ∃ e0 ∈ s.ents, e.id = e0.id ∧ e.args = e0.args ∧ (e.used = c ∨ e.used = e0.used) := by
    intro e he
    obtain ⟨e0, h0, rfl⟩ := St.upd_mem he
    by_cases hx : e0.id = id
    · exact ⟨e0, h0, by simp [hx], by simp [hx], by simp [hx]⟩
    · exact ⟨e0, h0, by simp [hx], by simp [hx], by simp [hx]⟩
  refine ⟨⟨?_, ?_, ?_, ?_, ?_⟩, ?_, ?_, h.g0, ?_⟩
  · rw [St.upd_ids]
    · exact hok.nd
    · intro _; rfl
  · intro e he
    obtain ⟨e0, h0, h1, _⟩ := hmem e he
    rw [h1]; exact hok.nz e0 h0
  · exact upd_used_nodup hok.us hok.nd (fun e he => by have := (h.used e he).2; omega)
  · have := St.upd_map (fun e => e.shape) { s with clock := c } id (fun e => { e with used := c }) (fun _ => rfl)
    rw [this]; exact hok.sh
  · intro e he
    obtain ⟨e0, h0, _, h2, _⟩ := hmem e he
    rw [h2]; exact hok.ln e0 h0
  · intro e he
    obtain ⟨e0, h0, h1, _⟩ := hmem e he
    rw [h1]; exact h.ids e0 h0
  · intro e he
    obtain ⟨e0, h0, _, _, h3⟩ := hmem e he
    have := h.used e0 h0
    have e1 : ({ s with clock := c }.upd id (fun e => { e with used := c }) : St).clock = c := rfl
    rw [e1]
    have := h.c0
    rcases h3 with h3 | h3 <;> rw [h3] <;> omega
  · have := h.c0
    have e1 : ({ s with clock := c }.upd id (fun e => { e with used := c }) : St).clock = c := rfl
    rw [e1]; omega

theorem St.Good.hold {s : St} (h : s.Good) (ids : List Int) (by_ : Int) : (s.hold ids by_).Good := by
  have hm := St.hold_map (fun e : Ent => (e.id, e.used)) by_ (fun _ => rfl) ids s
  have hc := St.hold_cap ids by_ s
  have hex : ∀ e ∈ (s.hold ids by_).ents, ∃ e0 ∈ s.ents, e.id = e0.id ∧ e.used = e0.used := by
    intro e he
    have : (e.id, e.used) ∈ s.ents.map (fun e => (e.id, e.used)) := by rw [← hm]; exact List.mem_map.2 ⟨e, he, rfl⟩
    obtain ⟨e0, h0, h1⟩ := List.mem_map.1 this
    simp only [Prod.mk.injEq] at h1
    exact ⟨e0, h0, h1.1.symm, h1.2.symm⟩
  refine ⟨h.ok.hold _ _, ?_, ?_, by rw [hc.2.1]; exact h.g0, by rw [hc.2.2]; exact h.c0⟩
  · intro e he
    obtain ⟨e0, h0, h1, _⟩ := hex e he
    rw [h1, hc.2.1]; exact h.ids e0 h0
  · intro e he
    obtain ⟨e0, h0, _, h2⟩ := hex e he
    rw [h2, hc.2.2]; exact h.used e0 h0

theorem St.at_none {s : St} {sh : Shape} (h : s.at sh = none) : ∀ e ∈ s.ents, e.shape ≠ sh := by
  intro e he hs
  have := List.find?_eq_none.1 h e he
  simp [hs] at this

/-- an entry comes; its own use is not yet told -/
theorem St.Good.add {s : St} (h : s.Good) {e : Ent} (hid : e.id = s.given + 1) (hsh : ∀ x ∈ s.ents, x.shape ≠ e.shape) (hu : e.used = 0) (hl : e.args.length < 2147483648) :
    St.Ok { s with given := s.given + 1, ents := s.ents ++ [e] } := by
  have hok := h.ok
  refine ⟨?_, ?_, ?_, ?_, ?_⟩
  · have h1 : (s.ents.map (·.id)).Nodup := hok.nd
    simp only [St.ids, List.map_append, List.map_cons, List.map_nil, List.nodup_append, h1, List.nodup_cons, List.not_mem_nil, not_false_eq_true, List.nodup_nil, and_self, true_and]
    intro x hx y hy
    obtain ⟨e0, h0, rfl⟩ := List.mem_map.1 hx
    have := (h.ids e0 h0).2
    simp only [List.mem_cons, List.not_mem_nil, or_false] at hy
    omega
  · intro x hx
    rcases List.mem_append.1 hx with hx | hx
    · exact hok.nz x hx
    · simp only [List.mem_cons, List.not_mem_nil, or_false] at hx
      subst hx; have := h.g0; omega
  · simp only [List.map_append, List.map_cons, List.map_nil, List.nodup_append, hok.us, List.nodup_cons, List.not_mem_nil, not_false_eq_true, List.nodup_nil, and_self, true_and]
    intro x hx y hy
    obtain ⟨e0, h0, rfl⟩ := List.mem_map.1 hx
    have := (h.used e0 h0).1
    simp only [List.mem_cons, List.not_mem_nil, or_false] at hy
    omega
  · simp only [List.map_append, List.map_cons, List.map_nil, List.nodup_append, hok.sh, List.nodup_cons, List.not_mem_nil, not_false_eq_true, List.nodup_nil, and_self, true_and]
    intro x hx y hy
    obtain ⟨e0, h0, rfl⟩ := List.mem_map.1 hx
    simp only [List.mem_cons, List.not_mem_nil, or_false] at hy
    rw [hy]; exact hsh e0 h0
  · intro x hx
    rcases List.mem_append.1 hx with hx | hx
    · exact hok.ln x hx
    · simp only [List.mem_cons, List.not_mem_nil, or_false] at hx
      subst hx; exact hl

theorem St.layOne_spec {s : St} (h : s.Good) (hg : s.given + 1 < 18446744073709551616) (hc : s.clock + 1 < 18446744073709551616)
    (kind : Int) (name : ByteArray) (names : List ByteArray) (args : List Int) (ret : Int) (hl : args.length < 2147483648) :
    (s.layOne kind name names args ret).1.Good ∧ (s.layOne kind name names args ret).1.clock = s.clock + 1 ∧ (s.layOne kind name names args ret).1.given ≤ s.given + 1 ∧ s.given ≤ (s.layOne kind name names args ret).1.given ∧
    (s.layOne kind name names args ret).2 ∈ (s.layOne kind name names args ret).1.ids ∧ (s.layOne kind name names args ret).1.cap = s.cap := by
  have hc0 := h.c0
  have hg0 := h.g0
  have w1 : wrapu (s.clock + 1) = s.clock + 1 := wrapu_in (by omega) hc
  have w2 : wrapu (s.given + 1) = s.given + 1 := wrapu_in (by omega) hg
  unfold St.layOne
  simp only [w1, w2]
  have hat : St.at { s with clock := s.clock + 1 } ⟨kind, name, fieldsOf names, partsOf args, ret⟩ = s.at ⟨kind, name, fieldsOf names, partsOf args, ret⟩ := rfl
  rw [hat]
  cases hf : s.at ⟨kind, name, fieldsOf names, partsOf args, ret⟩ with
  | some e =>
    simp only
    have hmem := (St.at_mem hf).1
    refine ⟨h.use (by omega) e.id, rfl, by show s.given ≤ s.given + 1; omega, Int.le_refl _, ?_, rfl⟩
    rw [St.use_ids]
    exact List.mem_map.2 ⟨e, hmem, rfl⟩
  | none =>
    simp only
    generalize he : ({ id := s.given + 1, kind, name, names, args, ret, pins := 0, held := 0, used := 0 } : Ent) = e
    have hsh : ∀ x ∈ s.ents, x.shape ≠ e.shape := by
      have := St.at_none hf
      rw [← he]; exact this
    have hok := h.add (e := e) (by rw [← he]) hsh (by rw [← he]) (by rw [← he]; exact hl)
    have hcap := St.hold_cap (ret :: args) 1 { cap := s.cap, given := s.given + 1, clock := s.clock + 1, ents := s.ents ++ [e] }
    have hids := St.hold_ids (ret :: args) 1 { cap := s.cap, given := s.given + 1, clock := s.clock + 1, ents := s.ents ++ [e] }
    have hok2 : St.Ok (St.hold { cap := s.cap, given := s.given + 1, clock := s.clock + 1, ents := s.ents ++ [e] } (ret :: args) 1) := St.Ok.hold (s := { cap := s.cap, given := s.given + 1, clock := s.clock + 1, ents := s.ents ++ [e] }) ⟨hok.nd, hok.nz, hok.us, hok.sh, hok.ln⟩ _ _
    have hm := St.hold_map (fun e : Ent => (e.id, e.used)) 1 (fun _ => rfl) (ret :: args) { cap := s.cap, given := s.given + 1, clock := s.clock + 1, ents := s.ents ++ [e] }
    generalize St.hold { cap := s.cap, given := s.given + 1, clock := s.clock + 1, ents := s.ents ++ [e] } (ret :: args) 1 = s2 at *
    obtain ⟨cap2, given2, clock2, ents2⟩ := s2
    simp only at hcap
    obtain ⟨rfl, rfl, rfl⟩ := hcap
    have hex : ∀ x ∈ ents2, x.id = s.given + 1 ∨ ∃ e0 ∈ s.ents, x.id = e0.id ∧ x.used = e0.used := by
      intro x hx
      have : (x.id, x.used) ∈ (s.ents ++ [e]).map (fun e => (e.id, e.used)) := by rw [← hm]; exact List.mem_map.2 ⟨x, hx, rfl⟩
      obtain ⟨e0, h0, h1⟩ := List.mem_map.1 this
      simp only [Prod.mk.injEq] at h1
      rcases List.mem_append.1 h0 with h0 | h0
      · exact .inr ⟨e0, h0, h1.1.symm, h1.2.symm⟩
      · simp only [List.mem_cons, List.not_mem_nil, or_false] at h0
        left; rw [← h1.1, h0, ← he]
    have hlt : ∀ x ∈ ents2, x.used < s.clock + 1 := by
      intro x hx
      have : (x.id, x.used) ∈ (s.ents ++ [e]).map (fun e => (e.id, e.used)) := by rw [← hm]; exact List.mem_map.2 ⟨x, hx, rfl⟩
      obtain ⟨e0, h0, h1⟩ := List.mem_map.1 this
      simp only [Prod.mk.injEq] at h1
      rcases List.mem_append.1 h0 with h0 | h0
      · have := (h.used e0 h0).2; omega
      · simp only [List.mem_cons, List.not_mem_nil, or_false] at h0
        rw [← h1.2, h0, ← he]
        show (0 : Int) < s.clock + 1
        omega
    refine ⟨⟨⟨?_, ?_, ?_, ?_, ?_⟩, ?_, ?_, ?_, ?_⟩, rfl, Int.le_refl _, by show s.given ≤ s.given + 1; omega, ?_, rfl⟩
    · rw [St.use_ids]; exact hok2.nd
    · intro x hx
      obtain ⟨x0, hx0, rfl⟩ := St.upd_mem hx
      have : (if x0.id = s.given + 1 then { x0 with used := s.clock + 1 } else x0).id = x0.id := by by_cases hh : x0.id = s.given + 1 <;> simp [hh]
      rw [this]; exact hok2.nz x0 hx0
    · exact upd_used_nodup hok2.us hok2.nd hlt
    · have := St.upd_map (fun e => e.shape) { cap := s.cap, given := s.given + 1, clock := s.clock + 1, ents := ents2 } (s.given + 1) (fun e => { e with used := s.clock + 1 }) (fun _ => rfl)
      rw [this]; exact hok2.sh
    · intro x hx
      obtain ⟨x0, hx0, rfl⟩ := St.upd_mem hx
      have : (if x0.id = s.given + 1 then { x0 with used := s.clock + 1 } else x0).args = x0.args := by by_cases hh : x0.id = s.given + 1 <;> simp [hh]
      rw [this]; exact hok2.ln x0 hx0
    · intro x hx
      obtain ⟨x0, hx0, rfl⟩ := St.upd_mem hx
      have e1 : (if x0.id = s.given + 1 then { x0 with used := s.clock + 1 } else x0).id = x0.id := by by_cases hh : x0.id = s.given + 1 <;> simp [hh]
      rw [e1]
      show 1 ≤ x0.id ∧ x0.id ≤ s.given + 1
      rcases hex x0 hx0 with h1 | ⟨e0, h0, h1, _⟩
      · omega
      · have := h.ids e0 h0; omega
    · intro x hx
      obtain ⟨x0, hx0, rfl⟩ := St.upd_mem hx
      show 1 ≤ (if x0.id = s.given + 1 then { x0 with used := s.clock + 1 } else x0).used ∧ (if x0.id = s.given + 1 then { x0 with used := s.clock + 1 } else x0).used ≤ s.clock + 1
      by_cases hh : x0.id = s.given + 1
      · simp only [hh, if_true]; omega
      · simp only [hh, if_false]
        rcases hex x0 hx0 with h1 | ⟨e0, h0, h1, h2⟩
        · exact absurd h1 hh
        · have := h.used e0 h0; omega
    · show 0 ≤ s.given + 1; omega
    · show 0 ≤ s.clock + 1; omega
    · rw [St.use_ids, hids]
      simp only [St.ids, List.map_append, List.map_cons, List.map_nil, List.mem_append, List.mem_cons, List.not_mem_nil, or_false]
      right; rw [← he]

mutual
theorem St.lay_spec : ∀ (T : Ty) (s : St), s.Good → T.Fits → s.given + T.size < 9223372036854775808 → s.clock + T.size < 9223372036854775808 →
    (s.lay T).1.Good ∧ (s.lay T).1.clock = s.clock + T.size ∧ (s.lay T).1.given ≤ s.given + T.size ∧ s.given ≤ (s.lay T).1.given ∧ (T.isNil = false → (s.lay T).2 ∈ (s.lay T).1.ids) ∧ (s.lay T).1.cap = s.cap
  | .nil, s, h, _, _, _ => ⟨h, by simp [St.lay, Ty.size], by simp [St.lay, Ty.size], Int.le_refl _, by simp [Ty.isNil], rfl⟩
  | .mk k nm ns gs r, s, h, hf, hg, hc => by
    obtain ⟨hn, hgl, hj, hfl, hfr⟩ := hf
    simp only [Ty.size] at hg hc
    obtain ⟨a1, a2, a3, a4, a5, a6⟩ := St.layL_spec gs s h hfl (by omega) (by omega)
    unfold St.lay
    generalize hs1 : s.layL gs = p at *
    obtain ⟨s1, ids⟩ := p
    simp only at a1 a2 a3 a4 a5 a6 ⊢
    obtain ⟨b1, b2, b3, b4, b5, b6⟩ := St.lay_spec r s1 a1 hfr (by omega) (by omega)
    generalize s1.lay r = p at *
    obtain ⟨s2, ret⟩ := p
    simp only at b1 b2 b3 b4 b6 ⊢
    obtain ⟨c1, c2, c3, c4, c5, c6⟩ := St.layOne_spec b1 (by omega) (by omega) k nm ns ids ret (by rw [a5]; exact hgl)
    refine ⟨c1, ?_, ?_, by omega, fun _ => c5, by rw [c6, b6, a6]⟩
    · simp only [Ty.size]; omega
    · simp only [Ty.size]; omega
theorem St.layL_spec : ∀ (ts : List Ty) (s : St), s.Good → Ty.FitsL ts → s.given + Ty.sizeL ts < 9223372036854775808 → s.clock + Ty.sizeL ts < 9223372036854775808 →
    (s.layL ts).1.Good ∧ (s.layL ts).1.clock = s.clock + Ty.sizeL ts ∧ (s.layL ts).1.given ≤ s.given + Ty.sizeL ts ∧ s.given ≤ (s.layL ts).1.given ∧ (s.layL ts).2.length = ts.length ∧ (s.layL ts).1.cap = s.cap
  | [], s, h, _, _, _ => ⟨h, by simp [St.layL, Ty.sizeL], by simp [St.layL, Ty.sizeL], Int.le_refl _, rfl, rfl⟩
  | t :: ts, s, h, hf, hg, hc => by
    obtain ⟨hn, hft, hfl⟩ := hf
    simp only [Ty.sizeL] at hg hc
    obtain ⟨a1, a2, a3, a4, a5, a6⟩ := St.lay_spec t s h hft (by omega) (by omega)
    unfold St.layL
    generalize s.lay t = p at *
    obtain ⟨s1, id⟩ := p
    simp only at a1 a2 a3 a4 a6 ⊢
    obtain ⟨b1, b2, b3, b4, b5, b6⟩ := St.layL_spec ts s1 a1 hfl (by omega) (by omega)
    generalize s1.layL ts = p at *
    obtain ⟨s2, ids⟩ := p
    simp only at b1 b2 b3 b4 b5 b6 ⊢
    refine ⟨b1, ?_, ?_, by omega, by simp [b5], by rw [b6, a6]⟩
    · simp only [Ty.sizeL]; omega
    · simp only [Ty.sizeL]; omega
end

theorem St.layL_append (xs : List Ty) : ∀ (s : St) (y : Ty), s.layL (xs ++ [y]) = (((s.layL xs).1.lay y).1, (s.layL xs).2 ++ [((s.layL xs).1.lay y).2]) := by
  induction xs with
  | nil => intro s y; simp [St.layL]
  | cons x xs ih => intro s y; simp only [List.cons_append, St.layL, ih]

/-! ### Memory: the store's own block; an entry that comes -/
theorem StoreAt.setMain {w : World} {own : Nat → Prop} {bs be bk : Nat} {pl : Int → Site} {s s' : St} (h : StoreAt w own bs be bk pl s) (i : Nat) (v : Value) (he : s'.ents = s.ents)
    (hc : (#[.int .i64 s.cap, .int .u64 s.given, .int .u64 s.clock, .map (some be), .map (some bk)] : Array Value).setIfInBounds i v = #[.int .i64 s'.cap, .int .u64 s'.given, .int .u64 s'.clock, .map (some be), .map (some bk)]) :
    StoreAt (w.setCell ⟨bs, i, none⟩ v) own bs be bk pl s' := by
  have hk : ∀ k o, k ≠ bs → w.heap[k]? = some o → (w.setCell ⟨bs, i, none⟩ v).heap[k]? = some o := by
    intro k o hne ho
    rw [Below.heap_setCell _ _ _ _ hne]; exact ho
  have hcell : ∀ (k : Nat) (cur : Array Value) (T : TypeId) (fz : Nat × Nat), T ≠ 54 → w.heap[k]? = some (Obj.cells cur T fz) → (w.setCell ⟨bs, i, none⟩ v).heap[k]? = some (Obj.cells cur T fz) := by
    intro k cur T fz hT ho
    refine hk _ _ ?_ ho
    rintro rfl
    rw [h.main] at ho
    simp only [Option.some.injEq, Obj.cells.injEq] at ho
    exact hT ho.2.1.symm
  have hsl : ∀ {T : TypeId} {v' : Value} {xs : List Value}, T ≠ 54 → SlAt w own T v' xs → SlAt (w.setCell ⟨bs, i, none⟩ v) own T v' xs := by
    intro T v' xs hT hs
    rcases hs with hs | ⟨b, off, c, cur, fz, h1, h2, h3, h4, h5⟩
    · exact .inl hs
    · exact .inr ⟨b, off, c, cur, fz, h1, h2, h3, hcell _ _ _ _ hT h4, h5⟩
  obtain ⟨l, clk, h1, h2, h3⟩ := h.entries
  obtain ⟨l', clk', k1, k2, k3⟩ := h.known
  have n1 : be ≠ bs := by rintro rfl; rw [h.main] at h1; simp at h1
  have n2 : bk ≠ bs := by rintro rfl; rw [h.main] at k1; simp at k1
  refine ⟨h.mine, fun k ho => by rw [World.size_setCell]; exact h.low k ho, fun k ho => (h.kinds k ho).setCell _ _, ?_, ⟨l, clk, hk _ _ n1 h1, by rw [he]; exact h2, h3⟩, ⟨l', clk', hk _ _ n2 k1, by rw [he]; exact k2, k3⟩, ?_, h.maps, by rw [he]; exact h.apart⟩
  · rw [Go.Lod.heap_setCell_same h.main, hc]
  · intro x hx
    rw [he] at hx
    have X := h.ents x hx
    exact ⟨X.mine, hcell _ _ _ _ (by decide) X.heap, hsl (by decide) X.names, hsl (by decide) X.args⟩

def plAdd (pl : Int → Site) (id : Int) (p : Site) : Int → Site := fun i => if i = id then p else pl i

theorem BornOk.add {α β : Type} {l : List (α × β × Nat)} {clk : Nat} (h : BornOk l clk) (a : α) (v : β) : BornOk (l ++ [(a, v, clk)]) (clk + 1) := by
  refine ⟨?_, ?_⟩
  · intro p hp
    rcases List.mem_append.1 hp with hp | hp
    · have := h.1 p hp; omega
    · simp only [List.mem_cons, List.not_mem_nil, or_false] at hp; subst hp; show clk < clk + 1; omega
  · simp only [List.map_append, List.map_cons, List.map_nil, List.nodup_append, h.2, List.nodup_cons, List.not_mem_nil, not_false_eq_true, List.nodup_nil, and_self, true_and]
    intro x hx y hy
    obtain ⟨p, hp, rfl⟩ := List.mem_map.1 hx
    have := h.1 p hp
    simp only [List.mem_cons, List.not_mem_nil, or_false] at hy
    omega

theorem StoreAt.add {w w2 : World} {own own2 : Nat → Prop} {bs be bk : Nat} {pl : Int → Site} {s : St} (h : StoreAt w own bs be bk pl s) {e : Ent} {p : Site}
    (hid : e.id ∉ s.ids) (hE : EntAt w2 own2 p e) (hnew : ¬ own p.blk) (hsub : ∀ k, own k → own2 k) (hlow : ∀ k, own2 k → k < w2.heap.size) (hkinds : ∀ k, own2 k → GoodKind w2.heap[k]?)
    {l : List (Int × Site × Nat)} {clk : Nat} (hl : l.map (fun p => (p.1, p.2.1)) = s.ents.map (fun e => (e.id, pl e.id))) (hlb : BornOk l clk)
    {l' : List (Shape × Int × Nat)} {clk' : Nat} (hl' : l'.map (fun p => (p.1, p.2.1)) = s.ents.map (fun e => (e.shape, e.id))) (hlb' : BornOk l' clk')
    (h2 : w2.heap[be]? = some (.map (mEs (.int .u64) encP (l ++ [(e.id, p, clk)])) (clk + 1))) (h3 : w2.heap[bk]? = some (.map (mEs encShape (.int .u64) (l' ++ [(e.shape, e.id, clk')])) (clk' + 1)))
    (hoth : ∀ k, own k → k ≠ be → k ≠ bk → w2.heap[k]? = w.heap[k]?) : StoreAt w2 own2 bs be bk (plAdd pl e.id p) { s with ents := s.ents ++ [e] } := by
  obtain ⟨l0, clk0, h0, _, _⟩ := h.entries
  obtain ⟨k0, kc0, k1, _, _⟩ := h.known
  have hne : ∀ (k : Nat) (cur : Array Value) (T : TypeId) (fz : Nat × Nat), own k → w.heap[k]? = some (Obj.cells cur T fz) → w2.heap[k]? = some (Obj.cells cur T fz) := by
    intro k cur T fz ho hk
    rw [hoth k ho ?_ ?_]
    · exact hk
    · rintro rfl; rw [h0] at hk; simp at hk
    · rintro rfl; rw [k1] at hk; simp at hk
  have hpl : ∀ x ∈ s.ents, plAdd pl e.id p x.id = pl x.id := by
    intro x hx
    unfold plAdd
    rw [if_neg]
    intro hxe
    exact hid (List.mem_map.2 ⟨x, hx, hxe⟩)
  have hpe : plAdd pl e.id p e.id = p := by unfold plAdd; rw [if_pos rfl]
  refine ⟨⟨hsub _ h.mine.1, hsub _ h.mine.2.1, hsub _ h.mine.2.2⟩, hlow, hkinds, hne _ _ _ _ h.mine.1 h.main, ⟨_, _, h2, ?_, hlb.add _ _⟩, ⟨_, _, h3, ?_, hlb'.add _ _⟩, ?_, h.maps, ?_⟩
  · simp only [List.map_append, List.map_cons, List.map_nil, hl, hpe]
    congr 1
    exact List.map_congr_left fun x hx => by rw [hpl x hx]
  · simp only [List.map_append, List.map_cons, List.map_nil, hl']
  · intro x hx
    rcases List.mem_append.1 hx with hx | hx
    · have X := h.ents x hx
      rw [hpl x hx]
      have hsl : ∀ {T : TypeId} {v' : Value} {xs : List Value}, SlAt w own T v' xs → SlAt w2 own2 T v' xs := by
        intro T v' xs hs
        rcases hs with hs | ⟨b, off, c, cur, fz, g1, g2, g3, g4, g5⟩
        · exact .inl hs
        · exact .inr ⟨b, off, c, cur, fz, g1, g2, hsub _ g3, hne _ _ _ _ g3 g4, g5⟩
      exact ⟨hsub _ X.mine, hne _ _ _ _ X.mine X.heap, hsl X.names, hsl X.args⟩
    · simp only [List.mem_cons, List.not_mem_nil, or_false] at hx
      subst hx
      rw [hpe]; exact hE
  · intro x hx y hy hxy
    rcases List.mem_append.1 hx with hx0 | hx0 <;> rcases List.mem_append.1 hy with hy0 | hy0
    · rw [hpl x hx0, hpl y hy0] at hxy; exact h.apart x hx0 y hy0 hxy
    · simp only [List.mem_cons, List.not_mem_nil, or_false] at hy0
      subst hy0
      rw [hpl x hx0, hpe] at hxy
      exact absurd (hxy ▸ (h.ents x hx0).mine) hnew
    · simp only [List.mem_cons, List.not_mem_nil, or_false] at hx0
      subst hx0
      rw [hpl y hy0, hpe] at hxy
      exact absurd (hxy ▸ (h.ents y hy0).mine) hnew
    · simp only [List.mem_cons, List.not_mem_nil, or_false] at hx0 hy0
      subst hx0; subst hy0; rfl
end Go.Lod

/- room and release behind a use. -/
import Derived.Test.YtlfongfoddlhjaaDoorLru
namespace Go.Proofs.YtlfongfoddlhjaaDoor
open Go Go.RowKit Go.Lod
set_option maxRecDepth 100000

theorem roomN_fit {s : St} (h : (s.ents.length : Int) ≤ s.cap) : ∀ n, St.roomN n s = s
  | 0 => rfl
  | n + 1 => by rw [St.roomN, if_pos h]
theorem room_fit {s : St} (h : (s.ents.length : Int) ≤ s.cap) : s.room = s := roomN_fit h _
theorem room_none {s : St} (h : s.least = none) : s.room = s := by
  unfold St.room
  cases s.ents.length with
  | zero => rfl
  | succ n =>
    rw [St.roomN]
    by_cases hc : (s.ents.length : Int) ≤ s.cap
    · rw [if_pos hc]
    · rw [if_neg hc, h]
theorem room_one {s : St} {e : Ent} (hc : s.cap < (s.ents.length : Int)) (hp : s.ents.length ≠ 0) (hl : s.least = some e) (hf : ((s.evict e).ents.length : Int) ≤ (s.evict e).cap) : s.room = s.evict e := by
  unfold St.room
  generalize hn : s.ents.length = n at *
  cases n with
  | zero => exact absurd rfl hp
  | succ n =>
    rw [St.roomN, if_neg (by rw [hn]; omega), hl]
    exact roomN_fit hf n

theorem hold_zero {s : St} (h : s.Ok) (by_ : Int) : s.hold [0] by_ = s := by
  show s.upd 0 (Ent.addHeld by_) = s
  refine St.upd_none _ ?_
  cases hf : s.find 0 with
  | none => rfl
  | some e => exact absurd (St.find_mem hf).2 (h.nz e (St.find_mem hf).1)
theorem evict_zero {s : St} (h : s.Ok) {e : Ent} (h1 : e.ret = 0) (h2 : e.args = []) : s.evict e = { s with ents := s.ents.filter fun x => x.id != e.id } := by
  unfold St.evict
  rw [h1, h2, hold_zero h]

/-- an entry, pinned once if it is k's -/
def entP (g us : Nat → Int) (k j : Nat) : Ent := ⟨g j, 6, tName j, [], [], 0, if j = k then 1 else 0, 0, us j⟩
theorem entP_loose (g us : Nat → Int) (k j : Nat) : (entP g us k j).loose = decide (j ≠ k) := by
  unfold entP Ent.loose
  by_cases h : j = k <;> simp [h]

theorem perm_map_mem {α : Type} {f : α → Ent} {M : List α} {l : List Ent} (h : l.Perm (M.map f)) {e : Ent} (he : e ∈ l) : ∃ j ∈ M, e = f j := by
  have := h.subset he
  obtain ⟨j, hj, rfl⟩ := List.mem_map.1 this
  exact ⟨j, hj, rfl⟩

theorem filter_ids {g : Nat → Int} {f : Nat → Ent} (hf : ∀ j, (f j).id = g j) {h : Nat} {A : List Nat} (hn : h ∉ A) (hinj : ∀ j ∈ A, g j = g h → j = h) : ((h :: A).map f).filter (fun x => x.id != g h) = A.map f := by
  rw [List.map_cons, List.filter_cons]
  simp only [hf, bne_self_eq_false, Bool.false_eq_true, if_false]
  rw [List.filter_eq_self]
  intro x hx
  obtain ⟨j, hj, rfl⟩ := List.mem_map.1 hx
  simp only [hf, bne_iff_ne, ne_eq]
  intro e
  exact hn (hinj j hj e ▸ hj)

structure RRInv (most k : Nat) (g us : Nat → Int) (M : List Nat) (s : St) : Prop where
  good : s.Good
  cap : s.cap = most
  nd : M.Nodup
  inj : ∀ i ∈ M, ∀ j ∈ M, g i = g j → i = j
  ents : s.ents.Perm (M.map (entP g us k))
  rise : M.Pairwise fun a b => us a < us b

theorem unpin {most k : Nat} {g us : Nat → Int} {M : List Nat} {s : St} (h : RRInv most k g us M s) (hk : k ∈ M) :
    (∃ e, s.find (g k) = some e ∧ e.pins ≠ 0) ∧ (s.upd (g k) (Ent.addPins (-1))).ents.Perm (M.map (entK g us)) := by
  refine ⟨?_, ?_⟩
  · have hm : entP g us k k ∈ s.ents := h.ents.symm.subset (List.mem_map.2 ⟨k, hk, rfl⟩)
    exact ⟨_, St.find_of_mem h.good.ok.nd hm, by simp [entP]⟩
  · have := h.ents.map (fun e : Ent => if e.id = g k then Ent.addPins (-1) e else e)
    refine this.trans ?_
    rw [List.map_map]
    refine List.Perm.of_eq (List.map_congr_left fun j hj => ?_)
    simp only [Function.comp]
    by_cases hjk : j = k
    · subst hjk
      have : (entP g us j j).id = g j := rfl
      rw [if_pos this]
      simp [entP, entK, Ent.addPins]
      unfold wrap64; omega
    · have : ¬ (entP g us k j).id = g k := fun e => hjk (h.inj j hj k hk e)
      rw [if_neg this]
      simp [entP, entK, hjk]

theorem room_release {most k : Nat} {g us : Nat → Int} {A : List Nat} {s : St} (h : RRInv most k g us (A ++ [k]) s) (hl : (A ++ [k]).length ≤ most + 1) :
    (s.room.release (g k)).2 = 0 ∧ (s.room.release (g k)).1.ents.Perm ((lastN most (A ++ [k])).map (entK g us)) := by
  have hlen : s.ents.length = A.length + 1 := by rw [h.ents.length_eq]; simp
  have hkm : ∀ B : List Nat, k ∈ B ++ [k] := fun B => by simp
  -- what room leaves
  have h1 : ∃ B, s.room.ents.Perm ((B ++ [k]).map (entP g us k)) ∧ (B ++ [k]).Sublist (A ++ [k]) ∧ ((B ++ [k] = lastN most (A ++ [k]) ∧ (B ++ [k]).length ≤ most) ∨ (B = [] ∧ most = 0 ∧ A = [])) := by
    by_cases hfit : A.length + 1 ≤ most
    · have hr := room_fit (s := s) (by rw [hlen, h.cap]; omega)
      rw [hr]
      exact ⟨A, h.ents, List.Sublist.refl _, .inl ⟨(lastN_all (by simp; omega)).symm, by simp; omega⟩⟩
    · have hlm : A.length = most := by simp at hl; omega
      cases A with
      | nil =>
        have hnone : s.least = none := by
          cases hle : s.least with
          | none => rfl
          | some b =>
            obtain ⟨hb1, hb2, _⟩ := (leastL_spec s.ents).2 b hle
            obtain ⟨j, hj, rfl⟩ := perm_map_mem h.ents hb1
            simp only [List.nil_append, List.mem_cons, List.not_mem_nil, or_false] at hj
            rw [entP_loose] at hb2
            simp [hj] at hb2
        rw [room_none hnone]
        exact ⟨[], h.ents, List.Sublist.refl _, .inr ⟨rfl, by simpa using hlm.symm, rfl⟩⟩
      | cons x A' =>
        have hnd := h.nd
        rw [List.cons_append, List.nodup_cons] at hnd
        have hxk : x ≠ k := fun e => hnd.1 (by rw [e]; exact hkm A')
        have hleast : s.least = some (entP g us k x) := by
          have hxm : entP g us k x ∈ s.ents := h.ents.symm.subset (List.mem_map.2 ⟨x, by simp, rfl⟩)
          have hxl : (entP g us k x).loose = true := by rw [entP_loose]; simpa using hxk
          cases hle : s.least with
          | none =>
            have := (leastL_spec s.ents).1 hle _ hxm
            rw [this] at hxl; simp at hxl
          | some b =>
            obtain ⟨hb1, hb2, hb3⟩ := (leastL_spec s.ents).2 b hle
            obtain ⟨j, hj, rfl⟩ := perm_map_mem h.ents hb1
            have hu := hb3 _ hxm hxl
            by_cases hjx : j = x
            · rw [hjx]
            · have hp := h.rise
              rw [List.cons_append, List.pairwise_cons] at hp
              rw [List.cons_append, List.mem_cons] at hj
              have := hp.1 j (hj.resolve_left hjx)
              simp only [entP] at hu
              omega
        have hev := evict_zero h.good.ok (e := entP g us k x) rfl rfl
        have hinj : ∀ j ∈ A' ++ [k], g j = g x → j = x := fun j hj e => h.inj j (by rw [List.cons_append]; exact List.mem_cons_of_mem _ hj) x (by simp) e
        have hents : (s.evict (entP g us k x)).ents.Perm ((A' ++ [k]).map (entP g us k)) := by
          rw [hev]
          have := h.ents.filter (fun y => y.id != g x)
          rw [List.cons_append, filter_ids (g := g) (f := entP g us k) (fun _ => rfl) hnd.1 hinj] at this
          exact this
        have hle2 : (s.evict (entP g us k x)).ents.length = A'.length + 1 := by rw [hents.length_eq]; simp
        have hcap := (s.evict_cap (entP g us k x)).1
        simp only [List.length_cons] at hlm hlen
        have hr := room_one (s := s) (e := entP g us k x) (by rw [hlen, h.cap]; omega) (by omega) hleast (by rw [hle2, hcap, h.cap]; omega)
        rw [hr]
        refine ⟨A', hents, by rw [List.cons_append]; exact List.sublist_cons_self _ _, .inl ⟨?_, by simp; omega⟩⟩
        unfold lastN
        rw [show (x :: A' ++ [k]).length - most = 1 by simp; omega]
        rfl
  obtain ⟨B, hB, hsub, hor⟩ := h1
  obtain ⟨g1, g2, g3, g4⟩ := St.room_good h.good
  have hR : RRInv most k g us (B ++ [k]) s.room := ⟨g1, g2.trans h.cap, h.nd.sublist hsub, fun i hi j hj e => h.inj i (hsub.subset hi) j (hsub.subset hj) e, hB, h.rise.sublist hsub⟩
  obtain ⟨⟨e, hf, hp⟩, hu⟩ := unpin hR (hkm B)
  have hrel : s.room.release (g k) = ((s.room.upd (g k) (Ent.addPins (-1))).room, 0) := by
    unfold St.release
    rw [hf]
    simp only [hp, if_false]
  rw [hrel]
  refine ⟨rfl, ?_⟩
  show (s.room.upd (g k) (Ent.addPins (-1))).room.ents.Perm _
  have hcap4 : (s.room.upd (g k) (Ent.addPins (-1))).cap = most := hR.cap
  have hgood4 := hR.good.pin (g k) (-1)
  generalize s.room.upd (g k) (Ent.addPins (-1)) = s4 at *
  have hlen4 : s4.ents.length = B.length + 1 := by rw [hu.length_eq]; simp
  rcases hor with ⟨h5, h6⟩ | ⟨rfl, rfl, rfl⟩
  · rw [room_fit (by rw [hlen4, hcap4]; simp at h6; omega), ← h5]
    exact hu
  · have hleast : s4.least = some (entK g us k) := by
      have hm : entK g us k ∈ s4.ents := hu.symm.subset (by simp)
      cases hle : s4.least with
      | none =>
        have := (leastL_spec s4.ents).1 hle _ hm
        simp [entK, Ent.loose] at this
      | some b =>
        obtain ⟨hb1, _, _⟩ := (leastL_spec s4.ents).2 b hle
        obtain ⟨j, hj, rfl⟩ := perm_map_mem hu hb1
        simp only [List.nil_append, List.mem_cons, List.not_mem_nil, or_false] at hj
        rw [hj]
    have hev := evict_zero hgood4.ok (e := entK g us k) rfl rfl
    have hents : (s4.evict (entK g us k)).ents = [] := by
      rw [hev]
      have := hu.filter (fun y => y.id != g k)
      simp only [List.nil_append, List.map_cons, List.map_nil] at this
      rw [List.filter_cons] at this
      simp only [entK, bne_self_eq_false, Bool.false_eq_true, if_false, List.filter_nil] at this
      exact this.eq_nil
    have hcap := (s4.evict_cap (entK g us k)).1
    rw [room_one (by rw [hlen4, hcap4]; simp) (by omega) hleast (by rw [hents, hcap, hcap4]; simp), hents]
    simp [lastN]
end Go.Proofs.YtlfongfoddlhjaaDoor

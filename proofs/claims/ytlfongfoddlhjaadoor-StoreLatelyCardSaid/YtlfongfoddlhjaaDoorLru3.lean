/- A use of the store's model keeps what was used lately. -/
import Derived.Test.YtlfongfoddlhjaaDoorLru2
namespace Go.Proofs.YtlfongfoddlhjaaDoor
open Go Go.RowKit Go.Lod
set_option maxRecDepth 100000

def gv (given : List Int) (k : Nat) : Int := given.getD k 0

structure LInv (most : Nat) (s : St) (order : List Nat) (given : List Int) (us : Nat → Int) : Prop where
  good : s.Good
  cap : s.cap = most
  nd : order.Nodup
  lt : ∀ k ∈ order, k < 40
  len : given.length = 40
  inj : ∀ k ∈ order, ∀ j ∈ order, gv given k = gv given j → k = j
  giv : ∀ k ∈ order, gv given k ≤ s.given
  ents : s.ents.Perm ((lastN most order).map (entK (gv given) us))
  rise : (lastN most order).Pairwise fun a b => us a < us b

theorem lastN_sub (n : Nat) (l : List Nat) : (lastN n l).Sublist l := List.drop_sublist _ _

theorem gv_set {given : List Int} {k j : Nat} {x : Int} (hk : k < given.length) : gv (given.set k x) j = if j = k then x else gv given j := by
  unfold gv
  simp only [List.getD_eq_getElem?_getD, List.getElem?_set]
  by_cases h : k = j
  · subst h; simp [hk]
  · have : ¬ j = k := fun e => h e.symm
    simp [h, this]
theorem gv_same {given : List Int} {k : Nat} (hk : k < given.length) : given.set k (gv given k) = given := by
  unfold gv
  simp only [List.getD_eq_getElem?_getD, List.getElem?_eq_getElem hk, Option.getD_some]
  exact List.set_getElem_self hk

def usK (us : Nat → Int) (k : Nat) (c : Int) (j : Nat) : Int := if j = k then c else us j

theorem lay_tK (s : St) (k : Nat) : s.lay (tK k) = s.layOne 6 (tName k) [] [] 0 := by
  unfold tK
  simp only [St.lay, St.layL]

/-- behind the laying and the pin, ahead of room: the state that room meets -/
theorem laid {most : Nat} {s : St} {order : List Nat} {given : List Int} {us : Nat → Int} (h : LInv most s order given us) {k : Nat} (hk : k < 40) (hg : s.given + 1 < 9223372036854775808) (hc : s.clock + 1 < 9223372036854775808) :
    ∃ A : List Nat, (A ++ [k]).length ≤ most + 1 ∧ lastN most (A ++ [k]) = lastN most (keepK k order ++ [k]) ∧
      RRInv most k (gv (given.set k (s.lay (tK k)).2)) (usK us k (s.clock + 1)) (A ++ [k]) ((s.lay (tK k)).1.upd (s.lay (tK k)).2 (Ent.addPins 1)) ∧
      (∀ i ∈ order, i ≠ k → gv given i ≠ (s.lay (tK k)).2) ∧ s.given ≤ (s.lay (tK k)).1.given ∧ (s.lay (tK k)).2 ≤ (s.lay (tK k)).1.given := by
  obtain ⟨a1, a2, a3, a4, a5, a6⟩ := St.lay_spec (tK k) s h.good (fitsK k) (by rw [sizeK]; exact hg) (by rw [sizeK]; exact hc)
  have hid := (a1.mem_id (a5 rfl)).2
  have hc0 := h.good.c0
  have hg0 := h.good.g0
  have w1 : wrapu (s.clock + 1) = s.clock + 1 := wrapu_in (by omega) (by omega)
  have w2 : wrapu (s.given + 1) = s.given + 1 := wrapu_in (by omega) (by omega)
  have hLn := lastN_length most order
  have hLs := lastN_sub most order
  have hnL : (lastN most order).Nodup := h.nd.sublist hLs
  have hlo := lay_tK s k
  have hkl : k < given.length := by rw [h.len]; exact hk
  have hused : ∀ j ∈ lastN most order, us j ≤ s.clock := fun j hj => (h.good.used _ (h.ents.symm.subset (List.mem_map.2 ⟨j, hj, rfl⟩))).2
  have hP1 : wrap64 (0 + 1) = 1 := by unfold wrap64; omega
  unfold St.layOne at hlo
  simp only [w1, w2] at hlo
  have hat : St.at { s with clock := s.clock + 1 } ⟨6, tName k, fieldsOf [], partsOf [], 0⟩ = s.at ⟨6, tName k, fieldsOf [], partsOf [], 0⟩ := rfl
  rw [hat] at hlo
  cases hf : s.at ⟨6, tName k, fieldsOf [], partsOf [], 0⟩ with
  | some e =>
    rw [hf] at hlo
    simp only at hlo
    obtain ⟨hm, hsh⟩ := St.at_mem hf
    obtain ⟨j, hj, rfl⟩ := perm_map_mem h.ents hm
    have hjk : j = k := tName_inj (h.lt j (hLs.subset hj)) hk (by simpa [entK, Ent.shape] using congrArg Shape.name hsh)
    subst hjk
    have hid2 : (entK (gv given) us j).id = gv given j := rfl
    rw [hid2] at hlo
    rw [hlo] at a1 a4 a6 hid ⊢
    simp only at a1 a4 a6 hid ⊢
    have hperm := keepK_perm hnL hj
    have hl2 : (keepK j (lastN most order) ++ [j]).length = (lastN most order).length := hperm.length_eq
    refine ⟨keepK j (lastN most order), by omega, ?_, ?_, ?_, a4, hid⟩
    · rw [lastN_all (by omega), lastN_use.1 hj h.nd]
    · rw [gv_same hkl]
      refine ⟨a1.pin _ _, a6.trans h.cap, hperm.nodup_iff.2 hnL, ?_, ?_, ?_⟩
      · intro i hi i' hi' e
        exact h.inj i (hLs.subset (hperm.subset hi)) i' (hLs.subset (hperm.subset hi')) e
      · have h2 := (h.ents.map (fun e : Ent => if e.id = gv given j then { e with used := s.clock + 1 } else e)).map (fun e : Ent => if e.id = gv given j then Ent.addPins 1 e else e)
        refine h2.trans ?_
        rw [List.map_map, List.map_map]
        refine (List.Perm.of_eq (List.map_congr_left (g := entP (gv given) (usK us j (s.clock + 1)) j) fun i hi => ?_)).trans (hperm.symm.map _)
        simp only [Function.comp]
        by_cases hij : i = j
        · subst hij
          have e1 : (entK (gv given) us i).id = gv given i := rfl
          rw [if_pos e1]
          simp [entK, entP, usK, Ent.addPins]
          exact hP1
        · have e1 : ¬ (entK (gv given) us i).id = gv given j := fun e => hij (h.inj i (hLs.subset hi) j (hLs.subset hj) e)
          rw [if_neg e1, if_neg e1]
          simp [entK, entP, usK, hij]
      · rw [List.pairwise_append]
        refine ⟨?_, by simp, ?_⟩
        · refine (h.rise.sublist List.filter_sublist).imp_of_mem ?_
          intro x y hx hy hxy
          have hx' := (keepK_mem.1 hx).2
          have hy' := (keepK_mem.1 hy).2
          simp only [usK, hx', hy', if_false]; exact hxy
        · intro x hx y hy
          simp only [List.mem_cons, List.not_mem_nil, or_false] at hy
          have hx' := keepK_mem.1 hx
          subst hy
          simp only [usK, hx'.2, if_false, if_true]
          have := hused x hx'.1
          omega
    · intro i hi hij e
      exact hij (h.inj i hi j (hLs.subset hj) e)
  | none =>
    rw [hf] at hlo
    simp only at hlo
    have hnone := St.at_none hf
    have hkL : k ∉ lastN most order := fun hkm => hnone _ (h.ents.symm.subset (List.mem_map.2 ⟨k, hkm, rfl⟩)) rfl
    have hok := h.good.add (e := ⟨s.given + 1, 6, tName k, [], [], 0, 0, 0, 0⟩) rfl hnone rfl (by simp)
    have hz : St.hold { cap := s.cap, given := s.given + 1, clock := s.clock + 1, ents := s.ents ++ [⟨s.given + 1, 6, tName k, [], [], 0, 0, 0, 0⟩] } [0] 1 = _ := hold_zero (s := { cap := s.cap, given := s.given + 1, clock := s.clock + 1, ents := s.ents ++ [⟨s.given + 1, 6, tName k, [], [], 0, 0, 0, 0⟩] }) ⟨hok.nd, hok.nz, hok.us, hok.sh, hok.ln⟩ 1
    rw [hz] at hlo
    rw [hlo] at a1 a4 a6 hid ⊢
    simp only at a1 a4 a6 hid ⊢
    refine ⟨lastN most order, by simp; omega, ?_, ?_, ?_, a4, hid⟩
    · by_cases hm : (lastN most order).length < most
      · rw [lastN_use.2.1 hkL hm]
        exact lastN_all (by simp; omega)
      · have hm' : (lastN most order).length = most := by omega
        rw [lastN_use.2.2 hkL hm']
        generalize lastN most order = L at *
        unfold lastN
        rw [List.length_append, hm', show most + [k].length - most = 1 by simp]
    · have hgk : ∀ i ∈ lastN most order, i ≠ k ∧ gv (given.set k (s.given + 1)) i = gv given i ∧ gv given i ≤ s.given := fun i hi => by
        have hik : i ≠ k := fun e => hkL (e ▸ hi)
        exact ⟨hik, by rw [gv_set hkl, if_neg hik], h.giv i (hLs.subset hi)⟩
      have hgk' : gv (given.set k (s.given + 1)) k = s.given + 1 := by rw [gv_set hkl, if_pos rfl]
      refine ⟨a1.pin _ _, a6.trans h.cap, ?_, ?_, ?_, ?_⟩
      · rw [List.nodup_append]
        exact ⟨hnL, by simp, fun a ha b hb => by simp only [List.mem_cons, List.not_mem_nil, or_false] at hb; subst hb; exact (hgk a ha).1⟩
      · intro i hi i' hi' e
        rcases List.mem_append.1 hi with hj | hj <;> rcases List.mem_append.1 hi' with hj' | hj'
        · rw [(hgk i hj).2.1, (hgk i' hj').2.1] at e
          exact h.inj i (hLs.subset hj) i' (hLs.subset hj') e
        · simp only [List.mem_cons, List.not_mem_nil, or_false] at hj'
          rw [hj', (hgk i hj).2.1, hgk'] at e
          have := (hgk i hj).2.2
          omega
        · simp only [List.mem_cons, List.not_mem_nil, or_false] at hj
          rw [hj, (hgk i' hj').2.1, hgk'] at e
          have := (hgk i' hj').2.2
          omega
        · simp only [List.mem_cons, List.not_mem_nil, or_false] at hj hj'
          rw [hj, hj']
      · have h2 := ((h.ents.append_right [(⟨s.given + 1, 6, tName k, [], [], 0, 0, 0, 0⟩ : Ent)]).map (fun e : Ent => if e.id = s.given + 1 then { e with used := s.clock + 1 } else e)).map (fun e : Ent => if e.id = s.given + 1 then Ent.addPins 1 e else e)
        refine h2.trans (List.Perm.of_eq ?_)
        rw [List.map_append, List.map_append, List.map_append, List.map_map, List.map_map]
        congr 1
        · refine List.map_congr_left fun i hi => ?_
          obtain ⟨b1, b2, b3⟩ := hgk i hi
          have e1 : ¬ (entK (gv given) us i).id = s.given + 1 := by show ¬ gv given i = s.given + 1; omega
          simp only [Function.comp]
          rw [if_neg e1, if_neg e1]
          simp [entK, entP, usK, b1, b2]
        · simp [entP, usK, hgk', Ent.addPins]
          exact hP1
      · rw [List.pairwise_append]
        refine ⟨?_, by simp, ?_⟩
        · refine h.rise.imp_of_mem ?_
          intro x y hx hy hxy
          simp only [usK, (hgk x hx).1, (hgk y hy).1, if_false]; exact hxy
        · intro x hx y hy
          simp only [List.mem_cons, List.not_mem_nil, or_false] at hy
          subst hy
          simp only [usK, (hgk x hx).1, if_false, if_true]
          have := hused x hx
          omega
    · intro i hi _ e
      have := h.giv i hi
      omega

theorem use_law {most : Nat} {s : St} {order : List Nat} {given : List Int} {us : Nat → Int} (h : LInv most s order given us) {k : Nat} (hk : k < 40) (hg : s.given + 1 < 9223372036854775808) (hc : s.clock + 1 < 9223372036854775808) :
    ((s.intern (tK k)).1.release (s.intern (tK k)).2).2 = 0 ∧ (∃ us', LInv most ((s.intern (tK k)).1.release (s.intern (tK k)).2).1 (keepK k order ++ [k]) (given.set k (s.intern (tK k)).2) us') ∧
    ((s.intern (tK k)).1.release (s.intern (tK k)).2).1.clock = s.clock + 1 ∧ ((s.intern (tK k)).1.release (s.intern (tK k)).2).1.given ≤ s.given + 1 := by
  obtain ⟨A, h1, h2, h3, h4, h5, h6⟩ := laid h hk hg hc
  have he : s.intern (tK k) = (((s.lay (tK k)).1.upd (s.lay (tK k)).2 (Ent.addPins 1)).room, (s.lay (tK k)).2) := rfl
  obtain ⟨i1, i2, i3, i4, i5⟩ := St.intern_good h.good (fitsK k) (by rw [sizeK]; exact hg) (by rw [sizeK]; exact hc)
  obtain ⟨r1, r2, r3, r4⟩ := St.release_good i1 (s.intern (tK k)).2
  rw [sizeK] at i4 i5
  have hkl : k < given.length := by rw [h.len]; exact hk
  have hgk : gv (given.set k (s.lay (tK k)).2) k = (s.lay (tK k)).2 := by rw [gv_set hkl, if_pos rfl]
  have hrr := room_release h3 h1
  rw [hgk] at hrr
  rw [he] at i1 i2 i3 i4 i5 r1 r2 r3 r4 ⊢
  simp only at i1 i2 i3 i4 i5 r1 r2 r3 r4 ⊢
  refine ⟨hrr.1, ⟨usK us k (s.clock + 1), r1, by rw [r2, i2]; exact h.cap, ?_, ?_, by simp [h.len], ?_, ?_, by rw [← h2]; exact hrr.2, by rw [← h2]; exact h3.rise.sublist (lastN_sub _ _)⟩, by rw [r4, i5]; rfl, by rw [r3]; exact i4⟩
  · rw [List.nodup_append]
    refine ⟨h.nd.filter _, by simp, ?_⟩
    intro a ha b hb
    simp only [List.mem_cons, List.not_mem_nil, or_false] at hb
    subst hb
    exact (keepK_mem.1 ha).2
  · intro i hi
    rcases List.mem_append.1 hi with hi | hi
    · exact h.lt i (keepK_mem.1 hi).1
    · simp only [List.mem_cons, List.not_mem_nil, or_false] at hi
      subst hi; exact hk
  · intro i hi j hj e
    rw [gv_set hkl, gv_set hkl] at e
    rcases List.mem_append.1 hi with hi | hi <;> rcases List.mem_append.1 hj with hj | hj
    · have hi' := keepK_mem.1 hi
      have hj' := keepK_mem.1 hj
      rw [if_neg hi'.2, if_neg hj'.2] at e
      exact h.inj i hi'.1 j hj'.1 e
    · have hi' := keepK_mem.1 hi
      simp only [List.mem_cons, List.not_mem_nil, or_false] at hj
      subst hj
      rw [if_neg hi'.2, if_pos rfl] at e
      exact absurd e (h4 i hi'.1 hi'.2)
    · have hj' := keepK_mem.1 hj
      simp only [List.mem_cons, List.not_mem_nil, or_false] at hi
      subst hi
      rw [if_neg hj'.2, if_pos rfl] at e
      exact absurd e.symm (h4 j hj'.1 hj'.2)
    · simp only [List.mem_cons, List.not_mem_nil, or_false] at hi hj
      rw [hi, hj]
  · intro i hi
    rw [gv_set hkl, r3]
    obtain ⟨-, -, c3, -⟩ := St.room_good (s := (s.lay (tK k)).1.upd (s.lay (tK k)).2 (Ent.addPins 1)) h3.good
    by_cases hik : i = k
    · rw [if_pos hik, c3]; exact h6
    · rw [if_neg hik, c3]
      rcases List.mem_append.1 hi with hi | hi
      · exact Int.le_trans (h.giv i (keepK_mem.1 hi).1) h5
      · simp only [List.mem_cons, List.not_mem_nil, or_false] at hi
        exact absurd hi hik
end Go.Proofs.YtlfongfoddlhjaaDoor

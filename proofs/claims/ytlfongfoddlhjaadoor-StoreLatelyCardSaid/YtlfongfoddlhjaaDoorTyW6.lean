/- may: of types without unions. -/
import Derived.Test.YtlfongfoddlhjaaDoorTyW5
namespace Go.Proofs.YtlfongfoddlhjaaDoor
open Go Go.RowKit Go.Lod
set_option maxRecDepth 100000

mutual
/-- a type that may be, but for its size; no union within it -/
def MayOk : Ty → Prop
  | .nil => False
  | .mk k nm ns gs r => 1 ≤ k ∧ k ≤ 8 ∧ Plain k nm ns gs r ∧ MayOkL gs ∧ (k = 6 → madeB nm ⟨#[45, 47, 46]⟩ 161 = true) ∧ (k = 7 → ns.length = gs.length ∧ (∀ n ∈ ns, fieldB n = true) ∧ Rises ns) ∧ (k = 8 → MayOk r)
def MayOkL : List Ty → Prop
  | [] => True
  | t :: ts => MayOk t ∧ MayOkL ts
end

theorem field_no (s : ByteArray) (h : fieldB s = true) (w : World) : Calls Tryd.prog 34 #[.string s] w fun e w' => e = .returned (.bool false) ∧ Below w.heap.size w w' := by
  have hf := field_true s h w
  go_enter Tryd.func34, Tryd.ntmps34
  go_wp2_with (go_at_call 35; refine hf.mono ?_; clear hf; rintro e w2 ⟨rfl, hB⟩)
  go_ret
  exact ⟨rfl, hB⟩

theorem itself_s (s : ByteArray) (w : World) : Calls Tryd.prog 37 #[.string s] w fun e w' => e = .returned (.string s) ∧ Below w.heap.size w w' := by
  go_enter Tryd.func37, Tryd.ntmps37
  go_wp2
  go_ret
  exact ⟨rfl, Below.refl _ _⟩

theorem MayOkL.mem {t : Ty} : ∀ {gs : List Ty}, MayOkL gs → t ∈ gs → MayOk t
  | [], _, h => by simp at h
  | g :: gs, hf, h => by
    obtain ⟨h1, h2⟩ := hf
    rcases List.mem_cons.1 h with rfl | h
    · exact h1
    · exact MayOkL.mem h2 h

def MayAt (T : Ty) : Prop := ∀ (w : World) (S : Nat → Prop) (v : Value), TyAt w S T v → MayOk T → T.Fits →
  Calls Tryd.prog 21 #[v] w fun e w' => e = .returned (.bool true) ∧ Below w.heap.size w w'

theorem may_no (T : Ty) (ih : MayAt T) (hm : MayOk T) (hf : T.Fits) (w : World) (S : Nat → Prop) (v : Value) (hT : TyAt w S T v) :
    Calls Tryd.prog 30 #[v] w fun e w' => e = .returned (.bool false) ∧ Below w.heap.size w w' := by
  have h := ih w S v hT hm hf
  obtain ⟨p, rfl⟩ := tyAt_ptr hT
  clear hT hm hf
  go_enter Tryd.func30, Tryd.ntmps30
  go_wp2_with (go_at_call 21; refine h.mono ?_; clear h; rintro e w2 ⟨rfl, hB⟩)
  go_ret
  exact ⟨rfl, hB⟩

set_option maxHeartbeats 4000000 in
theorem may_step (k : Int) (nm : ByteArray) (ns : List ByteArray) (gs : List Ty) (r : Ty) (ihg : ∀ t ∈ gs, MayAt t) (ihr : MayAt r) : MayAt (.mk k nm ns gs r) := by
  intro w S v hT hm hf
  have hpl := plain_true hT hm.2.2.1
  obtain ⟨tb, nv, av, rv, rfl, htb, hth, hnv, ⟨ps, hav, hps⟩, hrv⟩ := hT
  obtain ⟨m1, m2, m3, m4, m5, m6, m7⟩ := hm
  obtain ⟨hf1, hf2, hf3, hf4, hf5⟩ := hf
  have hpn := TysAt.length gs ps hps
  have c0 : w.cell? ⟨tb, 0, none⟩ = some (.int .i64 k) := cellq hth
  have c3 : w.cell? ⟨tb, 3, none⟩ = some av := cellq hth
  have hargs := contains_none_p 30 (enters_of Tryd.func30 (by kernel_rfl) rfl) hav (by omega) (fun j x W hx hB => by
    have hj : j < gs.length := by have := (List.getElem?_eq_some_iff.1 hx).1; omega
    obtain ⟨t, ht⟩ : ∃ t, gs[j]? = some t := ⟨_, List.getElem?_eq_getElem hj⟩
    obtain ⟨p, hp, htp⟩ := TysAt.get gs ps hps j t ht
    rw [hx] at hp
    simp only [Option.some.injEq] at hp
    subst hp
    have htm := List.mem_of_getElem? ht
    exact may_no t (ihg t htm) (m4.mem htm) (fits_mem' hf4 htm).2 W S x (htp.kept fun i o hi ho => ⟨by rw [hB.block i (lt_of_block ho)]; exact ho, hi⟩))
  have hk1 : ¬ k < 1 := by omega
  have hk9 : ¬ (9 : Int) < k := by omega
  have htl : tb < w.heap.size := lt_of_block hth
  obtain ⟨na, nc, rfl⟩ := hnv.form
  obtain ⟨aa, ac, rfl⟩ := hav.form
  rw [hpn] at hargs c3
  have HH := Lib.hid (And.intro hnv (And.intro hrv (And.intro m5 (And.intro m6 (And.intro m7 (And.intro hth (And.intro hf5 (And.intro hf1 (And.intro m1 m2)))))))))
  clear hnv hrv m5 m6 m7 hth hf5 hf1 m4 hf4 hf2 hf3 hps ihg m3 m1 m2 hav
  go_enter Tryd.func21, Tryd.ntmps21
  go_upto_region 6 with (first | (go_at_call 29; refine hpl.mono ?_; clear hpl; rintro e w2 ⟨rfl, rfl⟩) | (go_at_call 31; refine hargs.mono ?_; clear hargs; rintro e w3 ⟨rfl, hB3⟩))
  obtain ⟨hnv, hrv, m5, m6, m7, hth, hf5, hf1, m1, m2⟩ := HH.out
  have hk := fun {T' : TypeId} {v' : Value} {xs : List Value} (h : SlAt w2 S T' v' xs) => slAt_below h hB3
  have hnv3 := hk hnv
  have hrv3 : TyAt w3 S r rv := hrv.kept fun i o hi ho => ⟨by rw [hB3.block i (lt_of_block ho)]; exact ho, hi⟩
  have hth3 := (hB3.block tb htl).trans hth
  rw [hpn, List.length_map] at hth3
  rw [List.length_map] at hnv3
  have d0 : w3.cell? ⟨tb, 0, none⟩ = some (.int .i64 k) := cellq hth3
  have d1 : w3.cell? ⟨tb, 1, none⟩ = some (.string nm) := cellq hth3
  have d2 : w3.cell? ⟨tb, 2, none⟩ = some (.slice na ns.length nc) := cellq hth3
  have d3 : w3.cell? ⟨tb, 3, none⟩ = some (.slice aa gs.length ac) := cellq hth3
  have d4 : w3.cell? ⟨tb, 4, none⟩ = some rv := cellq hth3
  have HB := Lib.hid hB3
  have HN := Lib.hid hnv3
  have HR := Lib.hid hrv3
  clear hk hnv hrv hth hnv3 hrv3 hth3 HH hB3 c0 c3 hk1 hk9 htl hpn
  by_cases k6 : k = 6
  · subst k6
    have hm := made_true nm ⟨#[45, 47, 46]⟩ 161 (by omega) (by decide) (by decide) (m5 rfl) w3
    clear m5 m6 m7 m1 m2
    go_wp2_with (go_at_call 32; refine hm.mono ?_; clear hm; rintro e w4 ⟨rfl, hB4⟩)
    go_ret
    exact ⟨rfl, HB.out.trans (hB4.mono HB.out.size)⟩
  have b6 : (k == 6) = false := beq_eq_false_iff_ne.2 k6
  by_cases k7 : k = 7
  · subst k7
    obtain ⟨q1, q2, q3⟩ := m6 rfl
    have hcn := fun W (hB : Below w3.heap.size w3 W) => contains_none_s 34 (enters_of Tryd.func34 (by kernel_rfl) rfl) (slAt_below HN.out hB) (by simp; omega) (fun j x W' hx hB' => by
      obtain ⟨n, hn, rfl⟩ := List.mem_map.1 (List.mem_of_getElem? hx)
      exact field_no n (q2 n hn) W')
    have hrs := fun W (hB : Below w3.heap.size w3 W) => rising_s 37 (enters_of Tryd.func37 (by kernel_rfl) rfl) (slAt_below HN.out hB) hf1 rfl (fun j x t W' hx ht hB' => by
      simp only [List.getElem?_map, ht, Option.map_some, Option.some.injEq] at hx
      subst hx
      exact itself_s t W') q3
    have hcell : ∀ W, Below w3.heap.size w3 W → W.cell? ⟨tb, 2, none⟩ = some (.slice na ns.length nc) ∧ W.cell? ⟨tb, 3, none⟩ = some (.slice aa gs.length ac) := fun W hB =>
      ⟨(hB.cell (World.block_lt_of_cell? _ _ d2)).trans d2, (hB.cell (World.block_lt_of_cell? _ _ d3)).trans d3⟩
    have hq : ((ns.length : Int) == (gs.length : Int)) = true := by rw [q1]; simp
    have e0 := hcell w3.drew (Below.refl _ _).drew
    have HC := Lib.hid hcell
    clear m5 m6 m7 m1 m2 q1 q2 q3 hf1 hcell
    go_wp2
    go_region_held3 (fun W => W.cell? ⟨tb, 2, none⟩ = some (.slice na ns.length nc) ∧ W.cell? ⟨tb, 3, none⟩ = some (.slice aa gs.length ac))
      (first | (with_reducible exact e0) | (with_reducible exact e4) | (with_reducible exact e5))
      ((first | (go_at_call 33; refine (hcn _ (Below.refl _ _).drew).mono ?_; clear hcn; rintro e w4 ⟨rfl, hB4⟩; have hB4' := ((Below.refl w3.heap.size w3).drew).trans hB4; have e4 := HC.out _ hB4') | (go_at_call 36; refine (hrs _ hB4').mono ?_; clear hrs; rintro e w5 ⟨rfl, hB5⟩; have hB5' := hB4'.trans (hB5.mono hB4'.size); have e5 := HC.out _ hB5')))
    go_wp2
    go_ret
    exact ⟨rfl, HB.out.trans (hB5'.mono HB.out.size)⟩
  have b7 : (k == 7) = false := beq_eq_false_iff_ne.2 k7
  by_cases k8 : k = 8
  · subst k8
    have hm := ihr w3 S rv HR.out (m7 rfl) hf5
    clear m5 m6 m7 m1 m2
    go_wp2_with (go_at_call 21; refine hm.mono ?_; clear hm; rintro e w4 ⟨rfl, hB4⟩)
    go_ret
    exact ⟨rfl, HB.out.trans (hB4.mono HB.out.size)⟩
  have b8 : (k == 8) = false := beq_eq_false_iff_ne.2 k8
  have b9 : (k == 9) = false := beq_eq_false_iff_ne.2 (by omega)
  clear m5 m6 m7 m1 m2 k6 k7 k8
  go_wp2
  go_ret
  exact ⟨rfl, HB.out⟩
end Go.Proofs.YtlfongfoddlhjaaDoor

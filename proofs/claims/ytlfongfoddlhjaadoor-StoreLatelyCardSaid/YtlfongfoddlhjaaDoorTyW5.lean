/- rising, plain. -/
import Derived.Test.YtlfongfoddlhjaaDoorTyW4
namespace Go.Proofs.YtlfongfoddlhjaaDoor
open Go Go.RowKit Go.Lod
set_option maxRecDepth 100000

set_option maxHeartbeats 2000000 in
theorem rising_s (g : Nat) (hent : ∀ args w, (callFunc g args).run Tryd.prog w = .ok (.enter g args) w) {w : World} {S : Nat → Prop} {v : Value} {ns : List ByteArray} {ts : List ByteArray} (h : SlAt w S 9 v (ns.map .string)) (hn : ns.length < 2147483648) (hl : ts.length = ns.length)
    (ht : TxtOf g (ns.map .string) ts w) (hr : Rises ts) :
    Calls Tryd.prog 36 #[v, .func (.func g) #[] #[]] w fun e w' => e = .returned (.bool true) ∧ Below w.heap.size w w' := by
  have hB0 : Below w.heap.size w (w.alloc (.cells #[.func (.func g) #[] #[]] 88)) := (Below.refl _ w).alloc (Nat.le_refl _) _
  have hb0 : (w.alloc (.cells #[.func (.func g) #[] #[]] 88)).heap[w.heap.size]? = some (.cells #[.func (.func g) #[] #[]] 88 (0, 0)) := alc_new w _
  have hs := sorted_s g hent (slAt_below h hB0) (by simpa using hn) (by simpa using hl) hb0 (fun j x t W hx ht' hB => ht j x t W hx ht' (hB0.trans (hB.mono hB0.size))) hr
  have hcl := fun W (hB : Below w.heap.size w W) => clone_names (slAt_below h hB) hn
  have hcp := fun W v' (hB : Below w.heap.size w W) (hb : W.heap[w.heap.size]? = some (.cells #[.func (.func g) #[] #[]] 88 (0, 0))) (S' : Nat → Prop) (h' : SlAt W S' 9 v' (ns.map .string)) =>
    compact_s g hent h' (by simpa using hn) (by simpa using hl) hb (fun j x t W' hx ht' hB' => ht j x t W' hx ht' (hB.trans (hB'.mono hB.size))) hr
  obtain ⟨a, c, rfl⟩ := h.form
  simp only [List.length_map] at hs hcl ⊢
  have hsz : (w.alloc (.cells #[.func (.func g) #[] #[]] 88)).heap.size = w.heap.size + 1 := by simp only [World.size_alloc]
  clear h ht hr
  go_enter Tryd.func36, Tryd.ntmps36
  go_wp2_with (first
    | (go_at_call 49; refine hs.mono ?_; clear hs; rintro e w2 ⟨rfl, hB2⟩; have hb2 := (hB2.block w.heap.size (by omega)).trans hb0; have hB2' := hB0.trans (hB2.mono hB0.size))
    | (go_at_call 15; refine (hcl _ hB2').mono ?_; clear hcl; rintro e w3 ⟨v3, rfl, hs3, hB3⟩; obtain ⟨a3, c3, hv3⟩ := hs3.form; rw [List.length_map] at hv3; subst hv3; have hb3 := (hB3.block w.heap.size (lt_of_block hb2)).trans hb2; have hB3' := hB2'.trans (hB3.mono hB2'.size))
    | (go_at_call 51; refine (hcp _ _ hB3' hb3 _ hs3).mono ?_; clear hcp; rintro e w4 ⟨rfl, hB4⟩; have hB4' := hB3'.trans (hB4.mono hB3'.size)))
  go_ret
  exact ⟨rfl, hB4'⟩

/-- fields that a kind has not are zero -/
def Plain (k : Int) (nm : ByteArray) (ns : List ByteArray) (gs : List Ty) (r : Ty) : Prop := (nm = ⟨#[]⟩ ∨ k = 6) ∧ (ns = [] ∨ k = 7) ∧ (gs = [] ∨ 7 ≤ k) ∧ (r.isNil = false ↔ k = 8)

theorem plain_true {w : World} {S : Nat → Prop} {k : Int} {nm : ByteArray} {ns : List ByteArray} {gs : List Ty} {r : Ty} {v : Value} (hT : TyAt w S (.mk k nm ns gs r) v) (hp : Plain k nm ns gs r) :
    Calls Tryd.prog 29 #[v] w fun e w' => e = .returned (.bool true) ∧ w' = w := by
  obtain ⟨tb, nv, av, rv, rfl, -, hth, hnv, ⟨ps, hav, hps⟩, hrv⟩ := hT
  have hpl := TysAt.length gs ps hps
  obtain ⟨na, nc, rfl⟩ := hnv.form
  obtain ⟨aa, ac, rfl⟩ := hav.form
  rw [hpl, List.length_map] at hth
  have c0 : w.cell? ⟨tb, 0, none⟩ = some (.int .i64 k) := cellq hth
  have c1 : w.cell? ⟨tb, 1, none⟩ = some (.string nm) := cellq hth
  have c2 : w.cell? ⟨tb, 2, none⟩ = some (.slice na ns.length nc) := cellq hth
  have c3 : w.cell? ⟨tb, 3, none⟩ = some (.slice aa gs.length ac) := cellq hth
  have c4 : w.cell? ⟨tb, 4, none⟩ = some rv := cellq hth
  obtain ⟨p1, p2, p3, p4⟩ := hp
  obtain ⟨rp, rfl⟩ := tyAt_ptr hrv
  have p5 : rp.isSome = (k == 8) := by
    have : rp.isSome = !r.isNil := by
      cases r with
      | nil => obtain rfl : rp = none := by simpa [TyAt] using hrv
               rfl
      | mk => obtain ⟨_, _, _, _, e, _⟩ := hrv
              simp only [Value.pointer.injEq] at e
              subst e; rfl
    rw [this]
    cases hr : r.isNil <;> simp_all
  have p1' : nm.toList = [] ∨ k = 6 := p1.imp (fun h => by rw [h, Lib.toList_data]) id
  have HP := Lib.hid (And.intro p1' (And.intro p2 p3))
  clear hrv hnv hav hps hth p1 p1' p2 p3 p4
  go_enter Tryd.func29, Tryd.ntmps29
  go_wp2
  all_goals obtain ⟨q1, q2, q3⟩ := HP.out
  all_goals first
    | (exfalso; simp_all; done)
    | (exfalso; simp_all; omega)
    | (go_ret; exact ⟨rfl, rfl⟩)
    | (go_ret; refine ⟨?_, rfl⟩; simp_all)
end Go.Proofs.YtlfongfoddlhjaaDoor

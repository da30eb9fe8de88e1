/- may of whole types; Check. -/
import Derived.Test.YtlfongfoddlhjaaDoorTyW6
namespace Go.Proofs.YtlfongfoddlhjaaDoor
open Go Go.RowKit Go.Lod
set_option maxRecDepth 100000

theorem may_all : ∀ (n : Nat) (T : Ty), T.size ≤ n → MayAt T
  | _, .nil, _ => fun w S v _ hm => by simp [MayOk] at hm
  | 0, .mk .., h => by simp [Ty.size] at h
  | n + 1, .mk k nm ns gs r, h => by
    have hsz : ∀ {t : Ty} {gs : List Ty}, t ∈ gs → t.size ≤ Ty.sizeL gs := by
      intro t gs
      induction gs with
      | nil => intro h; simp at h
      | cons g gs ih =>
        intro h
        simp only [Ty.sizeL]
        rcases List.mem_cons.1 h with rfl | h
        · omega
        · have := ih h; omega
    simp only [Ty.size] at h
    exact may_step k nm ns gs r (fun t ht => may_all n t (by have := hsz ht; omega)) (may_all n r (by omega))

theorem may_calls {T : Ty} {w : World} {S : Nat → Prop} {v : Value} (hT : TyAt w S T v) (hm : MayOk T) (hf : T.Fits) : Calls Tryd.prog 21 #[v] w fun e w' => e = .returned (.bool true) ∧ Below w.heap.size w w' :=
  may_all T.size T (Nat.le_refl _) w S v hT hm hf

theorem check_ok {T : Ty} {w : World} {S : Nat → Prop} {v : Value} (hT : TyAt w S T v) (hS : ∀ k, S k → k < w.heap.size) (hm : MayOk T) (hf : T.Fits) (hn : T.size ≤ 60) :
    Calls Tryd.prog 16 #[v] w fun e w' => e = .returned (.int .i64 0) ∧ Below w.heap.size w w' := by
  have hsz := size_calls T v w S hT hS hf hn
  have hmay := fun W (hB : Below w.heap.size w W) => may_calls (hT.kept (w' := W) (S' := S) fun i o hi ho => ⟨by rw [hB.block i (lt_of_block ho)]; exact ho, hi⟩) hm hf
  obtain ⟨p, rfl⟩ : ∃ b, v = .pointer (some ⟨b, 0, none⟩) := by
    cases T with
    | nil => simp [MayOk] at hm
    | mk => obtain ⟨b, _, _, _, e, _⟩ := hT; exact ⟨b, e⟩
  have h60 : decide ((60 : Int) < (T.size : Int)) = false := decide_eq_false (by omega)
  clear hT hS hm hf
  go_enter Tryd.func16, Tryd.ntmps16
  go_wp2_with (first | (go_at_call 20; refine hsz.mono ?_; clear hsz; rintro e w2 ⟨rfl, hB2⟩) | (go_at_call 21; refine (hmay _ hB2).mono ?_; clear hmay; rintro e w3 ⟨rfl, hB3⟩))
  go_ret
  exact ⟨rfl, hB2.trans (hB3.mono hB2.size)⟩
end Go.Proofs.YtlfongfoddlhjaaDoor

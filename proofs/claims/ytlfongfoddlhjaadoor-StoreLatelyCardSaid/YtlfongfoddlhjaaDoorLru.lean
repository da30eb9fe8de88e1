/- What is used least lately goes first: the plain law of the store's model. -/
import Derived.Test.YtlfongfoddlhjaaDoorUse
namespace Go.Proofs.YtlfongfoddlhjaaDoor
open Go Go.RowKit Go.Lod
set_option maxRecDepth 100000

def entK (g us : Nat → Int) (k : Nat) : Ent := ⟨g k, 6, tName k, [], [], 0, 0, 0, us k⟩
def lastN (n : Nat) (l : List Nat) : List Nat := l.drop (l.length - n)

theorem lastN_length (n : Nat) (l : List Nat) : (lastN n l).length = min n l.length := by unfold lastN; rw [List.length_drop]; omega
theorem lastN_all {n : Nat} {l : List Nat} (h : l.length ≤ n) : lastN n l = l := by unfold lastN; rw [show l.length - n = 0 by omega]; rfl
theorem lastN_append {n : Nat} {a b : List Nat} (h : b.length = n) : lastN n (a ++ b) = b := by
  unfold lastN; rw [List.length_append, h, show a.length + n - n = a.length by omega, List.drop_left]

theorem names_inj : ((List.range 40).all fun k => (List.range 40).all fun j => decide (tName k = tName j → k = j)) = true := by kernel_rfl
theorem tName_inj {k j : Nat} (hk : k < 40) (hj : j < 40) (h : tName k = tName j) : k = j := by
  have := List.all_eq_true.1 (List.all_eq_true.1 names_inj k (List.mem_range.2 hk)) j (List.mem_range.2 hj)
  simpa [h] using this

theorem keepK_mem {k x : Nat} {l : List Nat} : x ∈ keepK k l ↔ x ∈ l ∧ x ≠ k := by unfold keepK; simp
theorem keepK_same {k : Nat} {l : List Nat} (h : k ∉ l) : keepK k l = l := by
  unfold keepK; rw [List.filter_eq_self]; intro x hx; simp; rintro rfl; exact h hx
theorem keepK_perm {k : Nat} : ∀ {l : List Nat}, l.Nodup → k ∈ l → (keepK k l ++ [k]).Perm l
  | [], _, h => by simp at h
  | x :: l, hn, h => by
    rw [List.nodup_cons] at hn
    by_cases hx : x = k
    · subst hx
      have : keepK x (x :: l) = l := by
        have h1 : keepK x (x :: l) = keepK x l := by simp [keepK]
        rw [h1, keepK_same hn.1]
      rw [this]
      exact List.perm_append_comm
    · have hkl : k ∈ l := by
        rcases List.mem_cons.1 h with h | h
        · exact absurd h.symm hx
        · exact h
      have : keepK k (x :: l) = x :: keepK k l := by simp [keepK, hx]
      rw [this]
      exact (keepK_perm hn.2 hkl).cons x

/-- the last ones behind a use -/
theorem lastN_use {most k : Nat} {order : List Nat} :
    (k ∈ lastN most order → order.Nodup → lastN most (keepK k order ++ [k]) = keepK k (lastN most order) ++ [k]) ∧
    (k ∉ lastN most order → (lastN most order).length < most → lastN most (keepK k order ++ [k]) = lastN most order ++ [k]) ∧
    (k ∉ lastN most order → (lastN most order).length = most → lastN most (keepK k order ++ [k]) = (lastN most order ++ [k]).drop 1) := by
  have hsplit : order = order.take (order.length - most) ++ lastN most order := (List.take_append_drop _ _).symm
  have hlen := lastN_length most order
  generalize order.take (order.length - most) = pre at hsplit
  generalize hL : lastN most order = L at *
  have hkk : keepK k order = keepK k pre ++ keepK k L := by rw [hsplit]; simp [keepK]
  refine ⟨?_, ?_, ?_⟩
  · intro hk hn
    have hpre : k ∉ pre := by
      rw [hsplit, List.nodup_append] at hn
      exact fun h => hn.2.2 k h k hk rfl
    have hnL : L.Nodup := by rw [hsplit, List.nodup_append] at hn; exact hn.2.1
    have hl2 : (keepK k L ++ [k]).length = L.length := (keepK_perm hnL hk).length_eq
    rw [hkk, keepK_same hpre, List.append_assoc]
    by_cases hm : L.length = most
    · exact lastN_append (by rw [hl2, hm])
    · have hp0 : pre = [] := by
        have := congrArg List.length hsplit
        rw [List.length_append] at this
        exact List.eq_nil_of_length_eq_zero (by omega)
      rw [hp0, List.nil_append]
      exact lastN_all (by omega)
  · intro hk hm
    have hp0 : pre = [] := by
      have := congrArg List.length hsplit
      rw [List.length_append] at this
      exact List.eq_nil_of_length_eq_zero (by omega)
    rw [hkk, hp0, keepK_same hk]
    exact lastN_all (by simp [keepK]; omega)
  · intro hk hm
    rw [hkk, keepK_same hk, List.append_assoc]
    unfold lastN
    rw [List.length_append, List.length_append, hm, show (keepK k pre).length + (most + [k].length) - most = (keepK k pre).length + 1 by simp; omega, List.drop_append]
    rw [List.drop_eq_nil_of_le (by omega), List.nil_append]
    congr 1
    omega
end Go.Proofs.YtlfongfoddlhjaaDoor

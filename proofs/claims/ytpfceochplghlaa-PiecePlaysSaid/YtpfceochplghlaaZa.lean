/- A word that is typed sign by sign: plain laws. -/
import Derived.Test.YtpfceochplghlaaYc
namespace Go.Proofs.Ytpfceochplghlaa
open Go.RowKit

def frP (a : Nat) : List Pc := if a = 0 then [] else [⟨false, 0, a⟩]
def bkP (a n : Nat) : List Pc := if a = n then [] else [⟨false, a, n - a⟩]
theorem frP_len (a : Nat) : plen (frP a) = a := by unfold frP; split <;> simp_all [plen]
theorem bkP_len (a n : Nat) : plen (bkP a n) = n - a := by unfold bkP; split <;> simp_all [plen]
theorem frP_pos (a : Nat) : ∀ p ∈ frP a, 0 < p.ln := by
  intro p hp
  unfold frP at hp
  split at hp
  · simp at hp
  · simp at hp; subst hp; simp only; omega
/-- The table with the word u typed at a. -/
def typT (s : List Int) (a : Nat) (u : List Int) : Tb := if u.length = 0 then newTb s else ⟨s, u, frP a ++ [⟨true, 0, u.length⟩] ++ bkP a s.length⟩
theorem new_cut (s : List Int) (a : Nat) (ha : a ≤ s.length) : cutP (newTb s).ps a = (frP a, bkP a s.length) := by
  unfold newTb frP bkP
  simp only
  by_cases h0 : s.length = 0
  · have : a = 0 := by omega
    subst this
    simp [h0, cutP]
  · rw [if_neg h0]
    by_cases h1 : a = 0
    · subst h1
      have h2 : ¬ 0 = s.length := by omega
      simp [cutP, h2]
    · by_cases h2 : a = s.length
      · subst h2
        simp [cutP, h1]
      · have h3 : a < s.length := by omega
        simp [cutP, h1, h2, h3]
theorem extP_fr (a m : Nat) : extP (frP a) 0 m = frP a ++ [⟨true, 0, m⟩] := by
  unfold extP frP
  by_cases h : a = 0 <;> simp [h]
theorem extP_last (P : List Pc) (k m : Nat) : extP (P ++ [⟨true, 0, k⟩]) k m = P ++ [⟨true, 0, k + m⟩] := by
  unfold extP
  simp [List.getD]
theorem cut_self (P R : List Pc) (h : ∀ p ∈ P, 0 < p.ln) {k : Nat} (hk : plen P = k) : cutP (P ++ R) k = (P, R) := by
  have h1 := cutP_front (R := R) h 0
  rw [cutP_zero, Nat.add_zero, hk, List.append_nil] at h1
  exact h1
theorem typ_pos (a k : Nat) (hk : 0 < k) : ∀ p ∈ frP a ++ [⟨true, 0, k⟩], 0 < p.ln := by
  intro p hp
  rcases List.mem_append.1 hp with hp | hp
  · exact frP_pos a p hp
  · simp at hp; subst hp; exact hk
theorem typ_len (s : List Int) (a : Nat) (u : List Int) (ha : a ≤ s.length) : plen (typT s a u).ps = s.length + u.length := by
  unfold typT
  split
  · rw [newTb_len]; omega
  · simp only [plen_append, frP_len, bkP_len a _, plen_cons, plen_nil]; omega
theorem typ_add (s : List Int) (a : Nat) (u : List Int) : (typT s a u).add = u := by
  unfold typT
  split
  · rename_i h; rw [List.eq_nil_of_length_eq_zero h]; rfl
  · rfl
theorem typ_zero (s : List Int) (a : Nat) : typT s a [] = newTb s := rfl
/-- One sign more. -/
theorem typ_step (s : List Int) (a : Nat) (u : List Int) (x : Int) (ha : a ≤ s.length) : splT (typT s a u) (a + u.length) 0 [x] = typT s a (u ++ [x]) := by
  have hne : ¬ (u ++ [x]).length = 0 := by simp
  have e2 : typT s a (u ++ [x]) = ⟨s, u ++ [x], frP a ++ [⟨true, 0, (u ++ [x]).length⟩] ++ bkP a s.length⟩ := by unfold typT; rw [if_neg hne]
  rw [e2]
  unfold splT
  rw [typ_add]
  have hone : ¬ ([x] : List Int).length = 0 := by simp
  rw [if_neg hone]
  by_cases h : u.length = 0
  · have hu : u = [] := List.eq_nil_of_length_eq_zero h
    subst hu
    rw [typ_zero]
    simp only [List.length_nil, Nat.add_zero]
    rw [new_cut s a ha]
    simp only
    rw [cutP_zero, extP_fr]
    rfl
  · have e1 : typT s a u = ⟨s, u, frP a ++ [⟨true, 0, u.length⟩] ++ bkP a s.length⟩ := by unfold typT; rw [if_neg h]
    rw [e1]
    simp only
    rw [cut_self _ _ (typ_pos a u.length (by omega)) (by rw [plen_append, frP_len, plen_cons, plen_nil]; rfl)]
    simp only
    rw [cutP_zero, extP_last]
    simp
/-- All of it taken out again. -/
theorem typ_back (s : List Int) (a : Nat) (u : List Int) (h : ¬ u.length = 0) : splT (typT s a u) a u.length [] = ⟨s, u, frP a ++ bkP a s.length⟩ := by
  have e1 : typT s a u = ⟨s, u, frP a ++ [⟨true, 0, u.length⟩] ++ bkP a s.length⟩ := by unfold typT; rw [if_neg h]
  unfold splT
  rw [e1]
  simp only
  rw [List.append_assoc, cut_self _ _ (frP_pos a) (frP_len a)]
  simp only
  rw [cut_self [⟨true, 0, u.length⟩] _ (by intro p hp; simp at hp; subst hp; simp only; omega) (by simp [plen])]
  simp
theorem back_text (s : List Int) (a : Nat) (u : List Int) (ha : a ≤ s.length) : (⟨s, u, frP a ++ bkP a s.length⟩ : Tb).text = s := by
  have h1 : (frP a).flatMap (⟨s, u, frP a ++ bkP a s.length⟩ : Tb).pc = s.take a := by
    unfold frP
    split
    · rename_i h; subst h; simp
    · simp [Tb.pc, Tb.src]
  have h2 : (bkP a s.length).flatMap (⟨s, u, frP a ++ bkP a s.length⟩ : Tb).pc = s.drop a := by
    unfold bkP
    split
    · rename_i h; rw [h]; simp
    · simp only [List.flatMap_cons, List.flatMap_nil, List.append_nil, Tb.pc, Tb.src, Bool.false_eq_true, if_false]
      rw [List.take_of_length_le (by simp)]
  unfold Tb.text
  show (frP a ++ bkP a s.length).flatMap _ = _
  rw [List.flatMap_append, h1, h2, List.take_append_drop]
theorem new_text (s : List Int) : (newTb s).text = s := by
  unfold newTb Tb.text
  simp only
  split
  · rename_i h; rw [List.eq_nil_of_length_eq_zero h]; rfl
  · simp [Tb.pc, Tb.src]
theorem frbk_le (a n : Nat) : (frP a ++ bkP a n).length ≤ 2 := by
  unfold frP bkP
  split <;> split <;> simp
/-- How many added pieces, and how long the last one is. -/
def cm : List Pc → Nat × Nat → Nat × Nat
  | [], q => q
  | p :: L, q => cm L (if p.add then (q.1 + 1, p.ln) else q)
theorem cm_append (A B : List Pc) : ∀ q, cm (A ++ B) q = cm B (cm A q) := by
  induction A with
  | nil => intro q; rfl
  | cons p A ih => intro q; exact ih _
theorem cm_typ (s : List Int) (a : Nat) (u : List Int) : cm (typT s a u).ps (0, 0) = if u.length = 0 then (0, 0) else (1, u.length) := by
  unfold typT
  split
  · unfold newTb
    simp only
    split <;> rfl
  · simp only [cm_append]
    have h1 : cm (frP a) (0, 0) = (0, 0) := by unfold frP; split <;> rfl
    rw [h1]
    unfold bkP
    split <;> rfl
end Go.Proofs.Ytpfceochplghlaa

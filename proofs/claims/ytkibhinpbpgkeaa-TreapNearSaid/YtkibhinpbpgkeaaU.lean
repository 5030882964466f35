/- How deep marks lie, off the list alone: plain laws. -/
import Derived.Test.YtkibhinpbpgkeaaS
namespace Go.Proofs.Ytkibhinpbpgkeaa

/-- The depth of the k-th mark. -/
def DD (K : List Mk) (k : Nat) : Nat := dep (K.take k) (K.getD k ⟨0, 0, 0, 0⟩) (K.drop (k + 1))
theorem split_at (K : List Mk) (k : Nat) (hk : k < K.length) : K = K.take k ++ K.getD k ⟨0, 0, 0, 0⟩ :: K.drop (k + 1) := by
  have e : K.getD k ⟨0, 0, 0, 0⟩ = K[k] := by simp [List.getD, hk]
  rw [e, ← List.drop_eq_getElem_cons hk, List.take_append_drop]
theorem DD_depN (K : List Mk) (k : Nat) (hk : k < K.length) (hid : Ids K) (m : Mk) (hm : K.getD k ⟨0, 0, 0, 0⟩ = m) : depN [] K m.id = DD K k := by
  have hs := split_at K k hk
  have h := ids_split (hs ▸ hid)
  have e := depN_mem (K.take k) (K.drop (k + 1)) (K.getD k ⟨0, 0, 0, 0⟩) [] h.1
  rw [← hs, hm] at e
  rw [e, List.nil_append]
  unfold DD
  rw [hm]
theorem cnt_le (L : List Mk) (m : Mk) : cnt L m ≤ L.length := by
  induction L generalizing m with
  | nil => exact Nat.le_refl _
  | cons x L ih =>
    simp only [cnt, List.length_cons]
    split
    · have := ih x; omega
    · have := ih m; omega
theorem cnt_zero {L : List Mk} {m : Mk} (h : cnt L m = 0) : ∀ x ∈ L, abv x m = false := by
  induction L with
  | nil => intro x hx; cases hx
  | cons y L ih =>
    simp only [cnt] at h
    split at h
    · omega
    · rename_i hy
      intro x hx
      rcases List.mem_cons.1 hx with rfl | hx
      · simpa using hy
      · exact ih h x hx
theorem cnt_zero' {L : List Mk} {m : Mk} (h : ∀ x ∈ L, abv x m = false) : cnt L m = 0 := by
  induction L with
  | nil => rfl
  | cons y L ih =>
    simp only [cnt, h y (by simp)]
    exact ih fun x hx => h x (by simp [hx])
/-- What is counted over a lower mark is no less. -/
theorem cnt_mono (L : List Mk) {a b : Mk} (h : abv a b = true) : cnt L a ≤ cnt L b := by
  induction L generalizing a b with
  | nil => exact Nat.le_refl _
  | cons x L ih =>
    simp only [cnt]
    by_cases hxa : abv x a = true
    · rw [if_pos hxa, if_pos (abv_trans hxa h)]
      exact Nat.le_refl _
    · rw [if_neg hxa]
      by_cases hxb : abv x b = true
      · rw [if_pos hxb]
        -- x is not above a, and above b
        by_cases hax : abv a x = true
        · have := ih hax; omega
        · have he : cnt L a = cnt L x := by
            have h1 : abv a x = false := by simpa using hax
            have h2 : abv x a = false := by simpa using hxa
            simp only [abv, decide_eq_false_iff_not] at h1 h2
            have hp : a.pr = x.pr := by omega
            have hi : a.id = x.id := by omega
            clear ih h hxa hxb hax h1 h2
            revert hp hi
            generalize x = x
            induction L with
            | nil => intros; rfl
            | cons y L ih2 =>
              intro hp hi
              have e : abv y a = abv y x := by simp [abv, hp, hi]
              simp only [cnt, e]
              split
              · rfl
              · exact ih2 hp hi
          omega
      · rw [if_neg hxb]
        exact ih h
theorem DD_bounds (K : List Mk) (k : Nat) (hk : k < K.length) : 1 ≤ DD K k ∧ DD K k ≤ K.length := by
  unfold DD dep
  have h1 := cnt_le (K.take k).reverse (K.getD k ⟨0, 0, 0, 0⟩)
  have h2 := cnt_le (K.drop (k + 1)) (K.getD k ⟨0, 0, 0, 0⟩)
  simp only [List.length_reverse, List.length_take, List.length_drop] at h1 h2
  omega
theorem getD_mem {K : List Mk} {k : Nat} (hk : k < K.length) : K.getD k ⟨0, 0, 0, 0⟩ ∈ K := by
  have e : K.getD k ⟨0, 0, 0, 0⟩ = K[k] := by simp [List.getD, hk]
  rw [e]
  exact List.getElem_mem hk
/-- The top: no mark is above it. -/
theorem DD_one (K : List Mk) (k : Nat) (hk : k < K.length) : DD K k = 1 ↔ ∀ x ∈ K, abv x (K.getD k ⟨0, 0, 0, 0⟩) = false := by
  have hs := split_at K k hk
  unfold DD dep
  constructor
  · intro h x hx
    have h1 := cnt_zero (show cnt (K.take k).reverse (K.getD k ⟨0, 0, 0, 0⟩) = 0 by omega)
    have h2 := cnt_zero (show cnt (K.drop (k + 1)) (K.getD k ⟨0, 0, 0, 0⟩) = 0 by omega)
    rw [hs] at hx
    simp only [List.mem_append, List.mem_cons] at hx
    rcases hx with hx | rfl | hx
    · exact h1 x (by simpa using hx)
    · exact abv_irrefl _
    · exact h2 x hx
  · intro h
    have h1 := cnt_zero' (L := (K.take k).reverse) (m := K.getD k ⟨0, 0, 0, 0⟩) fun x hx => h x (List.mem_of_mem_take (by simpa using hx))
    have h2 := cnt_zero' (L := K.drop (k + 1)) (m := K.getD k ⟨0, 0, 0, 0⟩) fun x hx => h x (List.mem_of_mem_drop hx)
    omega
theorem ids_ne {K : List Mk} (hid : Ids K) {i j : Nat} (hij : i < j) (hj : j < K.length) : (K.getD i ⟨0, 0, 0, 0⟩).id ≠ (K.getD j ⟨0, 0, 0, 0⟩).id := by
  have e1 : K.getD i ⟨0, 0, 0, 0⟩ = K[i] := by simp [List.getD, show i < K.length by omega]
  have e2 : K.getD j ⟨0, 0, 0, 0⟩ = K[j] := by simp [List.getD, hj]
  rw [e1, e2]
  exact List.pairwise_iff_getElem.1 hid i j (by omega) hj hij
theorem DD_one_unique {K : List Mk} (hid : Ids K) {i j : Nat} (hi : i < K.length) (hj : j < K.length) (h1 : DD K i = 1) (h2 : DD K j = 1) : i = j := by
  rcases Nat.lt_trichotomy i j with h | h | h
  · exfalso
    have a1 := (DD_one K i hi).1 h1 _ (getD_mem hj)
    have a2 := (DD_one K j hj).1 h2 _ (getD_mem hi)
    have := abv_total (ids_ne hid h hj) a2
    rw [a1] at this
    cases this
  · exact h
  · exfalso
    have a1 := (DD_one K i hi).1 h1 _ (getD_mem hj)
    have a2 := (DD_one K j hj).1 h2 _ (getD_mem hi)
    have := abv_total (ids_ne hid h hi) a1
    rw [a2] at this
    cases this
theorem top_exists (K : List Mk) (hid : Ids K) (hK : K ≠ []) : ∃ m ∈ K, ∀ x ∈ K, abv x m = false := by
  induction K with
  | nil => exact absurd rfl hK
  | cons a K ih =>
    by_cases h0 : K = []
    · subst h0
      exact ⟨a, by simp, fun x hx => by simp at hx; subst hx; exact abv_irrefl _⟩
    · obtain ⟨hne, hid'⟩ := List.pairwise_cons.1 hid
      obtain ⟨m, hm, hx⟩ := ih hid' h0
      by_cases ham : abv a m = true
      · refine ⟨a, by simp, fun x hxm => ?_⟩
        rcases List.mem_cons.1 hxm with rfl | hxm
        · exact abv_irrefl _
        · have h1 := hx x hxm
          cases hxa : abv x a with
          | false => rfl
          | true => rw [abv_trans hxa ham] at h1; cases h1
      · refine ⟨m, by simp [hm], fun x hxm => ?_⟩
        rcases List.mem_cons.1 hxm with rfl | hxm
        · simpa using ham
        · exact hx x hxm
theorem DD_one_exists (K : List Mk) (hid : Ids K) (hK : 0 < K.length) : ∃ k, k < K.length ∧ DD K k = 1 := by
  obtain ⟨m, hm, hx⟩ := top_exists K hid (by intro e; subst e; simp at hK)
  obtain ⟨k, hk, rfl⟩ := List.getElem_of_mem hm
  refine ⟨k, hk, (DD_one K k hk).2 ?_⟩
  have e : K.getD k ⟨0, 0, 0, 0⟩ = K[k] := by simp [List.getD, hk]
  rw [e]
  exact hx
/-- Two marks side by side. -/
theorem DD_next {K : List Mk} (hid : Ids K) {k : Nat} (hk : k + 1 < K.length) {w m : Mk} (hw : K.getD k ⟨0, 0, 0, 0⟩ = w) (hm : K.getD (k + 1) ⟨0, 0, 0, 0⟩ = m) :
    (DD K (k + 1) > DD K k ∧ m.pr ≤ w.pr) ∨ (DD K (k + 1) < DD K k ∧ w.pr ≤ m.pr) := by
  have hne := ids_ne hid (show k < k + 1 by omega) hk
  rw [hw, hm] at hne
  have e1 : K.take (k + 1) = K.take k ++ [w] := by
    rw [List.take_succ_eq_append_getElem (by omega), ← hw]
    simp [List.getD, show k < K.length by omega]
  have e2 : K.drop (k + 1) = m :: K.drop (k + 1 + 1) := by
    rw [List.drop_eq_getElem_cons hk, ← hm]
    simp [List.getD, hk]
  unfold DD dep
  rw [hw, hm, e1, e2, List.reverse_append]
  simp only [List.reverse_cons, List.reverse_nil, List.nil_append, List.singleton_append, cnt]
  by_cases h : abv w m = true
  · left
    rw [if_pos h, if_neg (by rw [abv_asymm h]; simp)]
    have := cnt_mono (K.drop (k + 1 + 1)) h
    have hp := (abv_iff w m).1 h
    omega
  · right
    have h' := abv_total hne (by simpa using h)
    rw [if_neg h, if_pos h']
    have := cnt_mono (K.take k).reverse h'
    have hp := (abv_iff m w).1 h'
    omega
end Go.Proofs.Ytkibhinpbpgkeaa

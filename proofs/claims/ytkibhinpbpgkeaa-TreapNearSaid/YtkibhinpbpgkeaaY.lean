/- TreapOne: the plain side. -/
import Derived.Test.YtkibhinpbpgkeaaX
namespace Go.Proofs.Ytkibhinpbpgkeaa
open Go.RowKit Go.ChangeMaps

theorem new_two (W : World) (B s b : Nat) (h : SetK W B s b []) : Calls Try.prog 10 #[] W fun e w' => e = .returned (.pointer (some ⟨W.heap.size + 1, 0, none⟩)) ∧ Two w' B s b [] (W.heap.size + 1) W.heap.size [] ∧ Below B W w' := by
  have hz := h.size
  obtain ⟨t, ht, hl, hB, _⟩ := h
  refine (new_any W).mono ?_
  rintro e w' ⟨rfl, hn, hb⟩
  refine ⟨rfl, ⟨t, .nil, ht.below hb ht.lt, hl, hn, rfl, hB, ?_, ?_, by simp, by simp⟩, hb.mono hz.2.2⟩
  · intro g hg
    simp [TR.blocks] at hg
    omega
  · intro g hg hg'
    have := ht.lt g hg
    simp [TR.blocks] at hg'
    omega
/-- The marks that are taken out again; the marks in the other order. -/
def oth (M : List Mk) (c i : Nat) : Mk := ⟨100 + i, (M.getD i ⟨0, 0, 0, 0⟩).to, 60, (M.getD ((i + c) % M.length) ⟨0, 0, 0, 0⟩).pr⟩
def othL (M : List Mk) (c : Nat) : List Mk := (List.range M.length).map (oth M c)
def rotL (M : List Mk) (c : Nat) : List Mk := M.reverse.drop c ++ M.reverse.take c
theorem rot_perm (M : List Mk) (c : Nat) : (rotL M c).Perm M := by
  unfold rotL
  refine List.perm_append_comm.trans ?_
  rw [List.take_append_drop]
  exact List.reverse_perm M
theorem rot_len (M : List Mk) (c : Nat) : (rotL M c).length = M.length := (rot_perm M c).length_eq
theorem rot_at (M : List Mk) (c i : Nat) (hc : c < M.length) (hi : i < M.length) : (rotL M c).getD i ⟨0, 0, 0, 0⟩ = M.getD (M.length - 1 - (i + c) % M.length) ⟨0, 0, 0, 0⟩ := by
  unfold rotL
  simp only [List.getD]
  congr 1
  by_cases h : i < M.length - c
  · rw [List.getElem?_append_left (by simp; omega), List.getElem?_drop, List.getElem?_reverse (by omega), Nat.mod_eq_of_lt (by omega)]
    congr 1
    omega
  · have hm : (i + c) % M.length = i + c - M.length := by rw [Nat.mod_eq_sub_mod (by omega), Nat.mod_eq_of_lt (by omega)]
    rw [List.getElem?_append_right (by simp; omega), hm, List.length_drop, List.length_reverse, List.getElem?_take, if_pos (by omega), List.getElem?_reverse (by omega)]
    congr 1
    omega
theorem marks_ids {M : List Mk} (h : MarksOk M) : Ids M := by
  rw [Ids, List.pairwise_iff_getElem]
  intro i j hi hj hij
  have a := (h.2 i hi).1
  have b := (h.2 j hj).1
  omega
theorem marks_mem {M : List Mk} (h : MarksOk M) {x : Mk} (hx : x ∈ M) : 0 ≤ x.id ∧ x.id < 30 ∧ 0 ≤ x.fr ∧ x.fr ≤ x.to ∧ x.to ≤ 46 := by
  obtain ⟨i, hi, rfl⟩ := List.getElem_of_mem hx
  have a := h.2 i hi
  have := h.1
  omega
theorem oth_mem {M : List Mk} {c k : Nat} {x : Mk} (hx : x ∈ (othL M c).take k) : 100 ≤ x.id ∧ x.id < 100 + k := by
  obtain ⟨i, hi, rfl⟩ := List.getElem_of_mem hx
  simp only [List.length_take] at hi
  simp only [othL, List.getElem_take, List.getElem_map, List.getElem_range, oth]
  omega
theorem oth_take (M : List Mk) (c k : Nat) (hk : k < M.length) : (othL M c).take (k + 1) = (othL M c).take k ++ [oth M c k] := by
  rw [List.take_succ_eq_append_getElem (by simp [othL]; exact hk)]
  simp [othL]
theorem no_has {K : List Mk} {i : Int} (h : ∀ x ∈ K, x.id ≠ i) : hasB K i = false := by simpa [hasB] using h
/-- The one that will be taken out again is added. -/
theorem add_oth {M K : List Mk} (h : MarksOk M) {c k : Nat} (hk : k < M.length) (hK : K.Perm ((othL M c).take k ++ (rotL M c).take k)) : addN K (oth M c k) = 0 ∧ (ins K (oth M c k)).Perm ((othL M c).take (k + 1) ++ (rotL M c).take k) := by
  have hm := marks_mem h (getD_mem hk)
  have hl : K.length ≤ 60 := by rw [hK.length_eq, List.length_append, List.length_take, List.length_take]; have := h.1; omega
  have h1 : mayB (oth M c k).fr (oth M c k).to = true := by
    show decide (0 ≤ (M.getD k ⟨0, 0, 0, 0⟩).to ∧ (M.getD k ⟨0, 0, 0, 0⟩).to ≤ 60 ∧ (60 : Int) ≤ 1099511627776) = true
    rw [decide_eq_true_eq]
    omega
  have h2 : hasB K (oth M c k).id = false := by
    refine no_has fun x hx => ?_
    show x.id ≠ 100 + (k : Int)
    rcases List.mem_append.1 (hK.mem_iff.1 hx) with e | e
    · have := oth_mem e; omega
    · have := marks_mem h ((rot_perm M c).mem_iff.1 (List.mem_of_mem_take e)); omega
  refine ⟨by simp [addN, h1, h2]; omega, ?_⟩
  rw [oth_take M c k hk]
  refine (ins_perm K _).trans ((hK.cons _).trans ?_)
  rw [List.append_assoc, List.singleton_append]
  exact List.perm_middle.symm
/-- The one of the other order is added. -/
theorem add_rot {M K : List Mk} (h : MarksOk M) {c k : Nat} (hk : k < M.length) (hK : K.Perm ((othL M c).take (k + 1) ++ (rotL M c).take k)) {m : Mk} (hm : (rotL M c).getD k ⟨0, 0, 0, 0⟩ = m) : addN K m = 0 ∧ (ins K m).Perm ((othL M c).take (k + 1) ++ (rotL M c).take (k + 1)) := by
  have hkr : k < (rotL M c).length := by rw [rot_len]; exact hk
  have hmem : (rotL M c).getD k ⟨0, 0, 0, 0⟩ ∈ rotL M c := getD_mem hkr
  rw [hm] at hmem
  have hmm := marks_mem h ((rot_perm M c).mem_iff.1 hmem)
  have hl : K.length ≤ 61 := by rw [hK.length_eq, List.length_append, List.length_take, List.length_take]; have := h.1; omega
  have hids : Ids (rotL M c) := ids_perm (rot_perm M c) (marks_ids h)
  have h1 : mayB m.fr m.to = true := by
    simp only [mayB, decide_eq_true_eq]
    omega
  have hs := split_at (rotL M c) k hkr
  rw [hm] at hs
  have hsp := ids_split (hs ▸ hids)
  have h2 : hasB K m.id = false := by
    refine no_has fun x hx => ?_
    rcases List.mem_append.1 (hK.mem_iff.1 hx) with e | e
    · have := oth_mem e; omega
    · exact hsp.1 x e
  have h3 : ¬ 600 ≤ K.length := by omega
  refine ⟨by simp [addN, h1, h2, h3], ?_⟩
  rw [take_getD (rotL M c) k hkr, hm]
  refine (ins_perm K _).trans ((hK.cons _).trans ?_)
  rw [← List.append_assoc]
  exact (List.perm_append_comm (l₁ := [_])).trans (List.Perm.refl _)
/-- One is taken out again. -/
theorem rem_oth {M K : List Mk} (h : MarksOk M) {c k : Nat} (hk : k < M.length) (hK : K.Perm ((othL M c).drop k ++ rotL M c)) : oth M c k ∈ K ∧ (del K (oth M c k).id).Perm ((othL M c).drop (k + 1) ++ rotL M c) := by
  have hko : k < (othL M c).length := by simp [othL]; exact hk
  have e : (othL M c).drop k = oth M c k :: (othL M c).drop (k + 1) := by
    rw [List.drop_eq_getElem_cons hko]
    simp [othL]
  rw [e] at hK
  refine ⟨hK.mem_iff.2 (by simp), ?_⟩
  refine (List.Perm.filter _ hK).trans ?_
  show (del (oth M c k :: (othL M c).drop (k + 1) ++ rotL M c) (oth M c k).id).Perm _
  rw [List.cons_append, del_cons_eq _ _ _ rfl, del_none]
  intro x hx
  show x.id ≠ 100 + (k : Int)
  rcases List.mem_append.1 hx with f | f
  · obtain ⟨i, hi, rfl⟩ := List.getElem_of_mem f
    simp only [List.length_drop] at hi
    simp only [othL, List.getElem_drop, List.getElem_map, List.getElem_range, oth]
    omega
  · have := marks_mem h ((rot_perm M c).mem_iff.1 f); omega
end Go.Proofs.Ytkibhinpbpgkeaa

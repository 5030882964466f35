/- Two sets side by side. -/
import Derived.Test.YtkibhinpbpgkeaaV
namespace Go.Proofs.Ytkibhinpbpgkeaa
open Go.RowKit Go.ChangeMaps

/-- Two sets, of no block in common, all of them at block B or behind. -/
def Two (W : World) (B s b : Nat) (K : List Mk) (s' b' : Nat) (K' : List Mk) : Prop :=
  ∃ t t', SetIn W s b t ∧ t.list = K ∧ SetIn W s' b' t' ∧ t'.list = K' ∧ (∀ g ∈ s :: b :: t.blocks, B ≤ g) ∧ (∀ g ∈ s' :: b' :: t'.blocks, B ≤ g) ∧ (∀ g ∈ s :: b :: t.blocks, g ∉ s' :: b' :: t'.blocks) ∧ K.length ≤ 600 ∧ K'.length ≤ 600
section
variable {W w : World} {B s b s' b' : Nat} {K K' : List Mk}
theorem Two.symm (h : Two W B s b K s' b' K') : Two W B s' b' K' s b K := by
  obtain ⟨t, t', h1, h2, h3, h4, h5, h6, h7, h8, h9⟩ := h
  exact ⟨t', t, h3, h4, h1, h2, h6, h5, fun g hg hg' => h7 g hg' hg, h9, h8⟩
theorem Two.fst (h : Two W B s b K s' b' K') : SetK W B s b K := by
  obtain ⟨t, t', h1, h2, _, _, h5, _, _, h8, _⟩ := h
  exact ⟨t, h1, h2, h5, h8⟩
theorem Two.below (h : Two W B s b K s' b' K') (hb : Below W.heap.size W w) : Two w B s b K s' b' K' := by
  obtain ⟨t, t', h1, h2, h3, r⟩ := h
  exact ⟨t, t', h1.below hb h1.lt, h2, h3.below hb h3.lt, r⟩
/-- A deed on the first leaves the second as it is. -/
theorem Two.deed {L : List Mk} {t t' : TR} (h1 : SetIn W s b t) (h3 : SetIn W s' b' t') (h4 : t'.list = K') (h5 : ∀ g ∈ s :: b :: t.blocks, B ≤ g) (h6 : ∀ g ∈ s' :: b' :: t'.blocks, B ≤ g) (h7 : ∀ g ∈ s :: b :: t.blocks, g ∉ s' :: b' :: t'.blocks)
    (h9 : K'.length ≤ 600) (hl : Left W s b t L w) (hL : L.length ≤ 600) : Two w B s b L s' b' K' ∧ Below B W w := by
  have hW : B ≤ W.heap.size := by have a1 := h5 s (by simp); have a2 := h1.lt s (by simp); omega
  obtain ⟨u, hu, hul, hub, hc⟩ := hl
  refine ⟨⟨u, t', hu, hul, h3.chg hc fun g hg hg' => h7 g hg' hg, h4, ?_, h6, ?_, hL, h9⟩, hc.below h5 hW⟩
  · intro g hg
    simp only [List.mem_cons] at hg
    rcases hg with rfl | rfl | hg
    · exact h5 _ (by simp)
    · exact h5 _ (by simp)
    · rcases hub g hg with h | h
      · exact h5 g (by simp [h])
      · omega
  · intro g hg hg'
    simp only [List.mem_cons] at hg
    rcases hg with rfl | rfl | hg
    · exact h7 _ (by simp) hg'
    · exact h7 _ (by simp) hg'
    · rcases hub g hg with h | h
      · exact h7 g (by simp [h]) hg'
      · have := h3.lt g hg'
        omega
theorem two_add (m : Mk) (h : Two W B s b K s' b' K') (hn : Hid (addN K m = 0)) : Calls Try.prog 12 #[.pointer (some ⟨s, 0, none⟩), .agg #[.int .i64 m.id, .int .i64 m.fr, .int .i64 m.to, .int .i64 m.pr]] W
    fun e w' => e = .returned (.int .i64 0) ∧ Two w' B s b (ins K m) s' b' K' ∧ Below B W w' := by
  obtain ⟨t, t', h1, rfl, h3, h4, h5, h6, h7, h8, h9⟩ := h
  refine (add_yes W s b t m h1 hn.out).mono ?_
  rintro e w' ⟨rfl, hl⟩
  have hd := Two.deed h1 h3 h4 h5 h6 h7 h9 hl (by rw [ins_len]; have := (addN_zero hn.out).2.2; omega)
  exact ⟨rfl, hd.1, hd.2⟩
theorem two_rem (m : Mk) (h : Two W B s b K s' b' K') (hm : Hid (m ∈ K)) : Calls Try.prog 13 #[.pointer (some ⟨s, 0, none⟩), .int .i64 m.id] W
    fun e w' => e = .returned (.int .i64 0) ∧ Two w' B s b (del K m.id) s' b' K' ∧ Below B W w' := by
  obtain ⟨t, t', h1, rfl, h3, h4, h5, h6, h7, h8, h9⟩ := h
  refine (rem_yes W s b t m h1 hm.out).mono ?_
  rintro e w' ⟨rfl, hl⟩
  have hd := Two.deed h1 h3 h4 h5 h6 h7 h9 hl (by have := del_len t.list m.id; omega)
  exact ⟨rfl, hd.1, hd.2⟩
end
/-- Two sorted lists of the same marks are one. -/
theorem sorted_one : ∀ {K L : List Mk}, (K.Pairwise fun a b => lt a b = true) → (L.Pairwise fun a b => lt a b = true) → K.Perm L → K = L
  | [], L, _, _, h => (List.Perm.nil_eq h)
  | a :: K, [], _, _, h => absurd h.length_eq (by simp)
  | a :: K, c :: L, h1, h2, h => by
    obtain ⟨a1, a2⟩ := List.pairwise_cons.1 h1
    obtain ⟨c1, c2⟩ := List.pairwise_cons.1 h2
    have hac : a = c := by
      rcases List.mem_cons.1 (h.mem_iff.1 (List.mem_cons_self (a := a) (l := K))) with e | e
      · exact e
      · rcases List.mem_cons.1 (h.mem_iff.2 (List.mem_cons_self (a := c) (l := L))) with f | f
        · exact f.symm
        · have x1 := lt_asymm (c1 a e)
          rw [a1 c f] at x1
          cases x1
    subst hac
    rw [sorted_one a2 c2 (List.Perm.cons_inv h)]
end Go.Proofs.Ytkibhinpbpgkeaa

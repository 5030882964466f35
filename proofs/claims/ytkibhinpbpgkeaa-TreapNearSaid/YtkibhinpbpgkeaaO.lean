/- What each deed answers, by the list of the set's marks. -/
import Derived.Test.YtkibhinpbpgkeaaN
namespace Go.Proofs.Ytkibhinpbpgkeaa
open Go.RowKit Go.ChangeMaps

/-- A set with the marks K, all of it at block B or behind. -/
def SetK (W : World) (B s b : Nat) (K : List Mk) : Prop := ∃ t, SetIn W s b t ∧ t.list = K ∧ (∀ g ∈ s :: b :: t.blocks, B ≤ g) ∧ K.length ≤ 600
section
variable {W W' : World} {B s b : Nat} {K : List Mk}
theorem SetK.below (h : SetK W B s b K) (hb : Below W.heap.size W W') : SetK W' B s b K := by
  obtain ⟨t, ht, r⟩ := h
  exact ⟨t, ht.below hb ht.lt, r⟩
theorem SetK.chg {F : List Nat} (h : SetK W B s b K) (hc : Chg F W W') (hF : ∀ k ∈ F, W.heap.size ≤ k) : SetK W' B s b K :=
  h.below (hc.below hF (Nat.le_refl _))
theorem SetK.alloc (h : SetK W B s b K) (o : Obj) : SetK (W.alloc o) B s b K := h.below ((Below.refl _ _).alloc (Nat.le_refl _) o)
theorem SetK.drew (h : SetK W B s b K) : SetK W.drew B s b K := h.below ((Below.refl _ _).drew)
theorem SetK.ids (h : SetK W B s b K) : Ids K := by
  obtain ⟨t, ht, rfl, _⟩ := h
  exact ht.ids
theorem SetK.srt (h : SetK W B s b K) : K.Pairwise fun a b => lt a b = true := by
  obtain ⟨t, ht, rfl, _⟩ := h
  exact ht.srt
theorem SetK.len (h : SetK W B s b K) : K.length ≤ 600 := by
  obtain ⟨t, ht, _, _, h⟩ := h
  exact h
theorem SetK.size (h : SetK W B s b K) : B ≤ s ∧ s < W.heap.size ∧ B ≤ W.heap.size := by
  obtain ⟨t, ht, _, h, _⟩ := h
  have h1 := h s (by simp)
  have h2 := ht.lt s (by simp)
  omega
theorem Left.setK {t : TR} {K' : List Mk} (h : Left W s b t K' W') (hB : ∀ g ∈ s :: b :: t.blocks, B ≤ g) (hW : B ≤ W.heap.size) (hK : K'.length ≤ 600) : SetK W' B s b K' ∧ Below B W W' := by
  obtain ⟨t', ht, hl, hb, hc⟩ := h
  refine ⟨⟨t', ht, hl, ?_, hK⟩, hc.below hB hW⟩
  intro g hg
  simp only [List.mem_cons] at hg
  rcases hg with rfl | rfl | hg
  · exact hB _ (by simp)
  · exact hB _ (by simp)
  · rcases hb g hg with h | h
    · exact hB g (by simp [h])
    · omega
end

theorem new_k (W : World) : Calls Try.prog 10 #[] W fun e w' => e = .returned (.pointer (some ⟨W.heap.size + 1, 0, none⟩)) ∧ SetK w' W.heap.size (W.heap.size + 1) W.heap.size [] ∧ Below W.heap.size W w' :=
  (new_any W).mono fun _ _ ⟨h1, h2, h3⟩ => ⟨h1, ⟨.nil, h2, rfl, by simp [TR.blocks], by simp⟩, h3⟩
theorem ins_len (K : List Mk) (m : Mk) : (ins K m).length = K.length + 1 := by rw [(ins_perm K m).length_eq]; rfl
theorem add_k (W : World) (B s b : Nat) (K : List Mk) (m : Mk) (v : Int) (hv : Hid (addN K m = v)) (h : SetK W B s b K) : Calls Try.prog 12 #[.pointer (some ⟨s, 0, none⟩), .agg #[.int .i64 m.id, .int .i64 m.fr, .int .i64 m.to, .int .i64 m.pr]] W
    fun e w' => e = .returned (.int .i64 v) ∧ SetK w' B s b (addL K m) ∧ Below B W w' := by
  have hz := h.size
  have h0 := h
  obtain ⟨t, ht, rfl, hB, hlen⟩ := h
  rw [← hv.out]
  by_cases hn : addN t.list m = 0
  · refine (add_yes W s b t m ht hn).mono ?_
    rintro e w' ⟨rfl, hl⟩
    have hL : addL t.list m = ins t.list m := by simp [addL, hn]
    rw [hn, hL]
    have hs := hl.setK hB hz.2.2 (by rw [ins_len]; have := (addN_zero hn).2.2; omega)
    exact ⟨rfl, hs.1, hs.2⟩
  · refine (add_no W s b t m ht hn).mono ?_
    rintro e w' ⟨rfl, hb⟩
    have hL : addL t.list m = t.list := by simp [addL, hn]
    rw [hL]
    exact ⟨rfl, h0.below hb, hb.mono hz.2.2⟩
/-- What Remove answers. -/
def remN (K : List Mk) (i : Int) : Int := if hasB K i = true then 0 else 4
theorem del_len (K : List Mk) (i : Int) : (del K i).length ≤ K.length := List.length_filter_le _ _
theorem rem_k (W : World) (B s b : Nat) (K : List Mk) (i : Int) (v : Int) (hv : Hid (remN K i = v)) (h : SetK W B s b K) : Calls Try.prog 13 #[.pointer (some ⟨s, 0, none⟩), .int .i64 i] W
    fun e w' => e = .returned (.int .i64 v) ∧ SetK w' B s b (del K i) ∧ Below B W w' := by
  have hz := h.size
  have h0 := h
  obtain ⟨t, ht, rfl, hB, hlen⟩ := h
  rw [← hv.out]
  by_cases hn : hasB t.list i = true
  · obtain ⟨m, hm, rfl⟩ := hasB_true hn
    refine (rem_yes W s b t m ht hm).mono ?_
    rintro e w' ⟨rfl, hl⟩
    have hs := hl.setK hB hz.2.2 (by have := del_len t.list m.id; omega)
    exact ⟨by simp [remN, hn], hs.1, hs.2⟩
  · have hn' : hasB t.list i = false := by simpa using hn
    refine (rem_no W s b t i ht hn').mono ?_
    rintro e w' ⟨rfl, hb⟩
    rw [del_none _ _ (hasB_false hn')]
    exact ⟨by simp [remN, hn'], h0.below hb, hb.mono hz.2.2⟩
/-- What Move answers, and what is there then. -/
def movN (K : List Mk) (i f o : Int) : Int := if hasB K i = true then if mayB f o = true then 0 else 2 else 4
def movL (K : List Mk) (i f o : Int) : List Mk := match K.find? (·.id == i) with
  | some m => if mayB f o = true then ins (del K i) ⟨i, f, o, m.pr⟩ else K
  | none => K
theorem find_of {K : List Mk} (hid : Ids K) {m : Mk} (hm : m ∈ K) : K.find? (·.id == m.id) = some m := by
  induction K with
  | nil => cases hm
  | cons x K ih =>
    obtain ⟨h1, h2⟩ := List.pairwise_cons.1 hid
    rcases List.mem_cons.1 hm with rfl | h
    · simp
    · have hne : (x.id == m.id) = false := by have := h1 m h; simpa using this
      rw [List.find?_cons, hne]
      exact ih h2 h
theorem find_miss {K : List Mk} {i : Int} (h : ∀ x ∈ K, x.id ≠ i) : K.find? (·.id == i) = none := by
  rw [List.find?_eq_none]
  intro x hx
  simpa using h x hx
theorem del_len_mem {K : List Mk} (hid : Ids K) {m : Mk} (hm : m ∈ K) : (del K m.id).length + 1 = K.length := by
  obtain ⟨A, C, rfl⟩ := List.append_of_mem hm
  have hs := ids_split hid
  rw [del_append, del_cons_eq _ _ _ rfl, del_none _ _ hs.1, del_none _ _ hs.2.1]
  simp
  omega
theorem mov_k (W : World) (B s b : Nat) (K : List Mk) (i f o : Int) (v : Int) (hv : Hid (movN K i f o = v)) (h : SetK W B s b K) : Calls Try.prog 41 #[.pointer (some ⟨s, 0, none⟩), .int .i64 i, .int .i64 f, .int .i64 o] W
    fun e w' => e = .returned (.int .i64 v) ∧ SetK w' B s b (movL K i f o) ∧ Below B W w' := by
  have hz := h.size
  have h0 := h
  obtain ⟨t, ht, rfl, hB, hlen⟩ := h
  rw [← hv.out]
  by_cases hn : hasB t.list i = true
  · by_cases hf : mayB f o = true
    · obtain ⟨m, hm, rfl⟩ := hasB_true hn
      refine (mov_yes W s b t m f o ht hm hf).mono ?_
      rintro e w' ⟨rfl, hl⟩
      have hL : movL t.list m.id f o = ins (del t.list m.id) ⟨m.id, f, o, m.pr⟩ := by simp only [movL, find_of ht.ids hm, hf, if_true]
      have hs := hl.setK hB hz.2.2 (by rw [ins_len]; have := del_len_mem ht.ids hm; omega)
      rw [hL]
      exact ⟨by simp [movN, hn, hf], hs.1, hs.2⟩
    · have hf' : mayB f o = false := by simpa using hf
      refine (mov_bad W s b t i f o ht hn hf').mono ?_
      rintro e w' ⟨rfl, hb⟩
      have hL : movL t.list i f o = t.list := by unfold movL; split <;> simp [hf']
      rw [hL]
      exact ⟨by simp [movN, hn, hf'], h0.below hb, hb.mono hz.2.2⟩
  · have hn' : hasB t.list i = false := by simpa using hn
    refine (mov_none W s b t i f o ht hn').mono ?_
    rintro e w' ⟨rfl, hb⟩
    have hL : movL t.list i f o = t.list := by unfold movL; rw [find_miss (hasB_false hn')]
    rw [hL]
    exact ⟨by simp [movN, hn'], h0.below hb, hb.mono hz.2.2⟩
theorem len_k (W : World) (B s b : Nat) (K : List Mk) (v : Int) (hv : Hid ((K.length : Int) = v)) (h : SetK W B s b K) : Calls Try.prog 19 #[.pointer (some ⟨s, 0, none⟩)] W fun e w' => e = .returned (.int .i64 v) ∧ W = w' := by
  obtain ⟨t, ht, rfl, _⟩ := h
  rw [← hv.out]
  exact len_any W s b t ht
theorem get_k (W : World) (B s b : Nat) (K : List Mk) (m : Mk) (h : SetK W B s b K) (hm : m ∈ K) : Calls Try.prog 29 #[.pointer (some ⟨s, 0, none⟩), .int .i64 m.id] W fun e w' => e = .returned (.tuple #[.agg #[.int .i64 m.id, .int .i64 m.fr, .int .i64 m.to, .int .i64 m.pr], .bool true]) ∧ Below W.heap.size W w' := by
  obtain ⟨t, ht, rfl, _⟩ := h
  exact get_m W s b t m ht hm
theorem get_n (W : World) (B s b : Nat) (K : List Mk) (i : Int) (h : SetK W B s b K) (hm : ∀ x ∈ K, x.id ≠ i) : Calls Try.prog 29 #[.pointer (some ⟨s, 0, none⟩), .int .i64 i] W fun e w' => e = .returned (.tuple #[.agg #[.int .i64 0, .int .i64 0, .int .i64 0, .int .i64 0], .bool false]) ∧ Below W.heap.size W w' := by
  obtain ⟨t, ht, rfl, _⟩ := h
  exact get_0 W s b t i ht hm
/-- How deep the mark of a number lies, by the list alone. -/
def depN : List Mk → List Mk → Int → Nat
  | _, [], _ => 0
  | A, m :: C, i => if m.id = i then dep A m C else depN (A ++ [m]) C i
theorem depN_mem (A C : List Mk) (m : Mk) : ∀ P : List Mk, (∀ x ∈ A, x.id ≠ m.id) → depN P (A ++ m :: C) m.id = dep (P ++ A) m C := by
  induction A with
  | nil => intro P _; simp [depN]
  | cons x A ih =>
    intro P h
    have hx : x.id ≠ m.id := h x (by simp)
    simp only [List.cons_append, depN, if_neg hx]
    rw [ih (P ++ [x]) fun y hy => h y (by simp [hy])]
    simp
theorem depN_none (C : List Mk) (i : Int) : ∀ P : List Mk, (∀ x ∈ C, x.id ≠ i) → depN P C i = 0 := by
  induction C with
  | nil => intro P _; rfl
  | cons x C ih =>
    intro P h
    simp only [depN, if_neg (h x (by simp))]
    exact ih _ fun y hy => h y (by simp [hy])
theorem depth_k (W : World) (B s b : Nat) (K : List Mk) (i v : Int) (hv : Hid ((depN [] K i : Int) = v)) (h : SetK W B s b K) : Calls Try.prog 14 #[.pointer (some ⟨s, 0, none⟩), .int .i64 i] W fun e w' => e = .returned (.int .i64 v) ∧ Below W.heap.size W w' := by
  obtain ⟨t, ht, rfl, hB, hlen⟩ := h
  rw [← hv.out]
  by_cases hn : hasB t.list i = true
  · obtain ⟨m, hm, rfl⟩ := hasB_true hn
    obtain ⟨A, C, hAC⟩ := List.append_of_mem hm
    have hs := ids_split (hAC ▸ ht.ids)
    have e : depN [] t.list m.id = depT t m := by
      rw [dep_tree t m A C ht.srt ht.hp ht.ids hAC, hAC, depN_mem A C m [] hs.1]
      rfl
    rw [e]
    exact depth_yes W s b t m ht hm (by omega)
  · have hn' : hasB t.list i = false := by simpa using hn
    rw [depN_none _ _ [] (hasB_false hn')]
    exact depth_no W s b t i ht (hasB_false hn')
theorem all_k (W : World) (B s b : Nat) (K : List Mk) (h : SetK W B s b K) : Calls Try.prog 16 #[.pointer (some ⟨s, 0, none⟩)] W fun e w' => ∃ A p, e = .returned (.slice A K.length p) ∧ w'.ownsRow (W.heap.size + 1) 30 4 (.slice A K.length p) K.length (cells4 K) ∧ Below W.heap.size W w' := by
  obtain ⟨t, ht, rfl, hB, hlen⟩ := h
  refine (all_any W s b t ht (by omega)).mono ?_
  rintro e w' ⟨v, rfl, ho, hb⟩
  obtain ⟨A, p, rfl, _, _⟩ := own_form ho
  exact ⟨A, p, rfl, ho, hb⟩
theorem stab_k (W : World) (B s b : Nat) (K : List Mk) (at0 : Int) (h : SetK W B s b K) :
    Calls Try.prog 21 #[.pointer (some ⟨s, 0, none⟩), .int .i64 at0] W fun e w' => ∃ A p, e = .returned (.slice A (K.filter (P38 at0)).length p) ∧ w'.ownsRow W.heap.size 3 1 (.slice A (K.filter (P38 at0)).length p) (K.filter (P38 at0)).length (vids (K.filter (P38 at0))) ∧ Below W.heap.size W w' := by
  obtain ⟨t, ht, rfl, hB, hlen⟩ := h
  refine (stab_any W s b t at0 ht (by omega)).mono ?_
  rintro e w' ⟨v, rfl, ho, hb⟩
  obtain ⟨A, p, rfl, _, _⟩ := own_form ho
  exact ⟨A, p, rfl, ho, hb⟩
theorem within_k (W : World) (B s b : Nat) (K : List Mk) (f0 t0 : Int) (h : SetK W B s b K) :
    Calls Try.prog 22 #[.pointer (some ⟨s, 0, none⟩), .int .i64 f0, .int .i64 t0] W fun e w' => ∃ A p, e = .returned (.slice A (K.filter (P39 f0 t0)).length p) ∧ w'.ownsRow W.heap.size 3 1 (.slice A (K.filter (P39 f0 t0)).length p) (K.filter (P39 f0 t0)).length (vids (K.filter (P39 f0 t0))) ∧ Below W.heap.size W w' := by
  obtain ⟨t, ht, rfl, hB, hlen⟩ := h
  refine (within_any W s b t f0 t0 ht (by omega)).mono ?_
  rintro e w' ⟨v, rfl, ho, hb⟩
  obtain ⟨A, p, rfl, _, _⟩ := own_form ho
  exact ⟨A, p, rfl, ho, hb⟩
theorem rem_nil (W : World) (i : Int) : Calls Try.prog 13 #[.pointer none, .int .i64 i] W fun e w' => e = .returned (.int .i64 8) ∧ W = w' := by
  go_enter Try.func13, Try.ntmps13
  go_wp2
  go_ret
  exact ⟨rfl, rfl⟩
end Go.Proofs.Ytkibhinpbpgkeaa

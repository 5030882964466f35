/- Treaps in plain Lean: the trees that the program builds, their order, their heap, how deep a mark lies. No program in sight. -/
namespace Go.Proofs.Ytkibhinpbpgkeaa

structure Mk where
  id : Int
  fr : Int
  to : Int
  pr : Int
  deriving DecidableEq

/-- The order of marks: by the beginning, the greater end first, then the number. -/
def lt (a b : Mk) : Bool := decide (a.fr < b.fr ∨ (a.fr = b.fr ∧ (b.to < a.to ∨ (a.to = b.to ∧ a.id < b.id))))
theorem lt_iff (a b : Mk) : lt a b = true ↔ (a.fr < b.fr ∨ (a.fr = b.fr ∧ (b.to < a.to ∨ (a.to = b.to ∧ a.id < b.id)))) := by simp [lt]
theorem lt_irrefl (a : Mk) : lt a a = false := by
  rw [Bool.eq_false_iff]; intro h; rw [lt_iff] at h; omega
theorem lt_trans {a b c : Mk} (h : lt a b = true) (k : lt b c = true) : lt a c = true := by
  rw [lt_iff] at *; omega
theorem lt_asymm {a b : Mk} (h : lt a b = true) : lt b a = false := by
  rw [Bool.eq_false_iff]; intro k; rw [lt_iff] at *; omega
theorem lt_total {a b : Mk} (h : a.id ≠ b.id) (k : lt a b = false) : lt b a = true := by
  rw [Bool.eq_false_iff] at k; rw [lt_iff]; rw [Ne, lt_iff] at k; omega

/-- Which mark stands above another one. -/
def abv (a b : Mk) : Bool := decide (b.pr < a.pr ∨ (a.pr = b.pr ∧ a.id < b.id))
theorem abv_iff (a b : Mk) : abv a b = true ↔ (b.pr < a.pr ∨ (a.pr = b.pr ∧ a.id < b.id)) := by simp [abv]
theorem abv_trans {a b c : Mk} (h : abv a b = true) (k : abv b c = true) : abv a c = true := by
  rw [abv_iff] at *; omega
theorem abv_asymm {a b : Mk} (h : abv a b = true) : abv b a = false := by
  rw [Bool.eq_false_iff]; intro k; rw [abv_iff] at *; omega
theorem abv_total {a b : Mk} (h : a.id ≠ b.id) (k : abv a b = false) : abv b a = true := by
  rw [Bool.eq_false_iff] at k; rw [abv_iff]; rw [Ne, abv_iff] at k; omega
theorem abv_irrefl (a : Mk) : abv a a = false := by
  rw [Bool.eq_false_iff]; intro h; rw [abv_iff] at h; omega

/-- A tree with the numbers of its nodes' blocks. -/
inductive TR where
  | nil
  | node (g : Nat) (m : Mk) (l r : TR)

def TR.list : TR → List Mk
  | .nil => []
  | .node _ m l r => l.list ++ m :: r.list
def TR.blocks : TR → List Nat
  | .nil => []
  | .node g _ l r => g :: (l.blocks ++ r.blocks)
def TR.size : TR → Nat
  | .nil => 0
  | .node _ _ l r => l.size + r.size + 1
theorem TR.size_list (t : TR) : t.list.length = t.size := by
  induction t with
  | nil => rfl
  | node g m l r hl hr => simp [TR.list, TR.size, hl, hr]; omega

def cutT : TR → Mk → TR × TR
  | .nil, _ => (.nil, .nil)
  | .node g a l r, m => if lt a m then (.node g a l (cutT r m).1, (cutT r m).2) else ((cutT l m).1, .node g a (cutT l m).2 r)
def joinT (a b : TR) : TR :=
  match a, b with
  | .nil, b => b
  | .node g a l r, .nil => .node g a l r
  | .node g a l r, .node h b l' r' => if abv a b then .node g a l (joinT r (.node h b l' r')) else .node h b (joinT (.node g a l r) l') r'
termination_by a.size + b.size
decreasing_by all_goals simp only [TR.size]; omega
def putT (g : Nat) : TR → Mk → TR
  | .nil, m => .node g m .nil .nil
  | .node h a l r, m => if abv m a then .node g m (cutT (.node h a l r) m).1 (cutT (.node h a l r) m).2
    else if lt m a then .node h a (putT g l m) r else .node h a l (putT g r m)
def same3 (a b : Mk) : Bool := !lt a b && !lt b a
def takeT : TR → Mk → TR
  | .nil, _ => .nil
  | .node g a l r, m => if same3 m a then joinT l r else if lt m a then .node g a (takeT l m) r else .node g a l (takeT r m)
def depT : TR → Mk → Nat
  | .nil, _ => 0
  | .node _ a l r, m => if a.id = m.id then 1 else if lt m a then depT l m + 1 else depT r m + 1

def Srt (t : TR) : Prop := t.list.Pairwise fun a b => lt a b = true
def Hp : TR → Prop
  | .nil => True
  | .node _ a l r => (∀ x ∈ l.list, abv a x = true) ∧ (∀ x ∈ r.list, abv a x = true) ∧ Hp l ∧ Hp r
/-- No two marks of one number. -/
def Ids (L : List Mk) : Prop := L.Pairwise fun a b => a.id ≠ b.id

theorem srt_node {g : Nat} {a : Mk} {l r : TR} (h : Srt (.node g a l r)) : Srt l ∧ Srt r ∧ (∀ x ∈ l.list, lt x a = true) ∧ (∀ x ∈ r.list, lt a x = true) ∧ ∀ x ∈ l.list, ∀ y ∈ r.list, lt x y = true := by
  simp only [Srt, TR.list, List.pairwise_append, List.pairwise_cons, List.mem_cons, forall_eq_or_imp] at h
  exact ⟨h.1, h.2.1.2, fun x hx => (h.2.2 x hx).1, h.2.1.1, fun x hx => (h.2.2 x hx).2⟩

theorem cut_list (t : TR) (m : Mk) : (cutT t m).1.list ++ (cutT t m).2.list = t.list := by
  induction t with
  | nil => rfl
  | node g a l r hl hr =>
    simp only [cutT]
    split
    · simp only [TR.list, List.append_assoc, List.cons_append, hr]
    · simp only [TR.list]
      rw [← List.append_assoc, hl]
theorem cut_blocks (t : TR) (m : Mk) : ((cutT t m).1.blocks ++ (cutT t m).2.blocks).Perm t.blocks := by
  induction t with
  | nil => exact List.Perm.refl _
  | node g a l r hl hr =>
    simp only [cutT]
    split
    · simp only [TR.blocks, List.cons_append, List.append_assoc]
      exact List.Perm.cons _ (List.Perm.append_left _ hr)
    · simp only [TR.blocks]
      refine (List.perm_middle).trans (List.Perm.cons _ ?_)
      rw [← List.append_assoc]
      exact List.Perm.append_right _ hl
theorem cut_sides (t : TR) (m : Mk) (h : Srt t) : (∀ x ∈ (cutT t m).1.list, lt x m = true) ∧ ∀ x ∈ (cutT t m).2.list, lt x m = false := by
  induction t with
  | nil => simp [cutT, TR.list]
  | node g a l r hl hr =>
    obtain ⟨sl, sr, h1, h2, _⟩ := srt_node h
    simp only [cutT]
    split
    · rename_i hc
      refine ⟨fun x hx => ?_, (hr sr).2⟩
      simp only [TR.list, List.mem_append, List.mem_cons] at hx
      rcases hx with hx | rfl | hx
      · exact lt_trans (h1 x hx) hc
      · exact hc
      · exact (hr sr).1 x hx
    · rename_i hc
      have hc' : lt a m = false := by simpa using hc
      refine ⟨(hl sl).1, fun x hx => ?_⟩
      simp only [TR.list, List.mem_append, List.mem_cons] at hx
      rcases hx with hx | rfl | hx
      · exact (hl sl).2 x hx
      · exact hc'
      · rw [Bool.eq_false_iff]
        intro hx'
        exact hc (lt_trans (h2 x hx) hx')
theorem cut_mem (t : TR) (m x : Mk) : (x ∈ (cutT t m).1.list ∨ x ∈ (cutT t m).2.list) ↔ x ∈ t.list := by
  rw [← cut_list t m, List.mem_append]
theorem cut_heap (t : TR) (m : Mk) (h : Hp t) : Hp (cutT t m).1 ∧ Hp (cutT t m).2 := by
  induction t with
  | nil => exact ⟨trivial, trivial⟩
  | node g a l r hl hr =>
    obtain ⟨h1, h2, h3, h4⟩ := h
    simp only [cutT]
    split
    · exact ⟨⟨h1, fun x hx => h2 x ((cut_mem r m x).1 (.inl hx)), h3, (hr h4).1⟩, (hr h4).2⟩
    · exact ⟨(hl h3).1, ⟨fun x hx => h1 x ((cut_mem l m x).1 (.inr hx)), h2, (hl h3).2, h4⟩⟩

theorem joinT_nil (b : TR) : joinT .nil b = b := by rw [joinT]
theorem joinT_nil' (a : TR) : joinT a .nil = a := by cases a <;> rw [joinT]
theorem joinT_node (g : Nat) (a : Mk) (l r : TR) (h : Nat) (b : Mk) (l' r' : TR) :
    joinT (.node g a l r) (.node h b l' r') = if abv a b then .node g a l (joinT r (.node h b l' r')) else .node h b (joinT (.node g a l r) l') r' := by rw [joinT]

theorem join_list (n : Nat) : ∀ a b : TR, a.size + b.size ≤ n → (joinT a b).list = a.list ++ b.list := by
  induction n with
  | zero =>
    intro a b h
    cases a with
    | nil => rw [joinT_nil]; rfl
    | node g x l r => simp [TR.size] at h
  | succ n ih =>
    intro a b h
    cases a with
    | nil => rw [joinT_nil]; rfl
    | node g x l r =>
      cases b with
      | nil => rw [joinT_nil']; simp [TR.list]
      | node k y l' r' =>
        rw [joinT_node]
        simp only [TR.size] at h
        split
        · simp only [TR.list]
          rw [ih r (.node k y l' r') (by simp only [TR.size]; omega)]
          simp [TR.list]
        · simp only [TR.list]
          rw [ih (.node g x l r) l' (by simp only [TR.size]; omega)]
          simp [TR.list]
theorem join_blocks (n : Nat) : ∀ a b : TR, a.size + b.size ≤ n → (joinT a b).blocks.Perm (a.blocks ++ b.blocks) := by
  induction n with
  | zero =>
    intro a b h
    cases a with
    | nil => rw [joinT_nil]; exact List.Perm.refl _
    | node g x l r => simp [TR.size] at h
  | succ n ih =>
    intro a b h
    cases a with
    | nil => rw [joinT_nil]; exact List.Perm.refl _
    | node g x l r =>
      cases b with
      | nil => rw [joinT_nil']; simp [TR.blocks]
      | node k y l' r' =>
        rw [joinT_node]
        simp only [TR.size] at h
        split
        · simp only [TR.blocks, List.cons_append, List.append_assoc]
          refine List.Perm.cons _ (List.Perm.append_left _ ?_)
          exact ih r (.node k y l' r') (by simp only [TR.size]; omega)
        · have h1 := ih (.node g x l r) l' (by simp only [TR.size]; omega)
          rw [show (TR.node k y (joinT (.node g x l r) l') r').blocks = k :: ((joinT (.node g x l r) l').blocks ++ r'.blocks) from rfl,
            show (TR.node k y l' r').blocks = k :: (l'.blocks ++ r'.blocks) from rfl]
          refine List.Perm.trans (List.Perm.cons _ (List.Perm.append_right _ h1)) ?_
          refine List.Perm.trans ?_ (List.perm_middle).symm
          exact List.Perm.cons _ (by rw [List.append_assoc])
theorem join_heap (n : Nat) : ∀ a b : TR, a.size + b.size ≤ n → Hp a → Hp b → (∀ x ∈ a.list, ∀ y ∈ b.list, x.id ≠ y.id) → Hp (joinT a b) := by
  induction n with
  | zero =>
    intro a b h
    cases a with
    | nil => rw [joinT_nil]; exact fun _ hb _ => hb
    | node g x l r => simp [TR.size] at h
  | succ n ih =>
    intro a b h ha hb hid
    cases a with
    | nil => rw [joinT_nil]; exact hb
    | node g x l r =>
      cases b with
      | nil => rw [joinT_nil']; exact ha
      | node k y l' r' =>
        obtain ⟨a1, a2, a3, a4⟩ := ha
        have hb' := hb
        obtain ⟨b1, b2, b3, b4⟩ := hb
        rw [joinT_node]
        simp only [TR.size] at h
        split
        · rename_i hc
          refine ⟨a1, fun z hz => ?_, a3, ih r (.node k y l' r') (by simp only [TR.size]; omega) a4 hb' fun p hp q hq => hid p (by simp [TR.list, hp]) q hq⟩
          rw [join_list _ r (.node k y l' r') (Nat.le_refl _)] at hz
          simp only [TR.list, List.mem_append, List.mem_cons] at hz
          rcases hz with hz | hz | rfl | hz
          · exact a2 z hz
          · exact abv_trans hc (b1 z hz)
          · exact hc
          · exact abv_trans hc (b2 z hz)
        · rename_i hc
          have hc' : abv y x = true := abv_total (hid x (by simp [TR.list]) y (by simp [TR.list])) (by simpa using hc)
          refine ⟨fun z hz => ?_, b2, ih (.node g x l r) l' (by simp only [TR.size]; omega) ⟨a1, a2, a3, a4⟩ b3 fun p hp q hq => hid p hp q (by simp [TR.list, hq]), b4⟩
          rw [join_list _ (.node g x l r) l' (Nat.le_refl _)] at hz
          simp only [TR.list, List.mem_append, List.mem_cons] at hz
          rcases hz with (hz | rfl | hz) | hz
          · exact abv_trans hc' (a1 z hz)
          · exact hc'
          · exact abv_trans hc' (a2 z hz)
          · exact b1 z hz

/-- A mark laid in at its place. -/
def ins (L : List Mk) (m : Mk) : List Mk := L.takeWhile (lt · m) ++ m :: L.dropWhile (lt · m)
theorem ins_stop (A : List Mk) (a : Mk) (B : List Mk) (m : Mk) (h : lt a m = false) : ins (A ++ a :: B) m = ins A m ++ a :: B := by
  unfold ins
  induction A with
  | nil => simp [List.takeWhile, List.dropWhile, h]
  | cons x A ih =>
    by_cases hx : lt x m = true
    · simp only [List.cons_append, List.takeWhile_cons, List.dropWhile_cons, hx, if_true] at ih ⊢
      rw [ih]
    · simp [hx]
theorem ins_pass (A : List Mk) (B : List Mk) (m : Mk) (h : ∀ x ∈ A, lt x m = true) : ins (A ++ B) m = A ++ ins B m := by
  unfold ins
  induction A with
  | nil => rfl
  | cons x A ih =>
    have hx := h x (by simp)
    have ih := ih fun y hy => h y (by simp [hy])
    simp only [List.cons_append, List.takeWhile_cons, List.dropWhile_cons, hx, if_true] at ih ⊢
    rw [ih]
theorem ins_none (B : List Mk) (m : Mk) (h : ∀ x ∈ B, lt x m = false) : ins B m = m :: B := by
  cases B with
  | nil => rfl
  | cons b B => simp [ins, h b (by simp)]
theorem mem_ins (L : List Mk) (m x : Mk) : x ∈ ins L m ↔ x = m ∨ x ∈ L := by
  unfold ins
  conv => rhs; rw [← List.takeWhile_append_dropWhile (p := (lt · m)) (l := L)]
  simp only [List.mem_append, List.mem_cons]
  constructor
  · rintro (h | h | h) <;> simp [h]
  · rintro (h | h | h) <;> simp [h]
theorem ins_perm (L : List Mk) (m : Mk) : (ins L m).Perm (m :: L) := by
  unfold ins
  refine List.perm_middle.trans (List.Perm.cons _ ?_)
  rw [List.takeWhile_append_dropWhile]
theorem ins_sorted (L : List Mk) (m : Mk) (h : L.Pairwise fun a b => lt a b = true) (hid : ∀ x ∈ L, x.id ≠ m.id) : (ins L m).Pairwise fun a b => lt a b = true := by
  induction L with
  | nil => simp [ins]
  | cons a L ih =>
    obtain ⟨h1, h2⟩ := List.pairwise_cons.1 h
    by_cases ha : lt a m = true
    · rw [show a :: L = [a] ++ L from rfl, ins_pass [a] L m (by simpa using ha)]
      refine List.pairwise_cons.2 ⟨fun x hx => ?_, ih h2 fun x hx => hid x (by simp [hx])⟩
      rcases (mem_ins L m x).1 hx with rfl | hx
      · exact ha
      · exact h1 x hx
    · have ha' : lt a m = false := by simpa using ha
      have hm : lt m a = true := lt_total (hid a (by simp)) ha'
      have e : ins (a :: L) m = m :: a :: L := by simp [ins, ha']
      rw [e]
      refine List.pairwise_cons.2 ⟨fun x hx => ?_, h⟩
      rcases List.mem_cons.1 hx with rfl | hx
      · exact hm
      · exact lt_trans hm (h1 x hx)

theorem put_list (g : Nat) (t : TR) (m : Mk) (h : Srt t) (hid : ∀ x ∈ t.list, x.id ≠ m.id) : (putT g t m).list = ins t.list m := by
  induction t with
  | nil => simp [putT, TR.list, ins]
  | node k a l r hl hr =>
    obtain ⟨sl, sr, h1, h2, _⟩ := srt_node h
    simp only [putT]
    split
    · obtain ⟨c1, c2⟩ := cut_sides (.node k a l r) m h
      rw [← cut_list (.node k a l r) m, ins_pass _ _ _ c1, ins_none _ _ c2]
      rfl
    · split
      · rename_i hc
        simp only [TR.list]
        rw [hl sl fun x hx => hid x (by simp [TR.list, hx]), ins_stop _ _ _ _ (lt_asymm hc)]
      · rename_i hc
        have hc' : lt a m = true := lt_total (Ne.symm (hid a (by simp [TR.list]))) (by simpa using hc)
        simp only [TR.list]
        rw [hr sr fun x hx => hid x (by simp [TR.list, hx])]
        rw [show l.list ++ a :: r.list = (l.list ++ [a]) ++ r.list from by simp, ins_pass]
        · simp
        · intro x hx
          rcases List.mem_append.1 hx with hx | hx
          · exact lt_trans (h1 x hx) hc'
          · simp at hx; subst hx; exact hc'
theorem put_blocks (g : Nat) (t : TR) (m : Mk) : (putT g t m).blocks.Perm (g :: t.blocks) := by
  induction t with
  | nil => exact List.Perm.refl _
  | node k a l r hl hr =>
    simp only [putT]
    split
    · simp only [TR.blocks]
      exact List.Perm.cons _ (cut_blocks (.node k a l r) m)
    · split
      · simp only [TR.blocks]
        refine (List.Perm.cons _ (List.Perm.append_right _ hl)).trans ?_
        simp only [List.cons_append]
        exact List.Perm.swap _ _ _
      · simp only [TR.blocks]
        refine (List.Perm.cons _ (List.Perm.append_left _ hr)).trans ?_
        refine (List.Perm.cons _ List.perm_middle).trans ?_
        exact List.Perm.swap _ _ _
theorem put_heap (g : Nat) (t : TR) (m : Mk) (h : Srt t) (hp : Hp t) (hid : ∀ x ∈ t.list, x.id ≠ m.id) : Hp (putT g t m) := by
  induction t with
  | nil => simp [putT, Hp, TR.list]
  | node k a l r hl hr =>
    obtain ⟨sl, sr, h1, h2, _⟩ := srt_node h
    have hp' := hp
    obtain ⟨p1, p2, p3, p4⟩ := hp
    simp only [putT]
    split
    · rename_i hc
      obtain ⟨c1, c2⟩ := cut_heap (.node k a l r) m hp'
      have hall : ∀ x ∈ (TR.node k a l r).list, abv m x = true := by
        intro x hx
        simp only [TR.list, List.mem_append, List.mem_cons] at hx
        rcases hx with hx | rfl | hx
        · exact abv_trans hc (p1 x hx)
        · exact hc
        · exact abv_trans hc (p2 x hx)
      exact ⟨fun x hx => hall x ((cut_mem _ m x).1 (.inl hx)), fun x hx => hall x ((cut_mem _ m x).1 (.inr hx)), c1, c2⟩
    · rename_i hc
      have hc' : abv a m = true := abv_total (Ne.symm (hid a (by simp [TR.list]))) (by simpa using hc)
      split
      · refine ⟨fun x hx => ?_, p2, hl sl p3 fun x hx => hid x (by simp [TR.list, hx]), p4⟩
        rw [put_list g l m sl fun x hx => hid x (by simp [TR.list, hx])] at hx
        rcases (mem_ins _ _ _).1 hx with rfl | hx
        · exact hc'
        · exact p1 x hx
      · refine ⟨p1, fun x hx => ?_, p3, hr sr p4 fun x hx => hid x (by simp [TR.list, hx])⟩
        rw [put_list g r m sr fun x hx => hid x (by simp [TR.list, hx])] at hx
        rcases (mem_ins _ _ _).1 hx with rfl | hx
        · exact hc'
        · exact p2 x hx

theorem same3_of {a b : Mk} (h : same3 a b = true) (hid : a.id ≠ b.id) : False := by
  simp only [same3, Bool.and_eq_true, Bool.not_eq_true'] at h
  have := lt_total hid h.1
  rw [h.2] at this; cases this
theorem same3_self (a : Mk) : same3 a a = true := by simp [same3, lt_irrefl]
/-- The list without the mark of a number. -/
def del (L : List Mk) (i : Int) : List Mk := L.filter fun x => decide (x.id ≠ i)
theorem del_none (L : List Mk) (i : Int) (h : ∀ x ∈ L, x.id ≠ i) : del L i = L := by
  unfold del; rw [List.filter_eq_self]; intro x hx; simpa using h x hx
theorem del_append (A B : List Mk) (i : Int) : del (A ++ B) i = del A i ++ del B i := by simp [del]
theorem del_cons_ne (a : Mk) (A : List Mk) (i : Int) (h : a.id ≠ i) : del (a :: A) i = a :: del A i := by simp [del, h]
theorem del_cons_eq (a : Mk) (A : List Mk) (i : Int) (h : a.id = i) : del (a :: A) i = del A i := by simp [del, h]

theorem ids_node {g : Nat} {a : Mk} {l r : TR} (h : Ids (TR.node g a l r).list) : Ids l.list ∧ Ids r.list ∧ (∀ x ∈ l.list, x.id ≠ a.id) ∧ (∀ x ∈ r.list, a.id ≠ x.id) ∧ ∀ x ∈ l.list, ∀ y ∈ r.list, x.id ≠ y.id := by
  simp only [Ids, TR.list, List.pairwise_append, List.pairwise_cons, List.mem_cons, forall_eq_or_imp] at h
  exact ⟨h.1, h.2.1.2, fun x hx => (h.2.2 x hx).1, h.2.1.1, fun x hx => (h.2.2 x hx).2⟩

theorem take_list (t : TR) (m : Mk) (h : Srt t) (hid : Ids t.list) (hm : m ∈ t.list) : (takeT t m).list = del t.list m.id := by
  induction t with
  | nil => cases hm
  | node k a l r hl hr =>
    obtain ⟨sl, sr, h1, h2, h12⟩ := srt_node h
    obtain ⟨i1, i2, i3, i4, i5⟩ := ids_node hid
    simp only [TR.list, List.mem_append, List.mem_cons] at hm
    simp only [takeT]
    rcases hm with hm | rfl | hm
    · have hne : m.id ≠ a.id := i3 m hm
      have hlt := h1 m hm
      rw [if_neg (fun hs => same3_of hs hne), if_pos hlt]
      simp only [TR.list]
      rw [hl sl i1 hm, del_append, del_cons_ne _ _ _ (Ne.symm hne), del_none r.list _ fun x hx => Ne.symm (i5 m hm x hx)]
    · rw [if_pos (same3_self m), join_list _ l r (Nat.le_refl _)]
      simp only [TR.list]
      rw [del_append, del_cons_eq _ _ _ rfl, del_none l.list _ i3, del_none r.list _ fun x hx => Ne.symm (i4 x hx)]
    · have hne : a.id ≠ m.id := i4 m hm
      have hlt := lt_asymm (h2 m hm)
      rw [if_neg (fun hs => same3_of hs (Ne.symm hne)), if_neg (by rw [hlt]; simp)]
      simp only [TR.list]
      rw [hr sr i2 hm, del_append, del_cons_ne _ _ _ hne, del_none l.list _ fun x hx => i5 x hx m hm]
theorem take_heap (t : TR) (m : Mk) (h : Srt t) (hp : Hp t) (hid : Ids t.list) (hm : m ∈ t.list) : Hp (takeT t m) := by
  induction t with
  | nil => cases hm
  | node k a l r hl hr =>
    obtain ⟨sl, sr, h1, h2, h12⟩ := srt_node h
    obtain ⟨i1, i2, i3, i4, i5⟩ := ids_node hid
    obtain ⟨p1, p2, p3, p4⟩ := hp
    simp only [TR.list, List.mem_append, List.mem_cons] at hm
    simp only [takeT]
    rcases hm with hm | rfl | hm
    · have hne : m.id ≠ a.id := i3 m hm
      rw [if_neg (fun hs => same3_of hs hne), if_pos (h1 m hm)]
      refine ⟨fun x hx => ?_, p2, hl sl p3 i1 hm, p4⟩
      rw [take_list l m sl i1 hm] at hx
      exact p1 x ((List.mem_filter.1 hx).1)
    · rw [if_pos (same3_self m)]
      exact join_heap _ l r (Nat.le_refl _) p3 p4 i5
    · have hne : a.id ≠ m.id := i4 m hm
      rw [if_neg (fun hs => same3_of hs (Ne.symm hne)), if_neg (by rw [lt_asymm (h2 m hm)]; simp)]
      refine ⟨p1, fun x hx => ?_, p3, hr sr p4 i2 hm⟩
      rw [take_list r m sr i2 hm] at hx
      exact p2 x ((List.mem_filter.1 hx).1)
theorem take_blocks (t : TR) (m : Mk) : ∀ g ∈ (takeT t m).blocks, g ∈ t.blocks := by
  induction t with
  | nil => intro g h; cases h
  | node k a l r hl hr =>
    intro g hg
    simp only [takeT] at hg
    split at hg
    · have h := (join_blocks _ l r (Nat.le_refl _)).mem_iff.1 hg
      simp only [TR.blocks, List.mem_cons]
      exact .inr h
    · split at hg
      · simp only [TR.blocks, List.mem_cons, List.mem_append] at hg ⊢
        rcases hg with hg | hg | hg
        · exact .inl hg
        · exact .inr (.inl (hl g hg))
        · exact .inr (.inr hg)
      · simp only [TR.blocks, List.mem_cons, List.mem_append] at hg ⊢
        rcases hg with hg | hg | hg
        · exact .inl hg
        · exact .inr (.inl hg)
        · exact .inr (.inr (hr g hg))
theorem take_nodup (t : TR) (m : Mk) (h : t.blocks.Nodup) : (takeT t m).blocks.Nodup := by
  induction t with
  | nil => exact h
  | node k a l r hl hr =>
    simp only [TR.blocks, List.nodup_cons, List.mem_append, not_or, List.nodup_append] at h
    obtain ⟨⟨h1, h2⟩, h3, h4, h5⟩ := h
    simp only [takeT]
    split
    · rw [(join_blocks _ l r (Nat.le_refl _)).nodup_iff]
      exact List.nodup_append.2 ⟨h3, h4, h5⟩
    · split
      · simp only [TR.blocks, List.nodup_cons, List.mem_append, not_or, List.nodup_append]
        exact ⟨⟨fun hk => h1 (take_blocks l m k hk), h2⟩, hl h3, h4, fun x hx y hy => h5 x (take_blocks l m x hx) y hy⟩
      · simp only [TR.blocks, List.nodup_cons, List.mem_append, not_or, List.nodup_append]
        exact ⟨⟨h1, fun hk => h2 (take_blocks r m k hk)⟩, h3, hr h4, fun x hx y hy => h5 x hx y (take_blocks r m y hy)⟩

/-- How many marks stand above on one side, from the mark outwards. -/
def cnt : List Mk → Mk → Nat
  | [], _ => 0
  | x :: xs, top => if abv x top then cnt xs x + 1 else cnt xs top
theorem cnt_none (L : List Mk) (m : Mk) (h : ∀ x ∈ L, abv m x = true) : cnt L m = 0 := by
  induction L with
  | nil => rfl
  | cons x L ih =>
    simp only [cnt]
    rw [if_neg (by rw [abv_asymm (h x (by simp))]; simp)]
    exact ih fun y hy => h y (by simp [hy])
theorem cnt_over (A : List Mk) (a : Mk) (B : List Mk) (m : Mk) (hm : abv a m = true) (hA : ∀ x ∈ A, abv a x = true) (hB : ∀ x ∈ B, abv a x = true) : cnt (A ++ a :: B) m = cnt A m + 1 := by
  induction A generalizing m with
  | nil => simp [cnt, hm, cnt_none B a hB]
  | cons x A ih =>
    simp only [List.cons_append, cnt]
    split
    · rw [ih x (hA x (by simp)) fun y hy => hA y (by simp [hy])]
    · rw [ih m hm fun y hy => hA y (by simp [hy])]
/-- How deep a mark lies, off the list alone. -/
def dep (A : List Mk) (m : Mk) (B : List Mk) : Nat := cnt A.reverse m + cnt B m + 1

theorem dep_tree (t : TR) (m : Mk) (A B : List Mk) (h : Srt t) (hp : Hp t) (hid : Ids t.list) (e : t.list = A ++ m :: B) : depT t m = dep A m B := by
  induction t generalizing A B with
  | nil => simp [TR.list] at e
  | node k a l r hl hr =>
    obtain ⟨sl, sr, h1, h2, h12⟩ := srt_node h
    obtain ⟨i1, i2, i3, i4, i5⟩ := ids_node hid
    obtain ⟨p1, p2, p3, p4⟩ := hp
    simp only [TR.list] at e
    simp only [depT]
    rcases List.append_eq_append_iff.1 e with ⟨C, e1, e2⟩ | ⟨C, e1, e2⟩
    · cases C with
      | nil =>
        simp at e1 e2
        obtain ⟨rfl, rfl⟩ := e2
        subst e1
        rw [if_pos rfl]
        unfold dep
        rw [cnt_none _ _ fun x hx => p1 x (by simpa using hx), cnt_none _ _ p2]
      | cons c C =>
        simp only [List.cons_append, List.cons.injEq] at e2
        obtain ⟨rfl, e2⟩ := e2
        have hm : m ∈ r.list := by rw [e2]; simp
        have hne : a.id ≠ m.id := i4 m hm
        rw [if_neg hne, if_neg (by rw [lt_asymm (h2 m hm)]; simp), hr C B sr p4 i2 e2]
        unfold dep
        subst e1
        have hC : ∀ x ∈ C.reverse, abv a x = true := fun x hx => p2 x (by rw [e2]; simp at hx; simp [hx])
        have := cnt_over C.reverse a l.list.reverse m (p2 m hm) hC fun x hx => p1 x (by simpa using hx)
        simp only [List.reverse_append, List.reverse_cons, List.append_assoc, List.cons_append, List.nil_append] at this ⊢
        rw [this]
        omega
    · cases C with
      | nil =>
        simp at e1 e2
        obtain ⟨rfl, rfl⟩ := e2
        subst e1
        rw [if_pos rfl]
        unfold dep
        rw [cnt_none _ _ fun x hx => p1 x (by simpa using hx), cnt_none _ _ p2]
      | cons c C =>
        simp only [List.cons_append, List.cons.injEq] at e2
        obtain ⟨rfl, e2⟩ := e2
        have hm : m ∈ l.list := by rw [e1]; simp
        have hne : a.id ≠ m.id := Ne.symm (i3 m hm)
        rw [if_neg hne, if_pos (h1 m hm), hl A C sl p3 i1 e1]
        unfold dep
        subst e2
        rw [cnt_over C a r.list m (p1 m hm) (fun x hx => p1 x (by rw [e1]; simp [hx])) p2]
        omega
end Go.Proofs.Ytkibhinpbpgkeaa

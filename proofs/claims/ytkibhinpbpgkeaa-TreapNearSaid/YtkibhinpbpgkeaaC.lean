/- The walks of join, take, put. -/
import Derived.Test.YtkibhinpbpgkeaaB
namespace Go.Proofs.Ytkibhinpbpgkeaa
open Go.RowKit

theorem above_v (a b : Mk) (v : Bool) (hv : Hid (abv a b = v)) (w : World) : Calls Try.prog 45 #[.agg #[.int .i64 a.id, .int .i64 a.fr, .int .i64 a.to, .int .i64 a.pr], .agg #[.int .i64 b.id, .int .i64 b.fr, .int .i64 b.to, .int .i64 b.pr]] w
    fun e w' => e = .returned (.bool v) ∧ Below w.heap.size w w' := by
  have h := hv.out; subst h; exact above_any a b w

/-- What join answers. -/
def JoinPost (a b : TR) (W : World) (e : Ending) (W' : World) : Prop :=
  e = .returned (.pointer (joinT a b).root) ∧ InW W' (joinT a b) ∧ Chg (a.blocks ++ b.blocks) W W'
theorem join_sub (a b : TR) : ∀ g ∈ (joinT a b).blocks, g ∈ a.blocks ∨ g ∈ b.blocks := fun _ h => List.mem_append.1 ((join_blocks _ a b (Nat.le_refl _)).mem_iff.1 h)

set_option maxHeartbeats 2000000 in
theorem join_any (n : Nat) : ∀ (a b : TR) (W : World), a.size + b.size ≤ n → InW W a → InW W b → (a.blocks ++ b.blocks).Nodup → Calls Try.prog 47 #[.pointer a.root, .pointer b.root] W (JoinPost a b W) := by
  induction n with
  | zero =>
    intro a b W hs _ _ _
    cases a with
    | node g x l r => simp [TR.size] at hs
    | nil =>
      cases b with
      | node g x l r => simp [TR.size] at hs
      | nil =>
        show Calls Try.prog 47 #[.pointer none, .pointer none] W _
        go_enter Try.func47, Try.ntmps47
        go_wp2
        go_ret
        exact ⟨by rw [joinT_nil]; rfl, by rw [joinT_nil]; trivial, Chg.refl _ _⟩
  | succ n ih =>
    intro a b W hs ha hb hnd
    cases a with
    | nil =>
      obtain ⟨p, hp⟩ : ∃ p, b.root = p := ⟨_, rfl⟩
      rw [hp]
      have Hp := Lib.hid hp
      clear hp ih
      show Calls Try.prog 47 #[.pointer none, .pointer p] W _
      go_enter Try.func47, Try.ntmps47
      go_wp2
      go_ret
      exact ⟨by rw [joinT_nil, Hp.out]; rfl, by rw [joinT_nil]; exact hb, Chg.refl _ _⟩
    | node g x l r =>
      cases b with
      | nil =>
        clear ih
        show Calls Try.prog 47 #[.pointer (some ⟨g, 0, none⟩), .pointer none] W _
        go_enter Try.func47, Try.ntmps47
        go_wp2
        go_ret
        exact ⟨by rw [joinT_nil']; rfl, by rw [joinT_nil']; exact ha, Chg.refl _ _⟩
      | node k y l' r' =>
        obtain ⟨h1, h2, h3⟩ := ha
        have hb' := hb
        obtain ⟨k1, k2, k3⟩ := hb
        have hg := heap_lt h1
        have hk := heap_lt k1
        obtain ⟨z0, z1, z2, z3, z4, z5⟩ := ncs_cells h1
        obtain ⟨u0, u1, u2, u3, u4, u5⟩ := ncs_cells k1
        have H1 := Lib.hid h1
        have K1 := Lib.hid k1
        clear h1 k1
        have hnd' := hnd
        simp only [TR.blocks, List.cons_append, List.nodup_cons, List.mem_append, List.mem_cons, not_or, List.nodup_append, List.append_assoc] at hnd'
        simp only [TR.size] at hs
        have HJ : Hid (∀ W, InW W r → InW W (.node k y l' r') → Calls Try.prog 47 #[.pointer r.root, .pointer (some ⟨k, 0, none⟩)] W (JoinPost r (.node k y l' r') W)) := fun W i1 i2 => ih r (.node k y l' r') W (by simp only [TR.size]; omega) i1 i2 (by
          have h := hnd
          simp only [TR.blocks, List.cons_append, List.nodup_cons, List.mem_append, List.mem_cons, not_or, List.nodup_append] at h ⊢
          grind)
        have HK : Hid (∀ W, InW W (.node g x l r) → InW W l' → Calls Try.prog 47 #[.pointer (some ⟨g, 0, none⟩), .pointer l'.root] W (JoinPost (.node g x l r) l' W)) := fun W i1 i2 => ih (.node g x l r) l' W (by simp only [TR.size]; omega) i1 i2 (by
          have h := hnd
          simp only [TR.blocks, List.cons_append, List.nodup_cons, List.mem_append, List.mem_cons, not_or, List.nodup_append] at h ⊢
          grind)
        have Hnd := Lib.hid hnd'
        clear ih hs hnd' hnd
        show Calls Try.prog 47 #[.pointer (some ⟨g, 0, none⟩), .pointer (some ⟨k, 0, none⟩)] W _
        by_cases hab : abv x y = true
        · have Hv : Hid (abv x y = true) := hab
          go_enter Try.func47, Try.ntmps47
          go_wp2
          go_region_held3 (fun w' => w'.cell? ⟨g, 0, none⟩ = some (.int .i64 x.id) ∧ w'.cell? ⟨g, 1, none⟩ = some (.int .i64 x.fr) ∧ w'.cell? ⟨g, 2, none⟩ = some (.int .i64 x.to) ∧ w'.cell? ⟨g, 3, none⟩ = some (.int .i64 x.pr) ∧ w'.cell? ⟨k, 0, none⟩ = some (.int .i64 y.id) ∧ w'.cell? ⟨k, 1, none⟩ = some (.int .i64 y.fr) ∧ w'.cell? ⟨k, 2, none⟩ = some (.int .i64 y.to) ∧ w'.cell? ⟨k, 3, none⟩ = some (.int .i64 y.pr)) (simp [go_sem, *])
            (first
              | (go_at_call 45; (with_reducible refine (above_v x y true Hv _).mono ?_); rintro e w1 ⟨rfl, hb1⟩; have HB1 : Below W.heap.size W w1 := (Below.drew (Below.refl _ _)).trans hb1; have hcl1 := cells_of HB1; clear hb1))
          have y5 : w1.cell? ⟨g, 5, none⟩ = some (.pointer r.root) := (HB1.cell (p := ⟨g, 5, none⟩) hg).trans z5
          have HG1 := Lib.hid ((HB1.block g hg).trans H1.out)
          have L1 : InW w1 l := h2.chg (F := []) (Chg.of_below HB1) (by simp)
          have R1 : InW w1 r := h3.chg (F := []) (Chg.of_below HB1) (by simp)
          have B1 : InW w1 (.node k y l' r') := hb'.chg (F := []) (Chg.of_below HB1) (by simp)
          clear hcl1 z0 z1 z2 z3 z4 z5 u0 u1 u2 u3 u4 u5
          go_wp2_with ((go_at_call 47; (with_reducible refine (HJ.out _ R1 B1).mono ?_); rintro e w2 ⟨rfl, hx1, hc2⟩; have G2 : w2.heap[g]? = some (.cells (ncs x (.pointer l.root) (.pointer r.root)) 62 (0, 0)) := (hc2.block g (Nat.lt_of_lt_of_le hg HB1.size) (by have h := Hnd.out; simp only [TR.blocks, List.mem_append, List.mem_cons]; grind)).trans HG1.out; have q5 := (ncs_cells G2).2.2.2.2.2; have f5 := ncs_free G2 5; have HG2 := Lib.hid G2; clear G2; have HC2 := Lib.hid hc2; clear hc2))
          go_ret
          have C2 := HC2.out
          have nd := Hnd.out
          have L2 : InW w2 l := L1.chg C2 fun j hj hr => by
            simp only [TR.blocks, List.mem_append, List.mem_cons] at hr
            grind
          refine ⟨?_, ?_, ?_⟩
          · rw [joinT_node, if_pos hab]; rfl
          · rw [joinT_node, if_pos hab]
            refine set_right HG2.out L2 hx1 (by grind) fun h => ?_
            have h' := join_sub r _ g h
            simp only [TR.blocks, List.mem_append, List.mem_cons] at h'
            grind
          · refine ((Chg.of_below HB1).trans (C2.mono fun j hj _ => ?_)).setCell (.inl (by simp [TR.blocks])) _
            simp only [TR.blocks, List.mem_append, List.mem_cons, List.cons_append] at hj ⊢
            grind
        · have hab' : abv x y = false := by simpa using hab
          have Hv : Hid (abv x y = false) := hab'
          clear hab hab'
          go_enter Try.func47, Try.ntmps47
          go_wp2
          go_region_held3 (fun w' => w'.cell? ⟨g, 0, none⟩ = some (.int .i64 x.id) ∧ w'.cell? ⟨g, 1, none⟩ = some (.int .i64 x.fr) ∧ w'.cell? ⟨g, 2, none⟩ = some (.int .i64 x.to) ∧ w'.cell? ⟨g, 3, none⟩ = some (.int .i64 x.pr) ∧ w'.cell? ⟨k, 0, none⟩ = some (.int .i64 y.id) ∧ w'.cell? ⟨k, 1, none⟩ = some (.int .i64 y.fr) ∧ w'.cell? ⟨k, 2, none⟩ = some (.int .i64 y.to) ∧ w'.cell? ⟨k, 3, none⟩ = some (.int .i64 y.pr)) (simp [go_sem, *])
            (first
              | (go_at_call 45; (with_reducible refine (above_v x y false Hv _).mono ?_); rintro e w1 ⟨rfl, hb1⟩; have HB1 : Below W.heap.size W w1 := (Below.drew (Below.refl _ _)).trans hb1; have hcl1 := cells_of HB1; clear hb1))
          have y4 : w1.cell? ⟨k, 4, none⟩ = some (.pointer l'.root) := (HB1.cell (p := ⟨k, 4, none⟩) hk).trans u4
          have HG1 := Lib.hid ((HB1.block k hk).trans K1.out)
          have L1 : InW w1 l' := k2.chg (F := []) (Chg.of_below HB1) (by simp)
          have R1 : InW w1 r' := k3.chg (F := []) (Chg.of_below HB1) (by simp)
          have B1 : InW w1 (.node g x l r) := InW.chg (t := .node g x l r) (F := []) ⟨H1.out, h2, h3⟩ (Chg.of_below HB1) (by simp)
          clear hcl1 z0 z1 z2 z3 z4 z5 u0 u1 u2 u3 u4 u5
          go_wp2_with ((go_at_call 47; (with_reducible refine (HK.out _ B1 L1).mono ?_); rintro e w2 ⟨rfl, hx1, hc2⟩; have G2 : w2.heap[k]? = some (.cells (ncs y (.pointer l'.root) (.pointer r'.root)) 62 (0, 0)) := (hc2.block k (Nat.lt_of_lt_of_le hk HB1.size) (by have h := Hnd.out; simp only [TR.blocks, List.mem_append, List.mem_cons]; grind)).trans HG1.out; have q4 := (ncs_cells G2).2.2.2.2.1; have f4 := ncs_free G2 4; have HG2 := Lib.hid G2; clear G2; have HC2 := Lib.hid hc2; clear hc2))
          go_ret
          have C2 := HC2.out
          have nd := Hnd.out
          have R2 : InW w2 r' := R1.chg C2 fun j hj hr => by
            simp only [TR.blocks, List.mem_append, List.mem_cons] at hr
            grind
          have hv := Hv.out
          refine ⟨?_, ?_, ?_⟩
          · rw [joinT_node, if_neg (by rw [hv]; simp)]; rfl
          · rw [joinT_node, if_neg (by rw [hv]; simp)]
            refine set_left HG2.out R2 hx1 (by grind) fun h => ?_
            have h' := join_sub _ l' k h
            simp only [TR.blocks, List.mem_append, List.mem_cons] at h'
            grind
          · refine ((Chg.of_below HB1).trans (C2.mono fun j hj _ => ?_)).setCell (.inl (by simp [TR.blocks])) _
            simp only [TR.blocks, List.mem_append, List.mem_cons, List.cons_append] at hj ⊢
            grind
end Go.Proofs.Ytkibhinpbpgkeaa

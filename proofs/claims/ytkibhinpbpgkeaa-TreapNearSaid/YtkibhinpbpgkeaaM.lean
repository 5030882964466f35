/- The walks of All's closure, walk, All. -/
import Derived.Test.YtkibhinpbpgkeaaL
import Derived.Test.YtkibhinpbpgkeaaMem
namespace Go.Proofs.Ytkibhinpbpgkeaa
open Go.RowKit Go.ChangeMaps

theorem info30 : (Try.prog.info? 30).map (fun i => (i.zero, i.size, i.bytes)) = some (some (.agg #[.int .i64 0, .int .i64 0, .int .i64 0, .int .i64 0]), 4, 32) := by kernel_rfl
/-- The cells of a list of marks. -/
def cells4 (L : List Mk) : List Value := L.flatMap fun m => [.int .i64 m.id, .int .i64 m.fr, .int .i64 m.to, .int .i64 m.pr]
theorem cells4_append (A B : List Mk) : cells4 (A ++ B) = cells4 A ++ cells4 B := by simp [cells4]
theorem cells4_len (L : List Mk) : (cells4 L).length = L.length * 4 := by
  induction L with
  | nil => rfl
  | cons m L ih =>
    have e : cells4 (m :: L) = [.int .i64 m.id, .int .i64 m.fr, .int .i64 m.to, .int .i64 m.pr] ++ cells4 L := rfl
    rw [e, List.length_append, ih]
    simp
    omega
theorem rds_mark (W : World) (g B : Nat) (m : Mk) (hB : g < B) (h : W.heap[g]? = some (.cells #[.int .i64 m.id, .int .i64 m.fr, .int .i64 m.to, .int .i64 m.pr] 30 (0, 0))) :
    Rds W B 4 (some ⟨g, 0, none⟩) 1 (cells4 [m]) := by
  refine ⟨rfl, fun j hj => ⟨_, rfl, hB, ?_⟩⟩
  rw [cells4_len] at hj
  simp only [List.length_cons, List.length_nil] at hj
  have e : ((⟨g, 0, none⟩ : Addr).add j) = ⟨g, j, none⟩ := by unfold Addr.add; split <;> simp_all
  rw [e]
  have hj3 : j = 0 ∨ j = 1 ∨ j = 2 ∨ j = 3 := by omega
  rcases hj3 with rfl | rfl | rfl | rfl
  · exact cell_of_row W g 0 _ _ _ h
  · exact cell_of_row W g 1 _ _ _ h
  · exact cell_of_row W g 2 _ _ _ h
  · exact cell_of_row W g 3 _ _ _ h
theorem oneCell_marks (L : List Mk) : ∀ u ∈ cells4 L, u.oneCell' = true := by
  intro u hu
  simp only [cells4, List.mem_flatMap] at hu
  obtain ⟨m, _, hu⟩ := hu
  simp at hu
  rcases hu with rfl | rfl | rfl | rfl <;> rfl

/-- The block c holds a slice of the marks L, of the call's own. -/
def Out (c : Nat) (L : List Mk) (w : World) : Prop :=
  ∃ v, w.heap[c]? = some (.cells #[v] 22 (0, 0)) ∧ w.ownsRow (c + 1) 30 4 v L.length (cells4 L)

set_option maxHeartbeats 400000 in
theorem clo_any (c : Nat) (L : List Mk) (m : Mk) (W : World) (hO : Out c L W) (hL : L.length ≤ 1000) :
    Calls Try.prog 32 #[.agg #[.int .i64 m.id, .int .i64 m.fr, .int .i64 m.to, .int .i64 m.pr], .pointer (some ⟨c, 0, none⟩)] W fun e w' => e = .returned (.tuple #[]) ∧ Out c (L ++ [m]) w' ∧ Below c W w' := by
  obtain ⟨i0, hi0, hz0, hz1, hz2⟩ := info_parts info30
  obtain ⟨v, hc, hown⟩ := hO
  have hcl := heap_lt hc
  have c0 := cell_of_row W c 0 _ _ _ hc
  have HC := Lib.hid hc
  clear hc
  go_enter Try.func32, Try.ntmps32
  go_wp2_with (at_builtin; refine append_rds rfl (.tmp 3) (.tmp 5) 22 rfl (c + 1) 30 i0 _ 4 32 Try.underlying22 hi0 hz0 hz1 hz2 rfl (by omega) v L.length _ rfl ((hown.alloc _).alloc _) (W.heap.size + 1 + 1) (some ⟨W.heap.size + 1, 0, none⟩) 1 1 (cells4 [m]) (by simp [go_sem]) (rds_mark _ _ _ m (by omega) (by have h := heap_new (W.alloc (.cells #[.int .i64 m.id, .int .i64 m.fr, .int .i64 m.to, .int .i64 m.pr] 30 (0, 0))) (.cells #[.int .i64 m.id, .int .i64 m.fr, .int .i64 m.to, .int .i64 m.pr] 30 (0, 0)); rw [show (W.alloc (.cells #[.int .i64 m.id, .int .i64 m.fr, .int .i64 m.to, .int .i64 m.pr] 30 (0, 0))).heap.size = W.heap.size + 1 from by simp] at h; exact h)) (oneCell_marks _) (by simp only [maxLen]; omega) (by omega) (by simp; omega) ?_)
  intro v1 w1 hown1 hg1 hat1
  have hbA : Below c W ((W.alloc (.cells #[.int .i64 m.id, .int .i64 m.fr, .int .i64 m.to, .int .i64 m.pr] 30 (0, 0))).alloc (.cells #[.int .i64 m.id, .int .i64 m.fr, .int .i64 m.to, .int .i64 m.pr] 30 (0, 0))) := ((Below.refl _ _).alloc (by omega) _).alloc (by simp; omega) _
  have hrow : ∀ k, v.ownBlock = some k → c + 1 ≤ k := fun k hk => (hown.lt k hk).1
  have hne : some c ≠ v.ownBlock := fun e => by have := hrow c e.symm; omega
  have hb1 : Below c W w1 := hbA.grown hg1 (by simp; omega) fun k hk => by have := hrow k hk; omega
  have C1 : w1.heap[c]? = some (.cells #[v] 22 (0, 0)) := by
    rw [hg1.block c (by simp; omega) hne]
    exact (Chg.block ((((Chg.refl [] W).alloc _).alloc _)) c hcl (by simp)).trans HC.out
  have c1 := cell_of_one C1
  have f1 := free_of_one C1
  have HC1 := Lib.hid C1
  have HB1 := Lib.hid hb1
  obtain ⟨A1, p1, rfl, _, _⟩ := own_form hown1
  have HO1 := Lib.hid hown1
  clear hg1 hat1 hown1 hown c0 hb1 hbA C1 hne hrow HC
  go_wp2
  have hne1 : (Value.slice A1 (L.length + 1) p1).ownBlock ≠ some c := fun e => by have := (HO1.out.lt c e).1; omega
  go_end0
  refine ⟨rfl, ⟨_, one_setCell HC1.out, ?_⟩, HB1.out.setCell (Nat.le_refl _) _⟩
  rw [List.length_append, cells4_append]
  exact ownsRow_setCell_other HO1.out hne1 _

set_option maxHeartbeats 400000 in
theorem walk_any (c : Nat) (t : TR) : ∀ (W : World) (L : List Mk), InW W t → (∀ g ∈ t.blocks, g < c) → Out c L W → L.length + t.list.length ≤ 1000 →
    Calls Try.prog 31 #[.pointer t.root, .func (.func 32) #[] #[.pointer (some ⟨c, 0, none⟩)]] W fun e w' => e = .returned (.tuple #[]) ∧ Out c (L ++ t.list) w' ∧ Below c W w' := by
  induction t with
  | nil =>
    intro W L _ _ hO _
    show Calls Try.prog 31 #[.pointer none, _] W _
    go_enter Try.func31, Try.ntmps31
    go_wp2
    go_end0
    refine ⟨rfl, by simpa [TR.list] using hO, Below.refl _ _⟩
  | node g a l r hl hr =>
    intro W L hin hg hO hlen
    obtain ⟨h1, h2, h3⟩ := hin
    obtain ⟨z0, z1, z2, z3, z4, z5⟩ := ncs_cells h1
    simp only [TR.list, List.length_append, List.length_cons] at hlen
    have hgc : g < c := hg g (by simp [TR.blocks])
    have HL : Hid (Calls Try.prog 31 #[.pointer l.root, .func (.func 32) #[] #[.pointer (some ⟨c, 0, none⟩)]] W fun e w' => e = .returned (.tuple #[]) ∧ Out c (L ++ l.list) w' ∧ Below c W w') :=
      hl W L h2 (fun k hk => hg k (by simp [TR.blocks, hk])) hO (by omega)
    have HR : Hid (∀ w2, Below c W w2 → Out c (L ++ l.list ++ [a]) w2 → Calls Try.prog 31 #[.pointer r.root, .func (.func 32) #[] #[.pointer (some ⟨c, 0, none⟩)]] w2 fun e w' => e = .returned (.tuple #[]) ∧ Out c (L ++ l.list ++ [a] ++ r.list) w' ∧ Below c w2 w') := fun w2 hb2 hO2 =>
      hr w2 (L ++ l.list ++ [a]) (below_world hb2 h3 fun k hk => hg k (by simp [TR.blocks, hk])) (fun k hk => hg k (by simp [TR.blocks, hk])) hO2 (by simp; omega)
    have H1 := Lib.hid h1
    have hL1 : (L ++ l.list).length ≤ 1000 := by simp; omega
    clear hl hr h1 h2 h3 hO hlen hg
    show Calls Try.prog 31 #[.pointer (some ⟨g, 0, none⟩), _] W _
    go_enter Try.func31, Try.ntmps31
    go_wp2_with (first
      | (go_at_call 31; (with_reducible refine (HL.out).mono ?_); rintro e w1 ⟨rfl, hO1, hb1⟩; have G1 := (hb1.block g hgc).trans H1.out; have y0 := (ncs_cells G1).1; have y1 := (ncs_cells G1).2.1; have y2 := (ncs_cells G1).2.2.1; have y3 := (ncs_cells G1).2.2.2.1; clear G1)
      | (go_at_call 32; (with_reducible refine (clo_any c (L ++ l.list) a _ hO1 hL1).mono ?_); rintro e w2 ⟨rfl, hO2, hb2⟩; have HB2 := Lib.hid (hb1.trans hb2); have G2 := (HB2.out.block g hgc).trans H1.out; have x5 := (ncs_cells G2).2.2.2.2.2; clear G2)
      | (go_at_call 31; (with_reducible refine (HR.out _ HB2.out hO2).mono ?_); rintro e w3 ⟨rfl, hO3, hb3⟩))
    go_end0
    refine ⟨rfl, ?_, HB2.out.trans hb3⟩
    have e : L ++ (TR.node g a l r).list = L ++ l.list ++ [a] ++ r.list := by simp [TR.list]
    rw [e]
    exact hO3

set_option maxHeartbeats 400000 in
theorem all_any (W : World) (s b : Nat) (t : TR) (h : SetIn W s b t) (hlen : t.list.length ≤ 1000) : Calls Try.prog 16 #[.pointer (some ⟨s, 0, none⟩)] W fun e w' => ∃ v, e = .returned v ∧ w'.ownsRow (W.heap.size + 1) 30 4 v t.list.length (cells4 t.list) ∧ Below W.heap.size W w' := by
  obtain ⟨c0, c1⟩ := h.cells
  have hs : s < W.heap.size := h.lt s (by simp)
  have hO : Out W.heap.size [] (W.alloc (.cells #[.slice none 0 0] 22 (0, 0))) := ⟨.slice none 0 0, heap_new _ _, World.ownsRow_nil _ _ _ _⟩
  have HW : Hid (Calls Try.prog 31 #[.pointer t.root, .func (.func 32) #[] #[.pointer (some ⟨W.heap.size, 0, none⟩)]] (W.alloc (.cells #[.slice none 0 0] 22 (0, 0))) fun e w' => e = .returned (.tuple #[]) ∧ Out W.heap.size ([] ++ t.list) w' ∧ Below W.heap.size (W.alloc (.cells #[.slice none 0 0] 22 (0, 0))) w') :=
    walk_any W.heap.size t _ [] (h.tree.chg (F := []) ((Chg.refl _ _).alloc _) (by simp)) h.tree.lt hO (by simpa using hlen)
  have HB : Hid (Below W.heap.size W (W.alloc (.cells #[.slice none 0 0] 22 (0, 0)))) := (Below.refl _ _).alloc (Nat.le_refl _) _
  clear h hO
  go_enter Try.func16, Try.ntmps16
  go_wp2_with (go_at_call 31; (with_reducible refine (HW.out).mono ?_); rintro e w1 ⟨rfl, ⟨v, hv, hown⟩, hb1⟩; have x0 := cell_of_one hv)
  go_ret
  exact ⟨v, rfl, hown, HB.out.trans hb1⟩
end Go.Proofs.Ytkibhinpbpgkeaa

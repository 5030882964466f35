/- The walk of put. -/
import Derived.Test.YtkibhinpbpgkeaaD
namespace Go.Proofs.Ytkibhinpbpgkeaa
open Go.RowKit

theorem heap_new (w : World) (o : Obj) : (w.alloc o).heap[w.heap.size]? = some o := by simp [World.alloc, -World.alloc_eq]
theorem cell_of_heap {w w' : World} {b : Nat} (h : w'.heap[b]? = w.heap[b]?) (o : Nat) : w'.cell? ⟨b, o, none⟩ = w.cell? ⟨b, o, none⟩ := by
  unfold World.cell?; rw [h]
/-- What put answers. -/
def PutPost (m : Mk) (t : TR) (W : World) (e : Ending) (W' : World) : Prop :=
  ∃ g, W.heap.size ≤ g ∧ g < W'.heap.size ∧ e = .returned (.pointer (putT g t m).root) ∧ InW W' (putT g t m) ∧ Chg t.blocks W W'

set_option maxHeartbeats 4000000 in
theorem put_any (m : Mk) (t : TR) : ∀ W, InW W t → t.blocks.Nodup → Calls Try.prog 27 #[.pointer t.root, .agg #[.int .i64 m.id, .int .i64 m.fr, .int .i64 m.to, .int .i64 m.pr]] W (PutPost m t W) := by
  induction t with
  | nil =>
    intro W _ _
    show Calls Try.prog 27 #[.pointer none, _] W _
    go_enter Try.func27, Try.ntmps27
    go_wp2
    go_ret
    refine ⟨W.heap.size + 1, by omega, by simp, rfl, ⟨?_, trivial, trivial⟩, (Chg.of_below ((Below.refl _ _).alloc (Nat.le_refl _) _)).alloc _⟩
    have h := heap_new (W.alloc (.cells #[.int .i64 m.id, .int .i64 m.fr, .int .i64 m.to, .int .i64 m.pr] 30 (0, 0))) (.cells (ncs m (.pointer none) (.pointer none)) 62 (0, 0))
    rw [show (W.alloc (.cells #[.int .i64 m.id, .int .i64 m.fr, .int .i64 m.to, .int .i64 m.pr] 30 (0, 0))).heap.size = W.heap.size + 1 from by simp] at h
    exact h
  | node g a l r hl hr =>
    intro W hin hnd
    obtain ⟨h1, h2, h3⟩ := hin
    have hg := heap_lt h1
    obtain ⟨z0, z1, z2, z3, z4, z5⟩ := ncs_cells h1
    have HL := Lib.hid hl
    have HR := Lib.hid hr
    have H1 := Lib.hid h1
    clear hl hr h1
    have hnd' := hnd
    simp only [TR.blocks, List.nodup_cons, List.mem_append, not_or, List.nodup_append] at hnd'
    obtain ⟨⟨n1, n2⟩, n3, n4, n5⟩ := hnd'
    show Calls Try.prog 27 #[.pointer (some ⟨g, 0, none⟩), _] W _
    by_cases hab : abv m a = true
    · have Hv : Hid (abv m a = true) := hab
      have HC : Hid (∀ W, InW W (.node g a l r) → Calls Try.prog 46 #[.pointer (some ⟨g, 0, none⟩), .agg #[.int .i64 m.id, .int .i64 m.fr, .int .i64 m.to, .int .i64 m.pr]] W (CutPost m (.node g a l r) W)) := fun W i => cut_any m (.node g a l r) W i hnd
      clear HL HR
      go_enter Try.func27, Try.ntmps27
      go_wp2
      go_region_held3 (fun w' => w'.cell? ⟨g, 0, none⟩ = some (.int .i64 a.id) ∧ w'.cell? ⟨g, 1, none⟩ = some (.int .i64 a.fr) ∧ w'.cell? ⟨g, 2, none⟩ = some (.int .i64 a.to) ∧ w'.cell? ⟨g, 3, none⟩ = some (.int .i64 a.pr) ∧ w'.cell? ⟨W.heap.size, 0, none⟩ = some (.int .i64 m.id) ∧ w'.cell? ⟨W.heap.size, 1, none⟩ = some (.int .i64 m.fr) ∧ w'.cell? ⟨W.heap.size, 2, none⟩ = some (.int .i64 m.to) ∧ w'.cell? ⟨W.heap.size, 3, none⟩ = some (.int .i64 m.pr)) (simp [go_sem, World.cell?_alloc_past, *])
        (first
          | (go_at_call 45; (with_reducible refine (above_v m a true Hv _).mono ?_); rintro e w1 ⟨rfl, hb1⟩; have hcl1 := cells_of hb1; have hz1 : W.heap.size < w1.heap.size := (by have hz := hb1.size; (try simp at hz); omega); have hzg : g < w1.heap.size := (by omega); have HB_w1 : Below W.heap.size W w1 := Below.trans (by repeat (first | exact Below.refl _ _ | refine Below.drew ?_ | refine Below.alloc ?_ (Nat.le_refl _) _)) (hb1.mono (by first | omega | (simp <;> omega))); clear hb1))
      have y4 : w1.cell? ⟨g, 4, none⟩ = some (.pointer l.root) := (HB_w1.cell (p := ⟨g, 4, none⟩) hg).trans z4
      have y5 : w1.cell? ⟨g, 5, none⟩ = some (.pointer r.root) := (HB_w1.cell (p := ⟨g, 5, none⟩) hg).trans z5
      have hb : w1.cell? ⟨W.heap.size, 0, none⟩ = some (.int .i64 m.id) ∧ w1.cell? ⟨W.heap.size, 1, none⟩ = some (.int .i64 m.fr) ∧ w1.cell? ⟨W.heap.size, 2, none⟩ = some (.int .i64 m.to) ∧ w1.cell? ⟨W.heap.size, 3, none⟩ = some (.int .i64 m.pr) := by
        refine ⟨?_, ?_, ?_, ?_⟩ <;> simp [go_sem, *]
      obtain ⟨b0, b1, b2, b3⟩ := hb
      have HG1 := Lib.hid ((HB_w1.block g hg).trans H1.out)
      have L1 : InW w1 l := h2.chg (F := []) (Chg.of_below HB_w1) (by simp)
      have R1 : InW w1 r := h3.chg (F := []) (Chg.of_below HB_w1) (by simp)
      clear hcl1 z0 z1 z2 z3 z4 z5
      have T1 : InW w1 (.node g a l r) := ⟨HG1.out, L1, R1⟩
      have hW1 := HB_w1.size
      have HN : Hid (∀ k ∈ (TR.node g a l r).blocks, k < W.heap.size) := by
        intro k hk
        exact (InW.lt (t := .node g a l r) ⟨H1.out, h2, h3⟩) k hk
      go_wp2_with ((go_at_call 46; (with_reducible refine (HC.out _ T1).mono ?_); rintro e w2 ⟨rfl, hx1, hx2, hc2⟩; have hk2 : w2.heap[W.heap.size]? = w1.heap[W.heap.size]? := hc2.block _ hz1 (fun h => absurd (HN.out _ h) (Nat.lt_irrefl _)); have d0 : w2.cell? ⟨W.heap.size, 0, none⟩ = _ := (cell_of_heap hk2 0).trans b0; have d1 : w2.cell? ⟨W.heap.size, 1, none⟩ = _ := (cell_of_heap hk2 1).trans b1; have d2 : w2.cell? ⟨W.heap.size, 2, none⟩ = _ := (cell_of_heap hk2 2).trans b2; have d3 : w2.cell? ⟨W.heap.size, 3, none⟩ = _ := (cell_of_heap hk2 3).trans b3; have HC2 := Lib.hid hc2; clear hc2 hk2))
      go_ret
      have C2 := HC2.out
      refine ⟨w2.heap.size, by have := C2.size; omega, by simp, ?_, ?_, ?_⟩
      · simp [putT, hab, TR.root]
      · simp only [putT, hab, if_true]
        refine ⟨heap_new _ _, ?_, ?_⟩
        · exact hx1.chg (F := []) ((Chg.refl _ _).alloc _) (by simp)
        · exact hx2.chg (F := []) ((Chg.refl _ _).alloc _) (by simp)
      · exact ((Chg.of_below HB_w1).trans C2).alloc _
    · have hab' : abv m a = false := by simpa using hab
      have Hv : Hid (abv m a = false) := hab'
      obtain ⟨v, Hv2⟩ : ∃ v, Hid (ord m a = v) := ⟨_, rfl⟩
      by_cases hlt : lt m a = true
      · have hv : v < 0 := by have h := Hv2.out; unfold ord at h; rw [if_pos hlt] at h; omega
        go_enter Try.func27, Try.ntmps27
        go_wp2
        go_region_held3 (fun w' => w'.cell? ⟨g, 0, none⟩ = some (.int .i64 a.id) ∧ w'.cell? ⟨g, 1, none⟩ = some (.int .i64 a.fr) ∧ w'.cell? ⟨g, 2, none⟩ = some (.int .i64 a.to) ∧ w'.cell? ⟨g, 3, none⟩ = some (.int .i64 a.pr) ∧ w'.cell? ⟨W.heap.size, 0, none⟩ = some (.int .i64 m.id) ∧ w'.cell? ⟨W.heap.size, 1, none⟩ = some (.int .i64 m.fr) ∧ w'.cell? ⟨W.heap.size, 2, none⟩ = some (.int .i64 m.to) ∧ w'.cell? ⟨W.heap.size, 3, none⟩ = some (.int .i64 m.pr)) (simp [go_sem, World.cell?_alloc_past, *])
          (first
            | (go_at_call 45; (with_reducible refine (above_v m a false Hv _).mono ?_); rintro e w1 ⟨rfl, hb1⟩; have hcl1 := cells_of hb1; have hz1 : W.heap.size < w1.heap.size := (by have hz := hb1.size; (try simp at hz); omega); have hzg : g < w1.heap.size := (by omega); have HB_w1 : Below W.heap.size W w1 := Below.trans (by repeat (first | exact Below.refl _ _ | refine Below.drew ?_ | refine Below.alloc ?_ (Nat.le_refl _) _)) (hb1.mono (by first | omega | (simp <;> omega))); clear hb1))
        go_wp2
        have hb : w1.cell? ⟨W.heap.size, 0, none⟩ = some (.int .i64 m.id) ∧ w1.cell? ⟨W.heap.size, 1, none⟩ = some (.int .i64 m.fr) ∧ w1.cell? ⟨W.heap.size, 2, none⟩ = some (.int .i64 m.to) ∧ w1.cell? ⟨W.heap.size, 3, none⟩ = some (.int .i64 m.pr) := by
          refine ⟨?_, ?_, ?_, ?_⟩ <;> simp [go_sem, *]
        obtain ⟨b0, b1, b2, b3⟩ := hb
        have ha : w1.cell? ⟨g, 0, none⟩ = some (.int .i64 a.id) ∧ w1.cell? ⟨g, 1, none⟩ = some (.int .i64 a.fr) ∧ w1.cell? ⟨g, 2, none⟩ = some (.int .i64 a.to) ∧ w1.cell? ⟨g, 3, none⟩ = some (.int .i64 a.pr) := by
          have h := ncs_cells ((HB_w1.block g hg).trans H1.out)
          exact ⟨h.1, h.2.1, h.2.2.1, h.2.2.2.1⟩
        obtain ⟨a0, a1, a2, a3⟩ := ha
        clear hcl1
        go_region_held3 (fun w' => w'.cell? ⟨g, 0, none⟩ = some (.int .i64 a.id) ∧ w'.cell? ⟨g, 1, none⟩ = some (.int .i64 a.fr) ∧ w'.cell? ⟨g, 2, none⟩ = some (.int .i64 a.to) ∧ w'.cell? ⟨g, 3, none⟩ = some (.int .i64 a.pr) ∧ w'.cell? ⟨W.heap.size, 0, none⟩ = some (.int .i64 m.id) ∧ w'.cell? ⟨W.heap.size, 1, none⟩ = some (.int .i64 m.fr) ∧ w'.cell? ⟨W.heap.size, 2, none⟩ = some (.int .i64 m.to) ∧ w'.cell? ⟨W.heap.size, 3, none⟩ = some (.int .i64 m.pr)) (simp [go_sem, *])
          (first
            | (go_at_call 30; (with_reducible refine (order_v m a v Hv2 _).mono ?_); rintro e w3 ⟨rfl, hb1⟩; have HB_13 : Below w1.heap.size w1 w3 := (Below.refl _ _).drew.trans (hb1.mono (by first | omega | (simp <;> omega))); have hcl1 := cells_of HB_13; have hz3 : W.heap.size < w3.heap.size := (by have hz := hb1.size; (try simp at hz); omega); have hzg3 : g < w3.heap.size := (by omega); have HB_w3 : Below W.heap.size W w3 := HB_w1.drew.trans (hb1.mono (by first | omega | (simp <;> omega))); clear hb1))
        go_wp2
        have y4 : w3.cell? ⟨g, 4, none⟩ = some (.pointer l.root) := (HB_w3.cell (p := ⟨g, 4, none⟩) hg).trans z4
        have y5 : w3.cell? ⟨g, 5, none⟩ = some (.pointer r.root) := (HB_w3.cell (p := ⟨g, 5, none⟩) hg).trans z5
        have hb : w3.cell? ⟨W.heap.size, 0, none⟩ = some (.int .i64 m.id) ∧ w3.cell? ⟨W.heap.size, 1, none⟩ = some (.int .i64 m.fr) ∧ w3.cell? ⟨W.heap.size, 2, none⟩ = some (.int .i64 m.to) ∧ w3.cell? ⟨W.heap.size, 3, none⟩ = some (.int .i64 m.pr) := by
          refine ⟨?_, ?_, ?_, ?_⟩ <;> simp [go_sem, *]
        clear b0 b1 b2 b3
        obtain ⟨b0, b1, b2, b3⟩ := hb
        have HG1 := Lib.hid ((HB_w3.block g hg).trans H1.out)
        have L1 : InW w3 l := h2.chg (F := []) (Chg.of_below HB_w3) (by simp)
        have R1 : InW w3 r := h3.chg (F := []) (Chg.of_below HB_w3) (by simp)
        clear a0 a1 a2 a3 hcl1 z0 z1 z2 z3 z4 z5
        go_region_with ((go_at_call 27; (with_reducible refine (HL.out _ L1.drew n3).mono ?_); rintro e w2 ⟨k, hk1, hk2, rfl, hx1, hc2⟩; have G2 : w2.heap[g]? = some (.cells (ncs a (.pointer l.root) (.pointer r.root)) 62 (0, 0)) := (hc2.block g (Nat.lt_of_lt_of_le hg HB_w3.size) n1).trans HG1.out; have q4 := (ncs_cells G2).2.2.2.2.1; have q5 := (ncs_cells G2).2.2.2.2.2; have f4 := ncs_free G2 4; have f5 := ncs_free G2 5; have HG2 := Lib.hid G2; clear G2; have HC2 := Lib.hid hc2; clear hc2))
        all_goals
          go_wp2
          go_ret
          have C2 := HC2.out
          have R2 : InW w2 r := R1.chg (F := l.blocks) ((Chg.refl l.blocks w3).drew.trans C2) fun k hk hr => n5 k hr k hk rfl
          have hw3 := HB_w3.size
          have hk3 : W.heap.size ≤ k := Nat.le_trans hw3 hk1
          refine ⟨k, hk3, by simpa [World.setCell] using hk2, ?_, ?_, ?_⟩
          · simp [putT, hab', hlt, TR.root]
          · simp only [putT, hab', hlt, if_true]
            refine set_left HG2.out R2 hx1 n2 fun h => ?_
            rcases List.mem_cons.1 ((put_blocks k l m).mem_iff.1 h) with h | h
            · omega
            · exact n1 h
          · exact (((Chg.of_below HB_w3).drew.trans (C2.mono fun k hk _ => by simp [TR.blocks, hk]))).setCell (.inl (by simp [TR.blocks])) _
      · have hv : ¬ v < 0 := by have h := Hv2.out; unfold ord at h; rw [if_neg hlt] at h; (split at h <;> omega)
        go_enter Try.func27, Try.ntmps27
        go_wp2
        go_region_held3 (fun w' => w'.cell? ⟨g, 0, none⟩ = some (.int .i64 a.id) ∧ w'.cell? ⟨g, 1, none⟩ = some (.int .i64 a.fr) ∧ w'.cell? ⟨g, 2, none⟩ = some (.int .i64 a.to) ∧ w'.cell? ⟨g, 3, none⟩ = some (.int .i64 a.pr) ∧ w'.cell? ⟨W.heap.size, 0, none⟩ = some (.int .i64 m.id) ∧ w'.cell? ⟨W.heap.size, 1, none⟩ = some (.int .i64 m.fr) ∧ w'.cell? ⟨W.heap.size, 2, none⟩ = some (.int .i64 m.to) ∧ w'.cell? ⟨W.heap.size, 3, none⟩ = some (.int .i64 m.pr)) (simp [go_sem, World.cell?_alloc_past, *])
          (first
            | (go_at_call 45; (with_reducible refine (above_v m a false Hv _).mono ?_); rintro e w1 ⟨rfl, hb1⟩; have hcl1 := cells_of hb1; have hz1 : W.heap.size < w1.heap.size := (by have hz := hb1.size; (try simp at hz); omega); have hzg : g < w1.heap.size := (by omega); have HB_w1 : Below W.heap.size W w1 := Below.trans (by repeat (first | exact Below.refl _ _ | refine Below.drew ?_ | refine Below.alloc ?_ (Nat.le_refl _) _)) (hb1.mono (by first | omega | (simp <;> omega))); clear hb1))
        go_wp2
        have hb : w1.cell? ⟨W.heap.size, 0, none⟩ = some (.int .i64 m.id) ∧ w1.cell? ⟨W.heap.size, 1, none⟩ = some (.int .i64 m.fr) ∧ w1.cell? ⟨W.heap.size, 2, none⟩ = some (.int .i64 m.to) ∧ w1.cell? ⟨W.heap.size, 3, none⟩ = some (.int .i64 m.pr) := by
          refine ⟨?_, ?_, ?_, ?_⟩ <;> simp [go_sem, *]
        obtain ⟨b0, b1, b2, b3⟩ := hb
        have ha : w1.cell? ⟨g, 0, none⟩ = some (.int .i64 a.id) ∧ w1.cell? ⟨g, 1, none⟩ = some (.int .i64 a.fr) ∧ w1.cell? ⟨g, 2, none⟩ = some (.int .i64 a.to) ∧ w1.cell? ⟨g, 3, none⟩ = some (.int .i64 a.pr) := by
          have h := ncs_cells ((HB_w1.block g hg).trans H1.out)
          exact ⟨h.1, h.2.1, h.2.2.1, h.2.2.2.1⟩
        obtain ⟨a0, a1, a2, a3⟩ := ha
        clear hcl1
        go_region_held3 (fun w' => w'.cell? ⟨g, 0, none⟩ = some (.int .i64 a.id) ∧ w'.cell? ⟨g, 1, none⟩ = some (.int .i64 a.fr) ∧ w'.cell? ⟨g, 2, none⟩ = some (.int .i64 a.to) ∧ w'.cell? ⟨g, 3, none⟩ = some (.int .i64 a.pr) ∧ w'.cell? ⟨W.heap.size, 0, none⟩ = some (.int .i64 m.id) ∧ w'.cell? ⟨W.heap.size, 1, none⟩ = some (.int .i64 m.fr) ∧ w'.cell? ⟨W.heap.size, 2, none⟩ = some (.int .i64 m.to) ∧ w'.cell? ⟨W.heap.size, 3, none⟩ = some (.int .i64 m.pr)) (simp [go_sem, *])
          (first
            | (go_at_call 30; (with_reducible refine (order_v m a v Hv2 _).mono ?_); rintro e w3 ⟨rfl, hb1⟩; have HB_13 : Below w1.heap.size w1 w3 := (Below.refl _ _).drew.trans (hb1.mono (by first | omega | (simp <;> omega))); have hcl1 := cells_of HB_13; have hz3 : W.heap.size < w3.heap.size := (by have hz := hb1.size; (try simp at hz); omega); have hzg3 : g < w3.heap.size := (by omega); have HB_w3 : Below W.heap.size W w3 := HB_w1.drew.trans (hb1.mono (by first | omega | (simp <;> omega))); clear hb1))
        go_wp2
        have y4 : w3.cell? ⟨g, 4, none⟩ = some (.pointer l.root) := (HB_w3.cell (p := ⟨g, 4, none⟩) hg).trans z4
        have y5 : w3.cell? ⟨g, 5, none⟩ = some (.pointer r.root) := (HB_w3.cell (p := ⟨g, 5, none⟩) hg).trans z5
        have hb : w3.cell? ⟨W.heap.size, 0, none⟩ = some (.int .i64 m.id) ∧ w3.cell? ⟨W.heap.size, 1, none⟩ = some (.int .i64 m.fr) ∧ w3.cell? ⟨W.heap.size, 2, none⟩ = some (.int .i64 m.to) ∧ w3.cell? ⟨W.heap.size, 3, none⟩ = some (.int .i64 m.pr) := by
          refine ⟨?_, ?_, ?_, ?_⟩ <;> simp [go_sem, *]
        clear b0 b1 b2 b3
        obtain ⟨b0, b1, b2, b3⟩ := hb
        have HG1 := Lib.hid ((HB_w3.block g hg).trans H1.out)
        have L1 : InW w3 l := h2.chg (F := []) (Chg.of_below HB_w3) (by simp)
        have R1 : InW w3 r := h3.chg (F := []) (Chg.of_below HB_w3) (by simp)
        clear a0 a1 a2 a3 hcl1 z0 z1 z2 z3 z4 z5
        go_region_with ((go_at_call 27; (with_reducible refine (HR.out _ R1.drew n4).mono ?_); rintro e w2 ⟨k, hk1, hk2, rfl, hx1, hc2⟩; have G2 : w2.heap[g]? = some (.cells (ncs a (.pointer l.root) (.pointer r.root)) 62 (0, 0)) := (hc2.block g (Nat.lt_of_lt_of_le hg HB_w3.size) n2).trans HG1.out; have q4 := (ncs_cells G2).2.2.2.2.1; have q5 := (ncs_cells G2).2.2.2.2.2; have f4 := ncs_free G2 4; have f5 := ncs_free G2 5; have HG2 := Lib.hid G2; clear G2; have HC2 := Lib.hid hc2; clear hc2))
        all_goals
          go_wp2
          go_ret
          have C2 := HC2.out
          have L2 : InW w2 l := L1.chg (F := r.blocks) ((Chg.refl r.blocks w3).drew.trans C2) fun k hk hr => n5 k hk k hr rfl
          have hw3 := HB_w3.size
          have hk3 : W.heap.size ≤ k := Nat.le_trans hw3 hk1
          refine ⟨k, hk3, by simpa [World.setCell] using hk2, ?_, ?_, ?_⟩
          · simp [putT, hab', hlt, TR.root]
          · simp only [putT, hab', hlt]
            refine set_right HG2.out L2 hx1 n1 fun h => ?_
            rcases List.mem_cons.1 ((put_blocks k r m).mem_iff.1 h) with h | h
            · omega
            · exact n2 h
          · exact (((Chg.of_below HB_w3).drew.trans (C2.mono fun k hk _ => by simp [TR.blocks, hk]))).setCell (.inl (by simp [TR.blocks])) _
end Go.Proofs.Ytkibhinpbpgkeaa

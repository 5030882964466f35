/- Trees in memory; the walks of cut, join, put, take. -/
import Derived.Test.YtkibhinpbpgkeaaA
import Derived.Deep.RegionLaw
import Derived.Deep.RegionWith
namespace Go.Proofs.Ytkibhinpbpgkeaa
open Go.RowKit

/-- The world has changed in the blocks F and in new ones alone. -/
structure Chg (F : List Nat) (w w' : World) : Prop where
  os : w'.os = w.os
  tape : w'.tape = w.tape
  output : w'.output = w.output
  size : w.heap.size ≤ w'.heap.size
  block : ∀ k, k < w.heap.size → k ∉ F → w'.heap[k]? = w.heap[k]?
section
variable {F G : List Nat} {a b c w w' : World}
theorem Chg.refl (F : List Nat) (w : World) : Chg F w w := ⟨rfl, rfl, rfl, Nat.le_refl _, fun _ _ _ => rfl⟩
theorem Chg.trans (h : Chg F a b) (k : Chg F b c) : Chg F a c :=
  ⟨k.os.trans h.os, k.tape.trans h.tape, k.output.trans h.output, Nat.le_trans h.size k.size, fun i hi hn => (k.block i (Nat.lt_of_lt_of_le hi h.size) hn).trans (h.block i hi hn)⟩
/-- What counts of F is what was there. -/
theorem Chg.mono (h : Chg F a b) (hF : ∀ k ∈ F, k < a.heap.size → k ∈ G) : Chg G a b :=
  ⟨h.os, h.tape, h.output, h.size, fun i hi hn => h.block i hi fun hf => hn (hF i hf hi)⟩
theorem Chg.of_below (h : Below a.heap.size a b) : Chg F a b := ⟨h.os, h.tape, h.output, h.size, fun i hi _ => h.block i hi⟩
theorem Chg.below {B : Nat} (h : Chg F a b) (hF : ∀ k ∈ F, B ≤ k) (hB : B ≤ a.heap.size) : Below B a b := ⟨h.os, h.tape, h.output, h.size, fun i hi => h.block i (by omega) fun hf => by have := hF i hf; omega⟩
theorem Chg.drewN (h : Chg F a b) (n : Nat) : Chg F a (b.drewN n) := h.trans ⟨rfl, rfl, rfl, Nat.le_refl _, fun _ _ _ => rfl⟩
theorem Chg.drew (h : Chg F a b) : Chg F a b.drew := h.drewN 1
theorem Chg.alloc (h : Chg F a b) (o : Obj) : Chg F a (b.alloc o) := h.trans (Chg.of_below ((Below.refl _ _).alloc (Nat.le_refl _) o))
theorem Chg.setCell (h : Chg F a b) {p : Addr} (hp : p.block ∈ F ∨ a.heap.size ≤ p.block) (u : Value) : Chg F a (b.setCell p u) :=
  ⟨h.os, h.tape, h.output, by simpa [World.setCell] using h.size, fun i hi hn => (Below.heap_setCell b p u i (by
    rintro rfl
    rcases hp with hp | hp
    · exact hn hp
    · omega)).trans (h.block i hi hn)⟩
end

def TR.root : TR → Option Addr
  | .nil => none
  | .node g _ _ _ => some ⟨g, 0, none⟩
/-- A node's cells. -/
def ncs (m : Mk) (l r : Value) : Array Value := #[.int .i64 m.id, .int .i64 m.fr, .int .i64 m.to, .int .i64 m.pr, l, r]
/-- The tree lies in the world. -/
def InW (W : World) : TR → Prop
  | .nil => True
  | .node g m l r => W.heap[g]? = some (.cells (ncs m (.pointer l.root) (.pointer r.root)) 62 (0, 0)) ∧ InW W l ∧ InW W r
theorem heap_lt {W : World} {g : Nat} {o : Obj} (h : W.heap[g]? = some o) : g < W.heap.size := (Array.getElem?_eq_some_iff.1 h).1
theorem InW.lt {W : World} {t : TR} (h : InW W t) : ∀ g ∈ t.blocks, g < W.heap.size := by
  induction t with
  | nil => intro g hg; cases hg
  | node k m l r hl hr =>
    obtain ⟨h1, h2, h3⟩ := h
    intro g hg
    simp only [TR.blocks, List.mem_cons, List.mem_append] at hg
    rcases hg with rfl | hg | hg
    · exact heap_lt h1
    · exact hl h2 g hg
    · exact hr h3 g hg
theorem InW.chg {W W' : World} {t : TR} {F : List Nat} (h : InW W t) (hc : Chg F W W') (hn : ∀ g ∈ t.blocks, g ∉ F) : InW W' t := by
  induction t with
  | nil => trivial
  | node k m l r hl hr =>
    obtain ⟨h1, h2, h3⟩ := h
    refine ⟨?_, hl h2 fun g hg => hn g (by simp [TR.blocks, hg]), hr h3 fun g hg => hn g (by simp [TR.blocks, hg])⟩
    rw [hc.block k (heap_lt h1) (hn k (by simp [TR.blocks]))]
    exact h1
theorem ncs_right {W : World} {g : Nat} {m : Mk} {l r : Value} (h : W.heap[g]? = some (.cells (ncs m l r) 62 (0, 0))) (v : Value) : (W.setCell ⟨g, 5, none⟩ v).heap[g]? = some (.cells (ncs m l v) 62 (0, 0)) := heap_setCell_same W g 5 _ _ v h
theorem ncs_left {W : World} {g : Nat} {m : Mk} {l r : Value} (h : W.heap[g]? = some (.cells (ncs m l r) 62 (0, 0))) (v : Value) : (W.setCell ⟨g, 4, none⟩ v).heap[g]? = some (.cells (ncs m v r) 62 (0, 0)) := heap_setCell_same W g 4 _ _ v h
/-- A node's cells, one by one. -/
theorem ncs_cells {W : World} {g : Nat} {m : Mk} {l r : Value} (h : W.heap[g]? = some (.cells (ncs m l r) 62 (0, 0))) :
    W.cell? ⟨g, 0, none⟩ = some (.int .i64 m.id) ∧ W.cell? ⟨g, 1, none⟩ = some (.int .i64 m.fr) ∧ W.cell? ⟨g, 2, none⟩ = some (.int .i64 m.to) ∧ W.cell? ⟨g, 3, none⟩ = some (.int .i64 m.pr) ∧ W.cell? ⟨g, 4, none⟩ = some l ∧ W.cell? ⟨g, 5, none⟩ = some r :=
  ⟨cell_of_row W g 0 _ _ _ h, cell_of_row W g 1 _ _ _ h, cell_of_row W g 2 _ _ _ h, cell_of_row W g 3 _ _ _ h, cell_of_row W g 4 _ _ _ h, cell_of_row W g 5 _ _ _ h⟩
theorem ncs_free {W : World} {g : Nat} {m : Mk} {l r : Value} (h : W.heap[g]? = some (.cells (ncs m l r) 62 (0, 0))) (j : Nat) : W.frozen? ⟨g, j, none⟩ = false := frozen_of_row W g j _ _ h

theorem InW.setCell {W : World} {t : TR} (h : InW W t) {g : Nat} (hg : g ∉ t.blocks) (j : Nat) (v : Value) : InW (W.setCell ⟨g, j, none⟩ v) t :=
  h.chg (F := [g]) ((Chg.refl [g] W).setCell (.inl (by simp)) v) fun k hk hm => by simp at hm; subst hm; exact hg hk
theorem InW.drewN {W : World} {t : TR} (h : InW W t) (n : Nat) : InW (W.drewN n) t := h.chg (F := []) ((Chg.refl [] W).drewN n) (by simp)
theorem InW.drew {W : World} {t : TR} (h : InW W t) : InW W.drew t := h.drewN 1
theorem cut_sub1 (t : TR) (m : Mk) : ∀ g ∈ (cutT t m).1.blocks, g ∈ t.blocks := fun _ h => (cut_blocks t m).mem_iff.1 (List.mem_append_left _ h)
theorem cut_sub2 (t : TR) (m : Mk) : ∀ g ∈ (cutT t m).2.blocks, g ∈ t.blocks := fun _ h => (cut_blocks t m).mem_iff.1 (List.mem_append_right _ h)
/-- A node whose right (left) tree is written anew. -/
theorem set_right {W : World} {g : Nat} {a : Mk} {l r t : TR} (h : W.heap[g]? = some (.cells (ncs a (.pointer l.root) (.pointer r.root)) 62 (0, 0))) (hl : InW W l) (ht : InW W t) (gl : g ∉ l.blocks) (gt : g ∉ t.blocks) :
    InW (W.setCell ⟨g, 5, none⟩ (.pointer t.root)) (.node g a l t) := ⟨ncs_right h _, hl.setCell gl _ _, ht.setCell gt _ _⟩
theorem set_left {W : World} {g : Nat} {a : Mk} {l r t : TR} (h : W.heap[g]? = some (.cells (ncs a (.pointer l.root) (.pointer r.root)) 62 (0, 0))) (hr : InW W r) (ht : InW W t) (gr : g ∉ r.blocks) (gt : g ∉ t.blocks) :
    InW (W.setCell ⟨g, 4, none⟩ (.pointer t.root)) (.node g a t r) := ⟨ncs_left h _, ht.setCell gt _ _, hr.setCell gr _ _⟩
theorem order_v (a b : Mk) (v : Int) (hv : Hid (ord a b = v)) (w : World) : Calls Try.prog 30 #[.agg #[.int .i64 a.id, .int .i64 a.fr, .int .i64 a.to, .int .i64 a.pr], .agg #[.int .i64 b.id, .int .i64 b.fr, .int .i64 b.to, .int .i64 b.pr]] w
    fun e w' => e = .returned (.int .i64 v) ∧ Below w.heap.size w w' := by
  have h := hv.out; subst h; exact order_any a b w

/-- What cut answers. -/
def CutPost (m : Mk) (t : TR) (W : World) (e : Ending) (W' : World) : Prop :=
  e = .returned (.tuple #[.pointer (cutT t m).1.root, .pointer (cutT t m).2.root]) ∧ InW W' (cutT t m).1 ∧ InW W' (cutT t m).2 ∧ Chg t.blocks W W'

set_option maxHeartbeats 2000000 in
theorem cut_any (m : Mk) (t : TR) : ∀ W, InW W t → t.blocks.Nodup → Calls Try.prog 46 #[.pointer t.root, .agg #[.int .i64 m.id, .int .i64 m.fr, .int .i64 m.to, .int .i64 m.pr]] W (CutPost m t W) := by
  induction t with
  | nil =>
    intro W _ _
    show Calls Try.prog 46 #[.pointer none, _] W _
    go_enter Try.func46, Try.ntmps46
    go_wp2
    go_ret2
    exact ⟨rfl, trivial, trivial, Chg.of_below ((Below.refl _ _).alloc (Nat.le_refl _) _)⟩
  | node g a l r hl hr =>
    intro W hin hnd
    obtain ⟨h1, h2, h3⟩ := hin
    have hg := heap_lt h1
    obtain ⟨z0, z1, z2, z3, z4, z5⟩ := ncs_cells h1
    have HL := Lib.hid hl
    have HR := Lib.hid hr
    have H1 := Lib.hid h1
    clear hl hr h1
    have hnd' := hnd
    simp only [TR.blocks, List.nodup_cons, List.mem_append, not_or, List.nodup_append] at hnd'
    obtain ⟨⟨n1, n2⟩, n3, n4, n5⟩ := hnd'
    obtain ⟨v, Hv⟩ : ∃ v, Hid (ord a m = v) := ⟨_, rfl⟩
    show Calls Try.prog 46 #[.pointer (some ⟨g, 0, none⟩), _] W _
    by_cases hlt : lt a m = true
    · have hv : v < 0 := by have h := Hv.out; unfold ord at h; rw [if_pos hlt] at h; omega
      go_enter Try.func46, Try.ntmps46
      go_wp2
      go_region_held3 (fun w' => w'.cell? ⟨g, 0, none⟩ = some (.int .i64 a.id) ∧ w'.cell? ⟨g, 1, none⟩ = some (.int .i64 a.fr) ∧ w'.cell? ⟨g, 2, none⟩ = some (.int .i64 a.to) ∧ w'.cell? ⟨g, 3, none⟩ = some (.int .i64 a.pr) ∧ w'.cell? ⟨W.heap.size, 0, none⟩ = some (.int .i64 m.id) ∧ w'.cell? ⟨W.heap.size, 1, none⟩ = some (.int .i64 m.fr) ∧ w'.cell? ⟨W.heap.size, 2, none⟩ = some (.int .i64 m.to) ∧ w'.cell? ⟨W.heap.size, 3, none⟩ = some (.int .i64 m.pr)) (simp [go_sem, World.cell?_alloc_past, *])
        (first
          | (go_at_call 30; (with_reducible refine (order_v a m v Hv _).mono ?_); rintro e w1 ⟨rfl, hb1⟩; have hcl1 := cells_of hb1; have hz1 : W.heap.size < w1.heap.size := (by have hz := hb1.size; (try simp at hz); omega); have hzg : g < w1.heap.size := (by omega); have HB_w1 : Below W.heap.size W w1 := Below.trans (by repeat (first | exact Below.refl _ _ | refine Below.drew ?_ | refine Below.alloc ?_ (Nat.le_refl _) _)) (hb1.mono (by first | omega | (simp <;> omega))); clear hb1))
      go_wp2
      have y4 : w1.cell? ⟨g, 4, none⟩ = some (.pointer l.root) := (HB_w1.cell (p := ⟨g, 4, none⟩) hg).trans z4
      have y5 : w1.cell? ⟨g, 5, none⟩ = some (.pointer r.root) := (HB_w1.cell (p := ⟨g, 5, none⟩) hg).trans z5
      have hb : w1.cell? ⟨W.heap.size, 0, none⟩ = some (.int .i64 m.id) ∧ w1.cell? ⟨W.heap.size, 1, none⟩ = some (.int .i64 m.fr) ∧ w1.cell? ⟨W.heap.size, 2, none⟩ = some (.int .i64 m.to) ∧ w1.cell? ⟨W.heap.size, 3, none⟩ = some (.int .i64 m.pr) := by
        refine ⟨?_, ?_, ?_, ?_⟩ <;> simp [go_sem, *]
      obtain ⟨b0, b1, b2, b3⟩ := hb
      have HG1 := Lib.hid ((HB_w1.block g hg).trans H1.out)
      have L1 : InW w1 l := h2.chg (F := []) (Chg.of_below HB_w1) (by simp)
      have R1 : InW w1 r := h3.chg (F := []) (Chg.of_below HB_w1) (by simp)
      clear hcl1 z0 z1 z2 z3 z4 z5
      go_region_with ((go_at_call 46; (with_reducible refine (HR.out _ R1.drew n4).mono ?_); rintro e w2 ⟨rfl, hx1, hx2, hc2⟩; have G2 : w2.heap[g]? = some (.cells (ncs a (.pointer l.root) (.pointer r.root)) 62 (0, 0)) := (hc2.block g (Nat.lt_of_lt_of_le hg HB_w1.size) n2).trans HG1.out; have q4 := (ncs_cells G2).2.2.2.2.1; have q5 := (ncs_cells G2).2.2.2.2.2; have f4 := ncs_free G2 4; have f5 := ncs_free G2 5; have HG2 := Lib.hid G2; clear G2; have HC2 := Lib.hid hc2; clear hc2))
      all_goals
        go_wp2
        go_ret2
        have C2 := HC2.out
        have L2 : InW w2 l := L1.chg (F := r.blocks) ((Chg.refl r.blocks w1).drew.trans C2) fun k hk hr => n5 k hk k hr rfl
        refine ⟨?_, ?_, ?_, ?_⟩
        · simp [cutT, hlt, TR.root]
        · simp only [cutT, hlt, if_true]
          exact set_right HG2.out L2 hx1 n1 fun h => n2 (cut_sub1 r m g h)
        · simp only [cutT, hlt, if_true]
          exact hx2.setCell (fun h => n2 (cut_sub2 r m g h)) _ _
        · exact (((Chg.of_below HB_w1).drew.trans (C2.mono fun k hk _ => by simp [TR.blocks, hk]))).setCell (.inl (by simp [TR.blocks])) _
    · have hv : ¬ v < 0 := by have h := Hv.out; unfold ord at h; rw [if_neg hlt] at h; (split at h <;> omega)
      go_enter Try.func46, Try.ntmps46
      go_wp2
      go_region_held3 (fun w' => w'.cell? ⟨g, 0, none⟩ = some (.int .i64 a.id) ∧ w'.cell? ⟨g, 1, none⟩ = some (.int .i64 a.fr) ∧ w'.cell? ⟨g, 2, none⟩ = some (.int .i64 a.to) ∧ w'.cell? ⟨g, 3, none⟩ = some (.int .i64 a.pr) ∧ w'.cell? ⟨W.heap.size, 0, none⟩ = some (.int .i64 m.id) ∧ w'.cell? ⟨W.heap.size, 1, none⟩ = some (.int .i64 m.fr) ∧ w'.cell? ⟨W.heap.size, 2, none⟩ = some (.int .i64 m.to) ∧ w'.cell? ⟨W.heap.size, 3, none⟩ = some (.int .i64 m.pr)) (simp [go_sem, World.cell?_alloc_past, *])
        (first
          | (go_at_call 30; (with_reducible refine (order_v a m v Hv _).mono ?_); rintro e w1 ⟨rfl, hb1⟩; have hcl1 := cells_of hb1; have hz1 : W.heap.size < w1.heap.size := (by have hz := hb1.size; (try simp at hz); omega); have hzg : g < w1.heap.size := (by omega); have HB_w1 : Below W.heap.size W w1 := Below.trans (by repeat (first | exact Below.refl _ _ | refine Below.drew ?_ | refine Below.alloc ?_ (Nat.le_refl _) _)) (hb1.mono (by first | omega | (simp <;> omega))); clear hb1))
      go_wp2
      have y4 : w1.cell? ⟨g, 4, none⟩ = some (.pointer l.root) := (HB_w1.cell (p := ⟨g, 4, none⟩) hg).trans z4
      have y5 : w1.cell? ⟨g, 5, none⟩ = some (.pointer r.root) := (HB_w1.cell (p := ⟨g, 5, none⟩) hg).trans z5
      have hb : w1.cell? ⟨W.heap.size, 0, none⟩ = some (.int .i64 m.id) ∧ w1.cell? ⟨W.heap.size, 1, none⟩ = some (.int .i64 m.fr) ∧ w1.cell? ⟨W.heap.size, 2, none⟩ = some (.int .i64 m.to) ∧ w1.cell? ⟨W.heap.size, 3, none⟩ = some (.int .i64 m.pr) := by
        refine ⟨?_, ?_, ?_, ?_⟩ <;> simp [go_sem, *]
      obtain ⟨b0, b1, b2, b3⟩ := hb
      have HG1 := Lib.hid ((HB_w1.block g hg).trans H1.out)
      have L1 : InW w1 l := h2.chg (F := []) (Chg.of_below HB_w1) (by simp)
      have R1 : InW w1 r := h3.chg (F := []) (Chg.of_below HB_w1) (by simp)
      clear hcl1 z0 z1 z2 z3 z4 z5
      go_region_with ((go_at_call 46; (with_reducible refine (HL.out _ L1.drew n3).mono ?_); rintro e w2 ⟨rfl, hx1, hx2, hc2⟩; have G2 : w2.heap[g]? = some (.cells (ncs a (.pointer l.root) (.pointer r.root)) 62 (0, 0)) := (hc2.block g (Nat.lt_of_lt_of_le hg HB_w1.size) n1).trans HG1.out; have q4 := (ncs_cells G2).2.2.2.2.1; have q5 := (ncs_cells G2).2.2.2.2.2; have f4 := ncs_free G2 4; have f5 := ncs_free G2 5; have HG2 := Lib.hid G2; clear G2; have HC2 := Lib.hid hc2; clear hc2))
      all_goals
        go_wp2
        go_ret2
        have C2 := HC2.out
        have R2 : InW w2 r := R1.chg (F := l.blocks) ((Chg.refl l.blocks w1).drew.trans C2) fun k hk hr => n5 k hr k hk rfl
        refine ⟨?_, ?_, ?_, ?_⟩
        · simp [cutT, hlt, TR.root]
        · simp only [cutT, hlt]
          exact hx1.setCell (fun h => n1 (cut_sub1 l m g h)) _ _
        · simp only [cutT, hlt]
          exact set_left HG2.out R2 hx2 n2 fun h => n1 (cut_sub2 l m g h)
        · exact (((Chg.of_below HB_w1).drew.trans (C2.mono fun k hk _ => by simp [TR.blocks, hk]))).setCell (.inl (by simp [TR.blocks])) _
end Go.Proofs.Ytkibhinpbpgkeaa

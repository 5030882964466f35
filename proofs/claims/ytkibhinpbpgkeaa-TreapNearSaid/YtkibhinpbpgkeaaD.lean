/- The walks of take and put. -/
import Derived.Test.YtkibhinpbpgkeaaC
namespace Go.Proofs.Ytkibhinpbpgkeaa
open Go.RowKit

theorem ord_same {a b : Mk} (h : same3 a b = true) : ord a b = 0 := by
  simp only [same3, Bool.and_eq_true, Bool.not_eq_true'] at h
  simp [ord, h.1, h.2]
theorem ord_lt {a b : Mk} (h : lt a b = true) : ord a b = -1 := by simp [ord, h]
theorem ord_gt {a b : Mk} (h : lt a b = false) (k : same3 a b = false) : ord a b = 1 := by
  simp [same3, h] at k
  simp [ord, h, k]
theorem not_same_lt {a b : Mk} (h : lt a b = true) : same3 a b = false := by simp [same3, h]

/-- What take answers. -/
def TakePost (m : Mk) (t : TR) (W : World) (e : Ending) (W' : World) : Prop :=
  e = .returned (.pointer (takeT t m).root) ∧ InW W' (takeT t m) ∧ Chg t.blocks W W'

set_option maxHeartbeats 2000000 in
theorem take_any (m : Mk) (t : TR) : ∀ W, InW W t → t.blocks.Nodup → Srt t → m ∈ t.list → Calls Try.prog 28 #[.pointer t.root, .agg #[.int .i64 m.id, .int .i64 m.fr, .int .i64 m.to, .int .i64 m.pr]] W (TakePost m t W) := by
  induction t with
  | nil => intro W _ _ _ hm; cases hm
  | node g a l r hl hr =>
    intro W hin hnd hsrt hmem
    obtain ⟨sl, sr, s1, s2, _⟩ := srt_node hsrt
    simp only [TR.list, List.mem_append, List.mem_cons] at hmem
    obtain ⟨h1, h2, h3⟩ := hin
    have hg := heap_lt h1
    obtain ⟨z0, z1, z2, z3, z4, z5⟩ := ncs_cells h1
    have HL := Lib.hid hl
    have HR := Lib.hid hr
    have H1 := Lib.hid h1
    clear hl hr h1
    have hnd' := hnd
    simp only [TR.blocks, List.nodup_cons, List.mem_append, not_or, List.nodup_append] at hnd'
    obtain ⟨⟨n1, n2⟩, n3, n4, n5⟩ := hnd'
    show Calls Try.prog 28 #[.pointer (some ⟨g, 0, none⟩), _] W _
    by_cases hsame : same3 m a = true
    · have Hv : Hid (ord m a = 0) := ord_same hsame
      clear hmem s1 s2
      go_enter Try.func28, Try.ntmps28
      go_wp2
      go_region_held3 (fun w' => w'.cell? ⟨g, 0, none⟩ = some (.int .i64 a.id) ∧ w'.cell? ⟨g, 1, none⟩ = some (.int .i64 a.fr) ∧ w'.cell? ⟨g, 2, none⟩ = some (.int .i64 a.to) ∧ w'.cell? ⟨g, 3, none⟩ = some (.int .i64 a.pr) ∧ w'.cell? ⟨W.heap.size, 0, none⟩ = some (.int .i64 m.id) ∧ w'.cell? ⟨W.heap.size, 1, none⟩ = some (.int .i64 m.fr) ∧ w'.cell? ⟨W.heap.size, 2, none⟩ = some (.int .i64 m.to) ∧ w'.cell? ⟨W.heap.size, 3, none⟩ = some (.int .i64 m.pr)) (simp [go_sem, World.cell?_alloc_past, *])
        (first
          | (go_at_call 30; (with_reducible refine (order_v m a 0 Hv _).mono ?_); rintro e w1 ⟨rfl, hb1⟩; have hcl1 := cells_of hb1; have hz1 : W.heap.size < w1.heap.size := (by have hz := hb1.size; (try simp at hz); omega); have hzg : g < w1.heap.size := (by omega); have HB_w1 : Below W.heap.size W w1 := Below.trans (by repeat (first | exact Below.refl _ _ | refine Below.drew ?_ | refine Below.alloc ?_ (Nat.le_refl _) _)) (hb1.mono (by first | omega | (simp <;> omega))); clear hb1))
      go_wp2
      have y4 : w1.cell? ⟨g, 4, none⟩ = some (.pointer l.root) := (HB_w1.cell (p := ⟨g, 4, none⟩) hg).trans z4
      have y5 : w1.cell? ⟨g, 5, none⟩ = some (.pointer r.root) := (HB_w1.cell (p := ⟨g, 5, none⟩) hg).trans z5
      have hb : w1.cell? ⟨W.heap.size, 0, none⟩ = some (.int .i64 m.id) ∧ w1.cell? ⟨W.heap.size, 1, none⟩ = some (.int .i64 m.fr) ∧ w1.cell? ⟨W.heap.size, 2, none⟩ = some (.int .i64 m.to) ∧ w1.cell? ⟨W.heap.size, 3, none⟩ = some (.int .i64 m.pr) := by
        refine ⟨?_, ?_, ?_, ?_⟩ <;> simp [go_sem, *]
      obtain ⟨b0, b1, b2, b3⟩ := hb
      have HG1 := Lib.hid ((HB_w1.block g hg).trans H1.out)
      have L1 : InW w1 l := h2.chg (F := []) (Chg.of_below HB_w1) (by simp)
      have R1 : InW w1 r := h3.chg (F := []) (Chg.of_below HB_w1) (by simp)
      clear hcl1 z0 z1 z2 z3 z4 z5
      have HJ : Hid (∀ W, InW W l → InW W r → Calls Try.prog 47 #[.pointer l.root, .pointer r.root] W (JoinPost l r W)) := fun W i1 i2 => join_any _ l r W (Nat.le_refl _) i1 i2 (List.nodup_append.2 ⟨n3, n4, n5⟩)
      go_region_with ((go_at_call 47; (with_reducible refine (HJ.out _ L1.drew R1.drew).mono ?_); rintro e w2 ⟨rfl, hx1, hc2⟩; have HC2 := Lib.hid hc2; clear hc2))
      all_goals
        go_wp2
        go_ret
        refine ⟨?_, ?_, ?_⟩
        · simp only [takeT, hsame, if_true]; rfl
        · simp only [takeT, hsame, if_true]
          exact hx1
        · exact (Chg.of_below HB_w1).drew.trans (HC2.out.mono fun k hk _ => by simp only [TR.blocks]; exact List.mem_cons_of_mem _ hk)
    · by_cases hlt : lt m a = true
      · have hml : m ∈ l.list := by
          rcases hmem with h | h | h
          · exact h
          · subst h; rw [lt_irrefl] at hlt; cases hlt
          · have := lt_asymm (s2 m h); rw [hlt] at this; cases this
        have Hv : Hid (ord m a = -1) := ord_lt hlt
        clear hmem s1 s2
        go_enter Try.func28, Try.ntmps28
        go_wp2
        go_region_held3 (fun w' => w'.cell? ⟨g, 0, none⟩ = some (.int .i64 a.id) ∧ w'.cell? ⟨g, 1, none⟩ = some (.int .i64 a.fr) ∧ w'.cell? ⟨g, 2, none⟩ = some (.int .i64 a.to) ∧ w'.cell? ⟨g, 3, none⟩ = some (.int .i64 a.pr) ∧ w'.cell? ⟨W.heap.size, 0, none⟩ = some (.int .i64 m.id) ∧ w'.cell? ⟨W.heap.size, 1, none⟩ = some (.int .i64 m.fr) ∧ w'.cell? ⟨W.heap.size, 2, none⟩ = some (.int .i64 m.to) ∧ w'.cell? ⟨W.heap.size, 3, none⟩ = some (.int .i64 m.pr)) (simp [go_sem, World.cell?_alloc_past, *])
          (first
            | (go_at_call 30; (with_reducible refine (order_v m a (-1) Hv _).mono ?_); rintro e w1 ⟨rfl, hb1⟩; have hcl1 := cells_of hb1; have hz1 : W.heap.size < w1.heap.size := (by have hz := hb1.size; (try simp at hz); omega); have hzg : g < w1.heap.size := (by omega); have HB_w1 : Below W.heap.size W w1 := Below.trans (by repeat (first | exact Below.refl _ _ | refine Below.drew ?_ | refine Below.alloc ?_ (Nat.le_refl _) _)) (hb1.mono (by first | omega | (simp <;> omega))); clear hb1))
        go_wp2
        have y4 : w1.cell? ⟨g, 4, none⟩ = some (.pointer l.root) := (HB_w1.cell (p := ⟨g, 4, none⟩) hg).trans z4
        have y5 : w1.cell? ⟨g, 5, none⟩ = some (.pointer r.root) := (HB_w1.cell (p := ⟨g, 5, none⟩) hg).trans z5
        have hb : w1.cell? ⟨W.heap.size, 0, none⟩ = some (.int .i64 m.id) ∧ w1.cell? ⟨W.heap.size, 1, none⟩ = some (.int .i64 m.fr) ∧ w1.cell? ⟨W.heap.size, 2, none⟩ = some (.int .i64 m.to) ∧ w1.cell? ⟨W.heap.size, 3, none⟩ = some (.int .i64 m.pr) := by
          refine ⟨?_, ?_, ?_, ?_⟩ <;> simp [go_sem, *]
        obtain ⟨b0, b1, b2, b3⟩ := hb
        have HG1 := Lib.hid ((HB_w1.block g hg).trans H1.out)
        have L1 : InW w1 l := h2.chg (F := []) (Chg.of_below HB_w1) (by simp)
        have R1 : InW w1 r := h3.chg (F := []) (Chg.of_below HB_w1) (by simp)
        clear hcl1 z0 z1 z2 z3 z4 z5
        go_region_with ((go_at_call 28; (with_reducible refine (HL.out _ L1.drew n3 sl hml).mono ?_); rintro e w2 ⟨rfl, hx1, hc2⟩; have G2 : w2.heap[g]? = some (.cells (ncs a (.pointer l.root) (.pointer r.root)) 62 (0, 0)) := (hc2.block g (Nat.lt_of_lt_of_le hg HB_w1.size) n1).trans HG1.out; have q4 := (ncs_cells G2).2.2.2.2.1; have q5 := (ncs_cells G2).2.2.2.2.2; have f4 := ncs_free G2 4; have f5 := ncs_free G2 5; have HG2 := Lib.hid G2; clear G2; have HC2 := Lib.hid hc2; clear hc2))
        all_goals
          go_wp2
          go_ret
          have C2 := HC2.out
          have R2 : InW w2 r := R1.chg (F := l.blocks) ((Chg.refl l.blocks w1).drew.trans C2) fun k hk hr => n5 k hr k hk rfl
          refine ⟨?_, ?_, ?_⟩
          · simp [takeT, hsame, hlt, TR.root]
          · simp only [takeT, hsame, hlt, if_true]
            exact set_left HG2.out R2 hx1 n2 fun h => n1 (take_blocks l m g h)
          · exact (((Chg.of_below HB_w1).drew.trans (C2.mono fun k hk _ => by simp [TR.blocks, hk]))).setCell (.inl (by simp [TR.blocks])) _
      · have hlt' : lt m a = false := by simpa using hlt
        have hsame' : same3 m a = false := by simpa using hsame
        have hmr : m ∈ r.list := by
          rcases hmem with h | h | h
          · have h1 := s1 m h; rw [hlt'] at h1; cases h1
          · subst h; rw [same3_self] at hsame'; cases hsame'
          · exact h
        have Hv : Hid (ord m a = 1) := ord_gt hlt' hsame'
        clear hmem s1 s2
        go_enter Try.func28, Try.ntmps28
        go_wp2
        go_region_held3 (fun w' => w'.cell? ⟨g, 0, none⟩ = some (.int .i64 a.id) ∧ w'.cell? ⟨g, 1, none⟩ = some (.int .i64 a.fr) ∧ w'.cell? ⟨g, 2, none⟩ = some (.int .i64 a.to) ∧ w'.cell? ⟨g, 3, none⟩ = some (.int .i64 a.pr) ∧ w'.cell? ⟨W.heap.size, 0, none⟩ = some (.int .i64 m.id) ∧ w'.cell? ⟨W.heap.size, 1, none⟩ = some (.int .i64 m.fr) ∧ w'.cell? ⟨W.heap.size, 2, none⟩ = some (.int .i64 m.to) ∧ w'.cell? ⟨W.heap.size, 3, none⟩ = some (.int .i64 m.pr)) (simp [go_sem, World.cell?_alloc_past, *])
          (first
            | (go_at_call 30; (with_reducible refine (order_v m a 1 Hv _).mono ?_); rintro e w1 ⟨rfl, hb1⟩; have hcl1 := cells_of hb1; have hz1 : W.heap.size < w1.heap.size := (by have hz := hb1.size; (try simp at hz); omega); have hzg : g < w1.heap.size := (by omega); have HB_w1 : Below W.heap.size W w1 := Below.trans (by repeat (first | exact Below.refl _ _ | refine Below.drew ?_ | refine Below.alloc ?_ (Nat.le_refl _) _)) (hb1.mono (by first | omega | (simp <;> omega))); clear hb1))
        go_wp2
        have y4 : w1.cell? ⟨g, 4, none⟩ = some (.pointer l.root) := (HB_w1.cell (p := ⟨g, 4, none⟩) hg).trans z4
        have y5 : w1.cell? ⟨g, 5, none⟩ = some (.pointer r.root) := (HB_w1.cell (p := ⟨g, 5, none⟩) hg).trans z5
        have hb : w1.cell? ⟨W.heap.size, 0, none⟩ = some (.int .i64 m.id) ∧ w1.cell? ⟨W.heap.size, 1, none⟩ = some (.int .i64 m.fr) ∧ w1.cell? ⟨W.heap.size, 2, none⟩ = some (.int .i64 m.to) ∧ w1.cell? ⟨W.heap.size, 3, none⟩ = some (.int .i64 m.pr) := by
          refine ⟨?_, ?_, ?_, ?_⟩ <;> simp [go_sem, *]
        obtain ⟨b0, b1, b2, b3⟩ := hb
        have HG1 := Lib.hid ((HB_w1.block g hg).trans H1.out)
        have L1 : InW w1 l := h2.chg (F := []) (Chg.of_below HB_w1) (by simp)
        have R1 : InW w1 r := h3.chg (F := []) (Chg.of_below HB_w1) (by simp)
        clear hcl1 z0 z1 z2 z3 z4 z5
        go_region_with ((go_at_call 28; (with_reducible refine (HR.out _ R1.drew n4 sr hmr).mono ?_); rintro e w2 ⟨rfl, hx1, hc2⟩; have G2 : w2.heap[g]? = some (.cells (ncs a (.pointer l.root) (.pointer r.root)) 62 (0, 0)) := (hc2.block g (Nat.lt_of_lt_of_le hg HB_w1.size) n2).trans HG1.out; have q4 := (ncs_cells G2).2.2.2.2.1; have q5 := (ncs_cells G2).2.2.2.2.2; have f4 := ncs_free G2 4; have f5 := ncs_free G2 5; have HG2 := Lib.hid G2; clear G2; have HC2 := Lib.hid hc2; clear hc2))
        all_goals
          go_wp2
          go_ret
          have C2 := HC2.out
          have L2 : InW w2 l := L1.chg (F := r.blocks) ((Chg.refl r.blocks w1).drew.trans C2) fun k hk hr => n5 k hk k hr rfl
          refine ⟨?_, ?_, ?_⟩
          · simp [takeT, hsame', hlt', TR.root]
          · simp only [takeT, hsame', hlt']
            exact set_right HG2.out L2 hx1 n1 fun h => n2 (take_blocks r m g h)
          · exact (((Chg.of_below HB_w1).drew.trans (C2.mono fun k hk _ => by simp [TR.blocks, hk]))).setCell (.inl (by simp [TR.blocks])) _
end Go.Proofs.Ytkibhinpbpgkeaa

/- A table whose length stands apart: what lay and Splice turn in it. -/
import Derived.Test.YtpfceochplghlaaK
namespace Go.Proofs.Ytpfceochplghlaa
open Go.RowKit

theorem Rds.chg {F : List Nat} {W w : World} {B z n : Nat} {A : Option Addr} {xs : List Value} (h : Rds W B z A n xs) (hB : B ≤ W.heap.size) (hc : Chg F W w) (hF : ∀ g ∈ blk A, g ∉ F) : Rds w B z A n xs :=
  ⟨h.1, fun j hj => by
    obtain ⟨ad, e, hb, hv⟩ := h.2 j hj
    refine ⟨ad, e, hb, (World.cell?_of_block ?_).trans hv⟩
    rw [block_add']
    exact hc.block _ (by omega) (hF _ (by rw [e]; simp [blk]))⟩
/-- Signs behind some pieces: in the last one, or in one of their own. -/
def extP (A : List Pc) (fr m : Nat) : List Pc :=
  if 0 < A.length ∧ (A.getD (A.length - 1) pc0).add = true ∧ (A.getD (A.length - 1) pc0).fr + (A.getD (A.length - 1) pc0).ln = fr
  then A.take (A.length - 1) ++ [⟨(A.getD (A.length - 1) pc0).add, (A.getD (A.length - 1) pc0).fr, (A.getD (A.length - 1) pc0).ln + m⟩] else A ++ [⟨true, fr, m⟩]
theorem pcs_set2 (L : List Pc) : ∀ k v, k < L.length → (pcs L).set (k * 3 + 2) (.int .i64 (v : Nat)) = pcs (L.take k ++ [⟨(L.getD k pc0).add, (L.getD k pc0).fr, v⟩] ++ L.drop (k + 1)) := by
  induction L with
  | nil => intro k v hk; simp at hk
  | cons p K ih =>
    intro k v hk
    cases k with
    | zero => simp [pcs]
    | succ k =>
      have h := ih k v (by simpa using hk)
      rw [show (k + 1) * 3 + 2 = k * 3 + 2 + 1 + 1 + 1 from by omega]
      simp only [pcs_cons, List.cons_append, List.nil_append, List.set_cons_succ, h, List.take_succ_cons, List.drop_succ_cons, List.getD_cons_succ]
theorem own_set2 {W : World} {n c k g : Nat} {L : List Pc} (h : W.ownsRow 0 53 3 (.slice (some ⟨g, 0, none⟩) n c) n (pcs L)) (hk : k < n) (v : Nat) : (W.setCell ⟨g, k * 3 + 2, none⟩ (.int .i64 v)).ownsRow 0 53 3 (.slice (some ⟨g, 0, none⟩) n c) n (pcs (L.take k ++ [⟨(L.getD k pc0).add, (L.getD k pc0).fr, v⟩] ++ L.drop (k + 1))) := by
  have hL : L.length = n := by have h1 := h.1; rw [pcs_len] at h1; omega
  rcases own_row h with ⟨_, h0, _⟩ | ⟨g', cur, e, hb, hg, hl, hnc, hm, ht⟩
  · omega
  · injection e with e
    injection e with e
    subst e
    have hs := heap_setCell_same W g (k * 3 + 2) cur.toArray 53 (.int .i64 v) hg
    refine own_mk (cur := cur.set (k * 3 + 2) (.int .i64 v)) hb (by simpa using hs) (by simpa using hl) hnc hm ?_
    rw [List.take_set, ht, pcs_set2 L k v (by omega)]

/-- The cells of a table at block t, its length apart. -/
structure TabL (W : World) (t : Nat) (A0 : Option Addr) (n0 c0 : Nat) (A1 : Option Addr) (n1 c1 : Nat) (A2 : Option Addr) (n2 c2 : Nat) (T : Tb) (l : Nat) : Prop where
  top : W.heap[t]? = some (.cells #[.slice A0 n0 c0, .slice A1 n1 c1, .slice A2 n2 c2, .int .i64 l] 59 (0, 0))
  r0 : W.ownsRow 0 21 1 (.slice A0 n0 c0) n0 (T.fst.map (Value.int .i32))
  r1 : W.ownsRow 0 21 1 (.slice A1 n1 c1) n1 (T.add.map (Value.int .i32))
  r2 : W.ownsRow 0 53 3 (.slice A2 n2 c2) n2 (pcs T.ps)
  nd : (t :: (blk A0 ++ blk A1 ++ blk A2)).Nodup
theorem nd_mid {t N : Nat} {A0 A1 A2 A3 : Option Addr} (h : (t :: (blk A0 ++ blk A1 ++ blk A2)).Nodup) (hl : ∀ g ∈ t :: (blk A0 ++ blk A1 ++ blk A2), g < N) (hf : ∀ g ∈ blk A3, g ∈ blk A1 ∨ N ≤ g) : (t :: (blk A0 ++ blk A3 ++ blk A2)).Nodup := by
  cases A0 <;> cases A1 <;> cases A2 <;> cases A3 <;> simp [blk] at h hl hf ⊢ <;> omega
theorem nd_last {t N : Nat} {A0 A1 A2 A3 : Option Addr} (h : (t :: (blk A0 ++ blk A1 ++ blk A2)).Nodup) (hl : ∀ g ∈ t :: (blk A0 ++ blk A1 ++ blk A2), g < N) (hf : ∀ g ∈ blk A3, g ∈ blk A2 ∨ N ≤ g) : (t :: (blk A0 ++ blk A1 ++ blk A3)).Nodup := by
  cases A0 <;> cases A1 <;> cases A2 <;> cases A3 <;> simp [blk] at h hl hf ⊢ <;> omega
section
variable {W w : World} {t n0 c0 n1 c1 n2 c2 l : Nat} {A0 A1 A2 : Option Addr} {T : Tb} {F G : List Nat}
theorem TabAt.toL (h : TabAt W t A0 n0 c0 A1 n1 c1 A2 n2 c2 T) : TabL W t A0 n0 c0 A1 n1 c1 A2 n2 c2 T (plen T.ps) := ⟨h.top, h.r0, h.r1, h.r2, h.nd⟩
theorem TabL.toAt (h : TabL W t A0 n0 c0 A1 n1 c1 A2 n2 c2 T l) (hl : l = plen T.ps) : TabAt W t A0 n0 c0 A1 n1 c1 A2 n2 c2 T := ⟨hl ▸ h.top, h.r0, h.r1, h.r2, h.nd⟩
theorem TabL.lt (h : TabL W t A0 n0 c0 A1 n1 c1 A2 n2 c2 T l) : ∀ g ∈ t :: (blk A0 ++ blk A1 ++ blk A2), g < W.heap.size := by
  intro g hg
  simp only [List.mem_cons, List.mem_append] at hg
  rcases hg with rfl | (hg | hg) | hg
  · exact (Array.getElem?_eq_some_iff.1 h.top).1
  · exact blk_lt h.r0 g hg
  · exact blk_lt h.r1 g hg
  · exact blk_lt h.r2 g hg
theorem TabL.chg (h : TabL W t A0 n0 c0 A1 n1 c1 A2 n2 c2 T l) (hc : Chg G W w) (hn : ∀ g ∈ t :: (blk A0 ++ blk A1 ++ blk A2), g ∉ G) : TabL w t A0 n0 c0 A1 n1 c1 A2 n2 c2 T l where
  top := (hc.block t (h.lt t (by simp)) (hn t (by simp))).trans h.top
  r0 := own_keep h.r0 hc fun g hg => hn g (by simp [hg])
  r1 := own_keep h.r1 hc fun g hg => hn g (by simp [hg])
  r2 := own_keep h.r2 hc fun g hg => hn g (by simp [hg])
  nd := h.nd
theorem TabL.below (h : TabL W t A0 n0 c0 A1 n1 c1 A2 n2 c2 T l) (hb : Below W.heap.size W w) : TabL w t A0 n0 c0 A1 n1 c1 A2 n2 c2 T l := h.chg (Chg.of_below (F := []) hb) (by simp)
theorem TabL.cells (h : TabL W t A0 n0 c0 A1 n1 c1 A2 n2 c2 T l) : W.cell? ⟨t, 0, none⟩ = some (.slice A0 n0 c0) ∧ W.cell? ⟨t, 1, none⟩ = some (.slice A1 n1 c1) ∧ W.cell? ⟨t, 2, none⟩ = some (.slice A2 n2 c2) ∧ W.cell? ⟨t, 3, none⟩ = some (.int .i64 l) :=
  ⟨cell_of_row W t 0 _ _ _ h.top, cell_of_row W t 1 _ _ _ h.top, cell_of_row W t 2 _ _ _ h.top, cell_of_row W t 3 _ _ _ h.top⟩
theorem TabL.free (h : TabL W t A0 n0 c0 A1 n1 c1 A2 n2 c2 T l) (j : Nat) : W.frozen? ⟨t, j, none⟩ = false := frozen_of_row W t j _ _ h.top
theorem TabL.lens (h : TabL W t A0 n0 c0 A1 n1 c1 A2 n2 c2 T l) : T.fst.length = n0 ∧ T.add.length = n1 ∧ T.ps.length = n2 := by
  have a := h.r0.1
  have b := h.r1.1
  have c := h.r2.1
  rw [pcs_len] at c
  simp at a b
  omega
/-- No block is another's. -/
theorem TabL.apart (h : TabL W t A0 n0 c0 A1 n1 c1 A2 n2 c2 T l) : (∀ g ∈ blk A0, g ≠ t ∧ g ∉ blk A1 ∧ g ∉ blk A2) ∧ (∀ g ∈ blk A1, g ≠ t ∧ g ∉ blk A2) ∧ ∀ g ∈ blk A2, g ≠ t ∧ g ∉ blk A1 := by
  have h := h.nd
  cases A0 <;> cases A1 <;> cases A2 <;> simp [blk] at h ⊢ <;> omega
/-- The added text has grown. -/
theorem TabL.added (h : TabL W t A0 n0 c0 A1 n1 c1 A2 n2 c2 T l) {A3 : Option Addr} {n3 c3 : Nat} {xs : List Int} (hc : Chg (blk A1) W w) (ho : w.ownsRow 0 21 1 (.slice A3 n3 c3) n3 (xs.map (Value.int .i32)))
    (hf : ∀ g ∈ blk A3, g ∈ blk A1 ∨ W.heap.size ≤ g) : TabL (w.setCell ⟨t, 1, none⟩ (.slice A3 n3 c3)) t A0 n0 c0 A3 n3 c3 A2 n2 c2 ⟨T.fst, xs, T.ps⟩ l := by
  obtain ⟨a0, a1, a2⟩ := h.apart
  have hlt := h.lt
  have ht := hlt t (by simp)
  have hc2 : Chg (t :: blk A1) W (w.setCell ⟨t, 1, none⟩ (.slice A3 n3 c3)) := (hc.mono (G := t :: blk A1) fun k hk _ => by simp [hk]).setCell (.inl (by simp)) _
  refine ⟨?_, own_keep h.r0 hc2 fun g hg => by have := a0 g hg; simp; exact ⟨this.1, this.2.1⟩, ?_, own_keep h.r2 hc2 fun g hg => by have := a2 g hg; simp; exact this, nd_mid h.nd hlt hf⟩
  · exact heap_setCell_same w t 1 _ _ _ ((hc.block t ht fun hm => (a1 t hm).1 rfl).trans h.top)
  · refine own_keep ho ((Chg.refl [t] w).setCell (p := ⟨t, 1, none⟩) (.inl (by simp)) _) fun g hg => ?_
    rcases hf g hg with h1 | h1
    · simpa using (a1 g h1).1
    · simp; omega
/-- Other pieces. -/
theorem TabL.pieces (h : TabL W t A0 n0 c0 A1 n1 c1 A2 n2 c2 T l) {A3 : Option Addr} {n3 c3 : Nat} {L : List Pc} (hc : Chg (blk A2) W w) (ho : w.ownsRow 0 53 3 (.slice A3 n3 c3) n3 (pcs L))
    (hf : ∀ g ∈ blk A3, g ∈ blk A2 ∨ W.heap.size ≤ g) : TabL (w.setCell ⟨t, 2, none⟩ (.slice A3 n3 c3)) t A0 n0 c0 A1 n1 c1 A3 n3 c3 ⟨T.fst, T.add, L⟩ l := by
  obtain ⟨a0, a1, a2⟩ := h.apart
  have hlt := h.lt
  have ht := hlt t (by simp)
  have hc2 : Chg (t :: blk A2) W (w.setCell ⟨t, 2, none⟩ (.slice A3 n3 c3)) := (hc.mono (G := t :: blk A2) fun k hk _ => by simp [hk]).setCell (.inl (by simp)) _
  refine ⟨?_, own_keep h.r0 hc2 fun g hg => by have := a0 g hg; simp; exact ⟨this.1, this.2.2⟩, own_keep h.r1 hc2 fun g hg => by have := a1 g hg; simp; exact this, ?_, nd_last h.nd hlt hf⟩
  · exact heap_setCell_same w t 2 _ _ _ ((hc.block t ht fun hm => (a2 t hm).1 rfl).trans h.top)
  · refine own_keep ho ((Chg.refl [t] w).setCell (p := ⟨t, 2, none⟩) (.inl (by simp)) _) fun g hg => ?_
    rcases hf g hg with h1 | h1
    · simpa using (a2 g h1).1
    · simp; omega
/-- A piece's length. -/
theorem TabL.longer {g k : Nat} (h : TabL W t A0 n0 c0 A1 n1 c1 (some ⟨g, 0, none⟩) n2 c2 T l) (hk : k < n2) (v : Nat) :
    TabL (W.setCell ⟨g, k * 3 + 2, none⟩ (.int .i64 v)) t A0 n0 c0 A1 n1 c1 (some ⟨g, 0, none⟩) n2 c2 ⟨T.fst, T.add, T.ps.take k ++ [⟨(T.ps.getD k pc0).add, (T.ps.getD k pc0).fr, v⟩] ++ T.ps.drop (k + 1)⟩ l := by
  obtain ⟨a0, a1, a2⟩ := h.apart
  have ht := h.lt t (by simp)
  have hc : Chg [g] W (W.setCell ⟨g, k * 3 + 2, none⟩ (.int .i64 v)) := (Chg.refl _ _).setCell (.inl (by simp)) _
  have hgt := (a2 g (by simp [blk])).1
  exact ⟨(hc.block t ht (by simpa using Ne.symm hgt)).trans h.top, own_keep h.r0 hc fun x hx => by simpa [blk] using (a0 x hx).2.2, own_keep h.r1 hc fun x hx => by simpa [blk] using (a1 x hx).2, own_set2 h.r2 hk v, h.nd⟩
/-- The length. -/
theorem TabL.len (h : TabL W t A0 n0 c0 A1 n1 c1 A2 n2 c2 T l) (k : Nat) : TabL (W.setCell ⟨t, 3, none⟩ (.int .i64 k)) t A0 n0 c0 A1 n1 c1 A2 n2 c2 T k := by
  obtain ⟨a0, a1, a2⟩ := h.apart
  have hc : Chg [t] W (W.setCell ⟨t, 3, none⟩ (.int .i64 k)) := (Chg.refl _ _).setCell (.inl (by simp)) _
  exact ⟨heap_setCell_same W t 3 _ _ _ h.top, own_keep h.r0 hc fun g hg => by simpa using (a0 g hg).1, own_keep h.r1 hc fun g hg => by simpa using (a1 g hg).1, own_keep h.r2 hc fun g hg => by simpa using (a2 g hg).1, h.nd⟩
end
/-- The block of what has grown. -/
theorem blk_own {N n c n' c' : Nat} {A A' : Option Addr} (h : (Value.slice A' n' c').ownBlock = (Value.slice A n c).ownBlock ∨ (Value.slice A' n' c').ownBlock = some N) : ∀ g ∈ blk A', g ∈ blk A ∨ N ≤ g := by
  intro g hg
  cases A' with
  | none => simp [blk] at hg
  | some a =>
    simp [blk] at hg
    subst hg
    cases A with
    | none => simp [Value.ownBlock] at h; right; omega
    | some b =>
      simp [Value.ownBlock] at h
      simp [blk]; omega
theorem Chg.of_grown {W w : World} {A : Option Addr} {n c : Nat} (h : W.grownBy w (Value.slice A n c).ownBlock) : Chg (blk A) W w :=
  (Chg.refl _ _).grown h fun k hk => by
    left
    cases A with
    | none => simp [Value.ownBlock] at hk
    | some a => simp [Value.ownBlock, blk] at hk ⊢; exact hk.symm
end Go.Proofs.Ytpfceochplghlaa

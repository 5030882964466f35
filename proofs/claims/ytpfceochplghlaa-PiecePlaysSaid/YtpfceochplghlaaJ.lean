/- A table in memory; the walks of Len, Added, there. -/
import Derived.Test.YtpfceochplghlaaH
import Derived.Test.YtpfceochplghlaaI
namespace Go.Proofs.Ytpfceochplghlaa
open Go.RowKit

/-- A table: the first text, the added one, the pieces. -/
structure Tb where
  fst : List Int
  add : List Int
  ps : List Pc
def plen (L : List Pc) : Nat := (L.map (·.ln)).sum
theorem plen_nil : plen [] = 0 := rfl
theorem plen_cons (p : Pc) (L : List Pc) : plen (p :: L) = p.ln + plen L := by simp [plen]
theorem plen_append (A B : List Pc) : plen (A ++ B) = plen A + plen B := by simp [plen]
def Tb.src (T : Tb) (b : Bool) : List Int := if b then T.add else T.fst
def Tb.pc (T : Tb) (p : Pc) : List Int := ((T.src p.add).drop p.fr).take p.ln
def Tb.text (T : Tb) : List Int := T.ps.flatMap T.pc
structure Tb.Ok (T : Tb) : Prop where
  pos : ∀ p ∈ T.ps, 0 < p.ln
  fits : ∀ p ∈ T.ps, p.fr + p.ln ≤ (T.src p.add).length
  len : plen T.ps ≤ 1000
  fst : T.fst.length ≤ 1000
  add : T.add.length ≤ 20000
theorem count_le {L : List Pc} (h : ∀ p ∈ L, 0 < p.ln) : L.length ≤ plen L := by
  induction L with
  | nil => exact Nat.le_refl _
  | cons p L ih =>
    have h1 := h p (by simp)
    have h2 := ih fun x hx => h x (by simp [hx])
    rw [plen_cons, List.length_cons]
    omega
/-- The cells of a table at block t. -/
structure TabAt (W : World) (t : Nat) (A0 : Option Addr) (n0 c0 : Nat) (A1 : Option Addr) (n1 c1 : Nat) (A2 : Option Addr) (n2 c2 : Nat) (T : Tb) : Prop where
  top : W.heap[t]? = some (.cells #[.slice A0 n0 c0, .slice A1 n1 c1, .slice A2 n2 c2, .int .i64 (plen T.ps : Nat)] 59 (0, 0))
  r0 : W.ownsRow 0 21 1 (.slice A0 n0 c0) n0 (T.fst.map (Value.int .i32))
  r1 : W.ownsRow 0 21 1 (.slice A1 n1 c1) n1 (T.add.map (Value.int .i32))
  r2 : W.ownsRow 0 53 3 (.slice A2 n2 c2) n2 (pcs T.ps)
  nd : (t :: (blk A0 ++ blk A1 ++ blk A2)).Nodup
/-- The table at block t, whose blocks are F. -/
def TabIn (W : World) (t : Nat) (F : List Nat) (T : Tb) : Prop :=
  ∃ A0 n0 c0 A1 n1 c1 A2 n2 c2, TabAt W t A0 n0 c0 A1 n1 c1 A2 n2 c2 T ∧ F = t :: (blk A0 ++ blk A1 ++ blk A2) ∧ T.Ok
section
variable {W w : World} {t n0 c0 n1 c1 n2 c2 : Nat} {A0 A1 A2 : Option Addr} {T : Tb} {F G : List Nat}
theorem blk_lt {base z n c : Nat} {e : TypeId} {A : Option Addr} {xs : List Value} (h : W.ownsRow base e z (.slice A n c) n xs) : ∀ g ∈ blk A, g < W.heap.size := by
  intro g hg
  cases A with
  | none => simp [blk] at hg
  | some a =>
    simp [blk] at hg
    subst hg
    exact (own_base h).2
theorem own_keep {base z n c : Nat} {e : TypeId} {A : Option Addr} {xs : List Value} (h : W.ownsRow base e z (.slice A n c) n xs) (hc : Chg G W w) (hn : ∀ g ∈ blk A, g ∉ G) : w.ownsRow base e z (.slice A n c) n xs := by
  refine ⟨h.1, ?_⟩
  rcases h.2 with h0 | ⟨g, cap, cur, hv, hb, hg, r⟩
  · exact .inl h0
  · injection hv with a1 a2 a3
    subst a1
    subst a3
    exact .inr ⟨g, _, cur, rfl, hb, (hc.block g (Array.getElem?_eq_some_iff.1 hg).1 (hn g (by simp [blk]))).trans hg, r⟩
theorem TabAt.lt (h : TabAt W t A0 n0 c0 A1 n1 c1 A2 n2 c2 T) : ∀ g ∈ t :: (blk A0 ++ blk A1 ++ blk A2), g < W.heap.size := by
  intro g hg
  simp only [List.mem_cons, List.mem_append] at hg
  rcases hg with rfl | (hg | hg) | hg
  · exact (Array.getElem?_eq_some_iff.1 h.top).1
  · exact blk_lt h.r0 g hg
  · exact blk_lt h.r1 g hg
  · exact blk_lt h.r2 g hg
theorem TabAt.chg (h : TabAt W t A0 n0 c0 A1 n1 c1 A2 n2 c2 T) (hc : Chg G W w) (hn : ∀ g ∈ t :: (blk A0 ++ blk A1 ++ blk A2), g ∉ G) : TabAt w t A0 n0 c0 A1 n1 c1 A2 n2 c2 T where
  top := (hc.block t (h.lt t (by simp)) (hn t (by simp))).trans h.top
  r0 := own_keep h.r0 hc fun g hg => hn g (by simp [hg])
  r1 := own_keep h.r1 hc fun g hg => hn g (by simp [hg])
  r2 := own_keep h.r2 hc fun g hg => hn g (by simp [hg])
  nd := h.nd
theorem TabAt.below (h : TabAt W t A0 n0 c0 A1 n1 c1 A2 n2 c2 T) (hb : Below W.heap.size W w) : TabAt w t A0 n0 c0 A1 n1 c1 A2 n2 c2 T := h.chg (Chg.of_below (F := []) hb) (by simp)
theorem TabAt.cells (h : TabAt W t A0 n0 c0 A1 n1 c1 A2 n2 c2 T) : W.cell? ⟨t, 0, none⟩ = some (.slice A0 n0 c0) ∧ W.cell? ⟨t, 1, none⟩ = some (.slice A1 n1 c1) ∧ W.cell? ⟨t, 2, none⟩ = some (.slice A2 n2 c2) ∧ W.cell? ⟨t, 3, none⟩ = some (.int .i64 (plen T.ps : Nat)) :=
  ⟨cell_of_row W t 0 _ _ _ h.top, cell_of_row W t 1 _ _ _ h.top, cell_of_row W t 2 _ _ _ h.top, cell_of_row W t 3 _ _ _ h.top⟩
theorem TabAt.free (h : TabAt W t A0 n0 c0 A1 n1 c1 A2 n2 c2 T) (j : Nat) : W.frozen? ⟨t, j, none⟩ = false := frozen_of_row W t j _ _ h.top
theorem TabAt.lens (h : TabAt W t A0 n0 c0 A1 n1 c1 A2 n2 c2 T) : T.fst.length = n0 ∧ T.add.length = n1 ∧ T.ps.length = n2 := by
  have a := h.r0.1
  have b := h.r1.1
  have c := h.r2.1
  rw [pcs_len] at c
  simp at a b
  omega
theorem TabIn.lt (h : TabIn W t F T) : ∀ g ∈ F, g < W.heap.size := by
  obtain ⟨A0, n0, c0, A1, n1, c1, A2, n2, c2, h, rfl, _⟩ := h
  exact h.lt
theorem TabIn.chg (h : TabIn W t F T) (hc : Chg G W w) (hn : ∀ g ∈ F, g ∉ G) : TabIn w t F T := by
  obtain ⟨A0, n0, c0, A1, n1, c1, A2, n2, c2, h, rfl, r⟩ := h
  exact ⟨A0, n0, c0, A1, n1, c1, A2, n2, c2, h.chg hc hn, rfl, r⟩
theorem TabIn.below (h : TabIn W t F T) (hb : Below W.heap.size W w) : TabIn w t F T := h.chg (Chg.of_below (F := []) hb) (by simp)
theorem TabIn.ok (h : TabIn W t F T) : T.Ok := by
  obtain ⟨A0, n0, c0, A1, n1, c1, A2, n2, c2, h, rfl, r⟩ := h
  exact r
end
theorem len_any (W : World) (t : Nat) (F : List Nat) (T : Tb) (v : Int) (hv : Hid ((plen T.ps : Int) = v)) (h : TabIn W t F T) : Calls Try.prog 13 #[.pointer (some ⟨t, 0, none⟩)] W fun e w' => e = .returned (.int .i64 v) ∧ W = w' := by
  obtain ⟨A0, n0, c0, A1, n1, c1, A2, n2, c2, h, rfl, _⟩ := h
  obtain ⟨_, _, _, z3⟩ := h.cells
  rw [hv.out] at z3
  clear h hv
  go_enter Try.func13, Try.ntmps13
  go_wp2
  go_ret
  exact ⟨rfl, rfl⟩
theorem len_none (W : World) : Calls Try.prog 13 #[.pointer none] W fun e w' => e = .returned (.int .i64 0) ∧ W = w' := by
  go_enter Try.func13, Try.ntmps13
  go_wp2
  go_ret
  exact ⟨rfl, rfl⟩
theorem added_any (W : World) (t : Nat) (F : List Nat) (T : Tb) (v : Int) (hv : Hid ((T.add.length : Int) = v)) (h : TabIn W t F T) : Calls Try.prog 14 #[.pointer (some ⟨t, 0, none⟩)] W fun e w' => e = .returned (.int .i64 v) ∧ W = w' := by
  obtain ⟨A0, n0, c0, A1, n1, c1, A2, n2, c2, h, rfl, _⟩ := h
  obtain ⟨_, z1, _, _⟩ := h.cells
  have hl := h.lens.2.1
  have hvn : (n1 : Int) = v := by rw [← hv.out, hl]
  have HV := Lib.hid hvn
  clear h hv hl hvn
  go_enter Try.func14, Try.ntmps14
  go_wp2
  go_ret
  exact ⟨ret_int HV.out, rfl⟩
/-- Do n signs stand from a place on? -/
def thereB (l : Nat) (a k : Int) : Bool := decide (0 ≤ a ∧ a ≤ l ∧ 0 ≤ k ∧ k ≤ l - a)
theorem there_any (W : World) (t : Nat) (F : List Nat) (T : Tb) (a k : Int) (v : Bool) (hv : Hid (thereB (plen T.ps) a k = v)) (h : TabIn W t F T) : Calls Try.prog 34 #[.pointer (some ⟨t, 0, none⟩), .int .i64 a, .int .i64 k] W fun e w' => e = .returned (.bool v) ∧ W = w' := by
  have hok := h.ok.len
  obtain ⟨A0, n0, c0, A1, n1, c1, A2, n2, c2, h, rfl, _⟩ := h
  obtain ⟨_, _, _, z3⟩ := h.cells
  rw [← hv.out]
  obtain ⟨l, hl⟩ : ∃ l, plen T.ps = l := ⟨_, rfl⟩
  rw [hl] at z3 hok ⊢
  clear h hv hl
  by_cases h0 : 0 ≤ a ∧ a ≤ l
  · have hw : IntKind.i64.wrap ((l : Int) - a) = (l : Int) - a := IntWalk.i64_in _ (by omega)
    obtain ⟨h1, h2⟩ := h0
    go_enter Try.func34, Try.ntmps34
    go_wp2
    all_goals
      go_ret
      exact ⟨ret_bool (by rw [Bool.eq_iff_iff]; simp [thereB]; try omega), rfl⟩
  · have hb : thereB l a k = false := by simp only [thereB, decide_eq_false_iff_not]; omega
    rw [hb]
    by_cases h1 : 0 ≤ a
    · have h2 : ¬ a ≤ (l : Int) := by omega
      clear h0 hb
      go_enter Try.func34, Try.ntmps34
      go_wp2
      all_goals
        go_ret
        exact ⟨rfl, rfl⟩
    · clear h0 hb
      go_enter Try.func34, Try.ntmps34
      go_wp2
      all_goals
        go_ret
        exact ⟨rfl, rfl⟩
end Go.Proofs.Ytpfceochplghlaa

/- A slice of marks that came in. -/
import Derived.Test.YtkibhinpbpgkeaaQ
import Derived.Test.YtkibhinpbpgkeaaFrame
import Derived.Deep.SlicePairs
namespace Go.Proofs.Ytkibhinpbpgkeaa
open Go.ChangeShapes Go.WideShapes Go.ChangeAt Go.RowKit Go.Deep

section
variable {H : Type} {enc : TypeId × Value → H}
theorem cells30 : Try.prog.cellsOf 30 = 4 := by kernel_rfl
theorem struct30 : ∃ f0 f1 f2 f3 : Field, Try.prog.underlying 30 = some (.struct #[f0, f1, f2, f3]) ∧ f0.type = 3 ∧ f1.type = 3 ∧ f2.type = 3 ∧ f3.type = 3 ∧ f0.offset = 0 ∧ f1.offset = 1 ∧ f2.offset = 2 ∧ f3.offset = 3 :=
  ⟨_, _, _, _, Try.underlying30, rfl, rfl, rfl, rfl, rfl, rfl, rfl, rfl⟩
theorem cells3 : Try.prog.cellsOf 3 = 1 := by kernel_rfl
/-- A mark's cells, read. -/
theorem open_mark {W : World} {base : Nat} {sp : Nat → Bool} {held : Bool} {n : Nat} {cs : List Value} {y : DataW H × List MemPlace} (h : DataW.trod enc Try.prog W base sp held n 30 cs = some y) : ∃ m : Mk, cs = cells4 [m] := by
  obtain ⟨f0, f1, f2, f3, hs, t0, t1, t2, t3, o0, o1, o2, o3⟩ := struct30
  obtain ⟨xs, k, _, _, hl, hxl, hf⟩ := DataW.trod_struct hs h
  rw [cells30] at hl
  match cs, hl, xs, hxl with
  | [a, b, c, d], _, [y0, y1, y2, y3], _ =>
    have g0 := hf 0 f0 rfl
    have g1 := hf 1 f1 rfl
    have g2 := hf 2 f2 rfl
    have g3 := hf 3 f3 rfl
    rw [t0, o0, cells3] at g0
    rw [t1, o1, cells3] at g1
    rw [t2, o2, cells3] at g2
    rw [t3, o3, cells3] at g3
    obtain ⟨i0, e0, _⟩ := DataW.trod_int u3 (show DataW.trod enc Try.prog W base sp held k 3 [a] = some y0 from g0)
    obtain ⟨i1, e1, _⟩ := DataW.trod_int u3 (show DataW.trod enc Try.prog W base sp held k 3 [b] = some y1 from g1)
    obtain ⟨i2, e2, _⟩ := DataW.trod_int u3 (show DataW.trod enc Try.prog W base sp held k 3 [c] = some y2 from g2)
    obtain ⟨i3, e3, _⟩ := DataW.trod_int u3 (show DataW.trod enc Try.prog W base sp held k 3 [d] = some y3 from g3)
    cases e0; cases e1; cases e2; cases e3
    exact ⟨⟨i0, i1, i2, i3⟩, rfl⟩

/-- A slice of marks, told by its cells alone. -/
def RdM (W : World) (B : Nat) (A : Option Addr) (n : Nat) (L : List Mk) : Prop :=
  L.length = n ∧ ∀ k, k < n → ∃ ad, A = some ad ∧ ad.block < B ∧ ∀ j, j < 4 → W.cell? (ad.add (k * 4 + j)) = (cells4 [L.getD k ⟨0, 0, 0, 0⟩])[j]?
theorem open_marks {v : Value} {d : DataW H} {p : List MemPlace} {W : World} {r : Reach} {b0 : Nat} (hv : Value.okWide Try.prog W r b0 22 v) (h : DataW.Trod enc Try.prog W 0 (fun _ => true) true 22 v d p) :
    ∃ (A : Option Addr) (n c : Nat) (L : List Mk), v = .slice A n c ∧ RdM W W.heap.size A n L ∧ n ≤ c ∧ c ≤ maxLen := by
  obtain ⟨a0, len, cap, rfl⟩ := okWide_slice Try.underlying22 hv
  obtain ⟨fuel, hf⟩ := h
  have hf : DataW.trod enc Try.prog W 0 (fun _ => true) true fuel 22 [.slice a0 len cap] = some (d, p) := by simpa [Value.cells] using hf
  rcases open_slice Try.underlying22 hf with ⟨hcs, _⟩ | ⟨a, len', cap', m, n, D, Pl, hcs, _, hl, hm, hmm, _, hx⟩
  · simp only [List.cons.injEq, and_true] at hcs
    exact ⟨none, 0, 0, [], hcs, ⟨rfl, fun k hk => by omega⟩, Nat.le_refl _, by simp [maxLen]⟩
  · simp only [List.cons.injEq, and_true] at hcs
    rw [hcs]
    simp only [if_true] at hmm
    have each : ∀ i, i < len' → ∃ mk : Mk, a.block < W.heap.size ∧ ∀ j, j < 4 → W.cell? (a.add (i * 4 + j)) = (cells4 [mk])[j]? := by
      intro i hi
      obtain ⟨cs', h1, h2⟩ := hx i (by omega)
      rw [cells30] at h1
      obtain ⟨mk, rfl⟩ := open_mark h2
      obtain ⟨_, _, hcell⟩ := World.cells?_some h1
      refine ⟨mk, ?_, fun j hj => ?_⟩
      · have e0 := hcell 0 (by omega)
        have := block_lt_of_cell (show W.cell? ((a.add (i * 4)).add 0) = some (.int .i64 mk.id) from e0)
        rwa [block_add', block_add'] at this
      · rw [← hcell j hj, Go.Proofs.Ytkibhinpbpgkeaa.add_add']
    haveI : Inhabited Mk := ⟨⟨0, 0, 0, 0⟩⟩
    obtain ⟨F, hF⟩ := choose_lt each
    refine ⟨some a, len', cap', (List.range len').map F, rfl, ⟨by simp, fun k hk => ⟨a, rfl, (hF k hk).1, ?_⟩⟩, hl, hm⟩
    have e : ((List.range len').map F).getD k ⟨0, 0, 0, 0⟩ = F k := by simp [List.getD, hk]
    rw [e]
    exact (hF k hk).2
end
end Go.Proofs.Ytkibhinpbpgkeaa

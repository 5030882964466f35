/- A slice of deeds that came in; the walks of TreapPlays and TreapNear. -/
import Derived.Test.YtkibhinpbpgkeaaRm
import Derived.Test.YtkibhinpbpgkeaaRk
namespace Go.Proofs.Ytkibhinpbpgkeaa
open Go.ChangeShapes Go.WideShapes Go.ChangeAt Go.RowKit Go.Deep

section
variable {H : Type} {enc : TypeId × Value → H}
theorem cells52 : Try.prog.cellsOf 52 = 5 := by kernel_rfl
theorem struct52 : ∃ f0 f1 : Field, Try.prog.underlying 52 = some (.struct #[f0, f1]) ∧ f0.type = 3 ∧ f1.type = 30 ∧ f0.offset = 0 ∧ f1.offset = 1 :=
  ⟨_, _, Try.underlying52, rfl, rfl, rfl, rfl⟩
/-- A deed's cells, read. -/
theorem open_deed {W : World} {base : Nat} {sp : Nat → Bool} {held : Bool} {n : Nat} {cs : List Value} {y : DataW H × List MemPlace} (h : DataW.trod enc Try.prog W base sp held n 52 cs = some y) : ∃ (x : Int) (m : Mk), cs = .int .i64 x :: cells4 [m] := by
  obtain ⟨f0, f1, hs, t0, t1, o0, o1⟩ := struct52
  obtain ⟨xs, k, _, _, hl, hxl, hf⟩ := DataW.trod_struct hs h
  rw [cells52] at hl
  match cs, hl, xs, hxl with
  | [a, b, c, d, e], _, [y0, y1], _ =>
    have g0 := hf 0 f0 rfl
    have g1 := hf 1 f1 rfl
    rw [t0, o0, cells3] at g0
    rw [t1, o1, cells30] at g1
    obtain ⟨i0, e0, _⟩ := DataW.trod_int u3 (show DataW.trod enc Try.prog W base sp held k 3 [a] = some y0 from g0)
    obtain ⟨m, hm⟩ := open_mark (show DataW.trod enc Try.prog W base sp held k 30 [b, c, d, e] = some y1 from g1)
    cases e0
    exact ⟨i0, m, by rw [hm]⟩
theorem RdD.mk_row {W : World} {a : Addr} {n : Nat} (h : ∀ i, i < n → ∃ (x : Int) (m : Mk), a.block < W.heap.size ∧ ∀ j, j < 5 → W.cell? (a.add (i * 5 + j)) = (.int .i64 x :: cells4 [m])[j]?) : RdD W W.heap.size (some a) n := by
  intro k hk
  obtain ⟨x, m, hb, hc⟩ := h k hk
  refine ⟨a, x, m, rfl, by rw [block_add']; exact hb, hc 0 (by omega), ?_, ?_, ?_, ?_⟩
  · rw [add_field _ _ _ (by omega)]; exact hc 1 (by omega)
  · rw [add_field _ _ _ (by omega)]; exact hc 2 (by omega)
  · rw [add_field _ _ _ (by omega)]; exact hc 3 (by omega)
  · rw [add_field _ _ _ (by omega)]; exact hc 4 (by omega)
theorem open_deeds {v : Value} {d : DataW H} {p : List MemPlace} {W : World} {r : Reach} {b0 : Nat} (hv : Value.okWide Try.prog W r b0 48 v) (h : DataW.Trod enc Try.prog W 0 (fun _ => true) true 48 v d p) :
    ∃ (A : Option Addr) (n c : Nat), v = .slice A n c ∧ RdD W W.heap.size A n ∧ n ≤ c ∧ c ≤ maxLen := by
  obtain ⟨a0, len, cap, rfl⟩ := okWide_slice Try.underlying48 hv
  obtain ⟨fuel, hf⟩ := h
  have hf : DataW.trod enc Try.prog W 0 (fun _ => true) true fuel 48 [.slice a0 len cap] = some (d, p) := by simpa [Value.cells] using hf
  rcases open_slice Try.underlying48 hf with ⟨hcs, _⟩ | ⟨a, len', cap', m, n, D, Pl, hcs, _, hl, hm, hmm, _, hx⟩
  · simp only [List.cons.injEq, and_true] at hcs
    exact ⟨none, 0, 0, hcs, fun k hk => absurd hk (by omega), Nat.le_refl _, by simp [maxLen]⟩
  · simp only [List.cons.injEq, and_true] at hcs
    rw [hcs]
    simp only [if_true] at hmm
    refine ⟨some a, len', cap', rfl, RdD.mk_row fun i hi => ?_, hl, hm⟩
    obtain ⟨cs', h1, h2⟩ := hx i (by omega)
    rw [cells52] at h1
    obtain ⟨x, mk, rfl⟩ := open_deed h2
    obtain ⟨_, _, hcell⟩ := World.cells?_some h1
    refine ⟨x, mk, ?_, fun j hj => ?_⟩
    · have e0 := hcell 0 (by omega)
      have := block_lt_of_cell (show W.cell? ((a.add (i * 5)).add 0) = some (.int .i64 x) from e0)
      rwa [block_add', block_add'] at this
    · rw [← hcell j hj, Go.Proofs.Ytkibhinpbpgkeaa.add_add']
end
/-- A row of whole numbers of the call's own. -/
theorem RdD.of_own {w : World} {base n p : Nat} {A : Option Addr} {zs : List Int} (ho : w.ownsRow base 52 5 (.slice A n p) n (zs.map (Value.int .i64))) : RdD w w.heap.size A n := by
  rcases Nat.eq_zero_or_pos n with h0 | h0
  · subst h0
    exact fun k hk => absurd hk (by omega)
  · obtain ⟨g, cap, hv, hg1, hg2⟩ := ho.form h0
    have hA : A = some ⟨g, 0, none⟩ := by injection hv
    subst hA
    refine RdD.mk_row fun i hi => ⟨zs.getD (i * 5) 0, ⟨zs.getD (i * 5 + 1) 0, zs.getD (i * 5 + 2) 0, zs.getD (i * 5 + 3) 0, zs.getD (i * 5 + 4) 0⟩, hg2, fun j hj => ?_⟩
    have hl : zs.length = n * 5 := by have := ho.1; simpa using this
    have hlt : i * 5 + j < n * 5 := by
      have h1 : (i + 1) * 5 ≤ n * 5 := Nat.mul_le_mul_right _ hi
      omega
    have e : (⟨g, 0, none⟩ : Addr).add (i * 5 + j) = ⟨g, i * 5 + j, none⟩ := by unfold Addr.add; split <;> simp_all
    rw [e, ho.cellAt _ hlt, ints_at zs (by omega)]
    have hj5 : j = 0 ∨ j = 1 ∨ j = 2 ∨ j = 3 ∨ j = 4 := by omega
    rcases hj5 with rfl | rfl | rfl | rfl | rfl <;> rfl

open Go.ChangeMaps
set_option maxRecDepth 100000 in
set_option maxHeartbeats 4000000 in
theorem plays_any (W : World) (A : Option Addr) (n c : Nat) (hD : RdD W W.heap.size A n) (hn : n ≤ 9223372036854775807) : Calls Try.prog 7 #[.slice A n c] W fun e w' => e = .returned (.bool true) ∧ Below W.heap.size W w' := by
  obtain ⟨B, hB⟩ : ∃ B, W.heap.size = B := ⟨_, rfl⟩
  have HN : Hid (Calls Try.prog 10 #[] W fun e w' => e = .returned (.pointer (some ⟨B + 1, 0, none⟩)) ∧ SetIn w' (B + 1) B .nil ∧ Below B W w') := by have h := new_any W; rw [hB] at h; exact h
  have HDD : Hid (RdD W B A n) := by rw [← hB]; exact hD
  rw [hB]
  clear hB hD
  go_enter Try.func7, Try.ntmps7
  go_wp2_with (first
    | (go_at_call 10; (with_reducible refine (HN.out).mono ?_); rintro e w1 ⟨rfl, hs1, hb1⟩; have hlt1 := hs1.lt (B + 1) (by simp); have HB1 := Lib.hid hb1; have HS := Lib.hid (both_new hs1); have HB2 : Hid (Below B w1 (w1.alloc (.cells #[.slice none 0 0] 40 (0, 0)))) := (Below.refl _ _).alloc (by omega) _; clear hs1 hb1)
    | (go_at_call 24; (with_reducible refine (play_any _ B (B + 1) B w1.heap.size [] A n c HS.out ((HDD.out.below HB1.out).below HB2.out) hn).mono ?_); rintro e w3 ⟨rfl, hd3⟩; have HD3 := Lib.hid hd3; have hz3 := hd3.size; clear hd3)
    | (go_at_call 17; (with_reducible refine (known_any w3).mono ?_); rintro e w4 ⟨rfl, hd4⟩; have HD4 := Lib.hid hd4; clear hd4))
  go_ret
  have hz : B ≤ w3.heap.size := by
    have h1 := HB2.out.size
    omega
  exact ⟨rfl, HB1.out.trans (HB2.out.trans (HD3.out.trans (HD4.out.mono hz)))⟩
end Go.Proofs.Ytkibhinpbpgkeaa

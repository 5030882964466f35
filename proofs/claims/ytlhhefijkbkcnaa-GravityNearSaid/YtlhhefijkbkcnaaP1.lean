/- GravityTells: for every input the law returns true, and every argument reads afterwards as it read before. No condition. -/
import Derived.Test.YtlhhefijkbkcnaaE
import Derived.Test.YtlhhefijkbkcnaaFrame
namespace Go.Proofs.Ytlhhefijkbkcnaa
open Go.ChangeShapes Go.WideShapes Go.ChangeAt Go.RowKit Go.Joins

theorem Try.own : ownKnob Try.prog.godebug = none := by kernel_rfl
theorem Try.laidOut : laidOutB Try.prog = true := by kernel_rfl
theorem cells21 : Try.prog.cellsOf 21 = 1 := by kernel_rfl
theorem cells24 : Try.prog.cellsOf 24 = 3 := by kernel_rfl
theorem cells26 : Try.prog.cellsOf 26 = 2 := by kernel_rfl
theorem bytes21 : Try.prog.bytesOf 21 = 4 := by kernel_rfl

/-- A change that came in. -/
theorem open_change {H : Type} {enc : TypeId × Value → H} {W : World} {r : Reach} {b0 : Nat} {v : Value} {d : DataW H} {p : List MemPlace}
    (hv : Value.okWide Try.prog W r b0 24 v) (h : DataW.Trod enc Try.prog W 0 (fun _ => true) true 24 v d p) (hw : ∀ q ∈ d.weights Try.prog 24, q ≤ reachBytes) :
    ∃ (a : Int) (A : Option Addr) (n c : Nat) (xs : List Int) (B : Option Addr) (m e : Nat) (ys : List Int), v = .agg #[.int .i64 a, .slice A n c, .slice B m e] ∧ (Lit.int .i64 a).wf = true ∧
      Rds W W.heap.size 1 A n (xs.map (Value.int .i32)) ∧ n ≤ c ∧ c * 4 ≤ 140737488351232 ∧ Rds W W.heap.size 1 B m (ys.map (Value.int .i32)) ∧ m ≤ e ∧ e * 4 ≤ 140737488351232 := by
  obtain ⟨v0, v1, v2, y0, y1, y2, fuel, rfl, rfl, _, h0, h1, h2⟩ := open_agg3 Try.underlying24 (by kernel_rfl) cells24 hv h
  have hw' : (DataW.weightsEach Try.prog [3, 22, 22] [y0.1, y1.1, y2.1]).all (· ≤ reachBytes) = true := by
    rw [List.all_eq_true]
    intro q hq
    refine decide_eq_true (hw q ?_)
    simp only [DataW.weights, Try.underlying24]
    exact hq
  obtain ⟨a, e0, _, wa⟩ := DataW.trod_int Try.underlying3 h0
  obtain ⟨A, n, c, xs, rfl, r1, r2, _, r4, _⟩ := open_rds Try.underlying22 Try.underlying21 cells21 bytes21 h1 (weights_at hw' (j := 1) rfl rfl)
  obtain ⟨B, m, e, ys, rfl, s1, s2, _, s4, _⟩ := open_rds Try.underlying22 Try.underlying21 cells21 bytes21 h2 (weights_at hw' (j := 2) rfl rfl)
  simp at e0
  subst e0
  exact ⟨a, A, n, c, xs, B, m, e, ys, rfl, wa, r1, r2, r4, s1, s2, s4⟩
/-- A span that came in. -/
theorem open_span {H : Type} {enc : TypeId × Value → H} {W : World} {r : Reach} {b0 : Nat} {v : Value} {d : DataW H} {p : List MemPlace}
    (hv : Value.okWide Try.prog W r b0 26 v) (h : DataW.Trod enc Try.prog W 0 (fun _ => true) true 26 v d p) :
    ∃ (f t : Int), v = .agg #[.int .i64 f, .int .i64 t] := by
  obtain ⟨v0, v1, y0, y1, fuel, rfl, rfl, _, h0, h1⟩ := open_agg2 Try.underlying26 (by kernel_rfl) cells26 hv h
  obtain ⟨a, e0, _, wa⟩ := DataW.trod_int Try.underlying3 h0
  obtain ⟨b, e1, _, wb⟩ := DataW.trod_int Try.underlying3 h1
  simp at e0 e1
  subst e0 e1
  exact ⟨a, b, rfl⟩

set_option maxRecDepth 100000 in
theorem tells_lifted (os : Os) (started : os.Started) (H : Type) (enc : TypeId × Value → H) :
    ReturnsInHanded {} Try.checked os 3 .any (Rows.gravityTellsSpec.pre6 enc Try.prog Try.f3 Rows.gravityTellsRow.domain false) (Rows.gravityTellsSpec.post enc Try.prog Try.f3 false true false false) := by
  refine returnsInHanded_of_change_sized (C := Try.checked) Try.own started (by kernel_rfl) Try.func3
    (ChangeSpec.witness6 (enc := enc) (C := Try.checked) false ⟨#[], #[.int .i64 0, .agg #[.int .i64 0, .slice none 0 0, .slice none 0 0], .agg #[.int .i64 0, .int .i64 0], .int .i64 0, .bool false], []⟩ 8 (by kernel_rfl) (by kernel_rfl) (by kernel_rfl) (by kernel_rfl)) ?_
  intro W base args ds gs before hval0 hW _ hsz0 _
  have hsz : (DataW.weightsEach Try.prog (Try.f3.params.toList ++ Rows.gravityTellsSpec.plain.varTypes Try.prog) (ds ++ gs)).all (· ≤ reachBytes) = true := hsz0
  clear hsz0
  have hval : ∀ (j : Nat) t v, Try.f3.params[j]? = some t → args[j]? = some v → Value.okWide Try.prog W .any base t v := hval0
  have hW' := hW
  obtain ⟨p, q, hA0, hV, _, _, _⟩ := hW
  have hA : DataW.TrodAll enc Try.prog W 0 (fun _ => true) true Try.f3.params.toList args.toList ds p := hA0
  rw [Try.params3] at hA hval hsz
  obtain ⟨v0, vs0, d0, ds0, p0, q0, hargs, rfl, rfl, h0, r0⟩ := trodAll_cons hA
  obtain ⟨v1, vs1, d1, ds1, p1, q1, rfl, rfl, rfl, h1, r1⟩ := trodAll_cons r0
  obtain ⟨v2, vs2, d2, ds2, p2, q2, rfl, rfl, rfl, h2, r2⟩ := trodAll_cons r1
  obtain ⟨v3, vs3, d3, ds3, p3, q3, rfl, rfl, rfl, h3, r3⟩ := trodAll_cons r2
  obtain ⟨v4, vs4, d4, ds4, p4, q4, rfl, rfl, rfl, h4, r4⟩ := trodAll_cons r3
  obtain ⟨rfl, rfl, rfl⟩ := trodAll_nil r4
  have hargs' : args = #[v0, v1, v2, v3, v4] := by rw [← Array.toList_inj, hargs]
  subst hargs'
  obtain ⟨a0, rfl, rfl, rfl, w0⟩ := open_int Try.underlying3 (hval 0 3 v0 rfl rfl) h0
  obtain ⟨a, A, n, c, xs, B, m, e, ys, rfl, wa, rA, nc, bc, rB, me, be⟩ := open_change (hval 1 24 v1 rfl rfl) h1 (weights_at hsz (j := 1) rfl rfl)
  obtain ⟨f, t, rfl⟩ := open_span (hval 2 26 v2 rfl rfl) h2
  obtain ⟨how, rfl, rfl, rfl, w3⟩ := open_int Try.underlying3 (hval 3 3 v3 rfl rfl) h3
  obtain ⟨r, rfl, rfl, rfl⟩ := open_bool Try.underlying4 (hval 4 4 v4 rfl rfl) h4
  refine (tells_any a0 a f t how r A B n c m e xs ys W rA rB (by omega) (by omega)).mono fun e W' ⟨he, hb⟩ => ⟨_, he, ?_⟩
  exact law_post (tb := 4) Try.laidOut (by kernel_rfl) Try.underlying4 rfl rfl hW' rfl hb

theorem gravityTells_holds : Rows.GravityTellsSaid :=
  OpenClaim.holds_of_wide 3 Try.f3 rfl rfl rfl rfl rfl rfl rfl ⟨rfl, rfl, rfl, rfl, rfl⟩ rfl rfl rfl rfl rfl (by kernel_rfl) Try.func3 (by kernel_rfl)
    (of_decide_eq_true (by kernel_rfl)) (by unfold Func.isWrapper; first | (rw [if_pos (by decide +kernel)]; kernel_rfl) | (rw [if_neg (by decide +kernel)]; exact ⟨rfl, rfl⟩))
    (fun os started H enc _ => tells_lifted os started H enc)
#print axioms gravityTells_holds
end Go.Proofs.Ytlhhefijkbkcnaa

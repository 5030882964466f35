/- GravitySigns: for every input the law returns true, and every argument reads afterwards as it read before. No condition. -/
import Derived.Test.YtlhhefijkbkcnaaJ
import Derived.Test.YtlhhefijkbkcnaaP1
namespace Go.Proofs.Ytlhhefijkbkcnaa
open Go.ChangeShapes Go.WideShapes Go.ChangeAt Go.RowKit Go.Joins

set_option maxRecDepth 100000 in
theorem gravitySigns_lifted (os : Os) (started : os.Started) (H : Type) (enc : TypeId × Value → H) :
    ReturnsInHanded {} Try.checked os 7 .any (Rows.gravitySignsSpec.pre6 enc Try.prog Try.f7 Rows.gravitySignsRow.domain false) (Rows.gravitySignsSpec.post enc Try.prog Try.f7 false true false false) := by
  refine returnsInHanded_of_change_sized (C := Try.checked) Try.own started (by kernel_rfl) Try.func7
    (ChangeSpec.witness6 (enc := enc) (C := Try.checked) false ⟨#[], #[.slice none 0 0, .int .i64 0, .int .i64 0, .slice none 0 0], []⟩ 8 (by kernel_rfl) (by kernel_rfl) (by kernel_rfl) (by kernel_rfl)) ?_
  intro W base args ds gs before hval0 hW _ hsz0 _
  have hsz : (DataW.weightsEach Try.prog (Try.f7.params.toList ++ Rows.gravitySignsSpec.plain.varTypes Try.prog) (ds ++ gs)).all (· ≤ reachBytes) = true := hsz0
  clear hsz0
  have hval : ∀ (j : Nat) t v, Try.f7.params[j]? = some t → args[j]? = some v → Value.okWide Try.prog W .any base t v := hval0
  have hW' := hW
  obtain ⟨p, q, hA0, hV, _, _, _⟩ := hW
  have hA : DataW.TrodAll enc Try.prog W 0 (fun _ => true) true Try.f7.params.toList args.toList ds p := hA0
  rw [Try.params7] at hA hval hsz
  obtain ⟨v0, vs0, d0, ds0, p0, q0, hargs, rfl, rfl, h0, r0⟩ := trodAll_cons hA
  obtain ⟨v1, vs1, d1, ds1, p1, q1, rfl, rfl, rfl, h1, r1⟩ := trodAll_cons r0
  obtain ⟨v2, vs2, d2, ds2, p2, q2, rfl, rfl, rfl, h2, r2⟩ := trodAll_cons r1
  obtain ⟨v3, vs3, d3, ds3, p3, q3, rfl, rfl, rfl, h3, r3⟩ := trodAll_cons r2
  obtain ⟨rfl, rfl, rfl⟩ := trodAll_nil r3
  have hargs' : args = #[v0, v1, v2, v3] := by rw [← Array.toList_inj, hargs]
  subst hargs'
  obtain ⟨A, n, c, xs, rfl, rd0, nc0, _, bc0, _⟩ := open_rds_arg Try.underlying22 Try.underlying21 cells21 bytes21 (hval 0 22 v0 rfl rfl) h0 (weights_at hsz (j := 0) rfl rfl)
  obtain ⟨x, rfl, rfl, rfl, w1⟩ := open_int Try.underlying3 (hval 1 3 v1 rfl rfl) h1
  obtain ⟨y, rfl, rfl, rfl, w2⟩ := open_int Try.underlying3 (hval 2 3 v2 rfl rfl) h2
  obtain ⟨B, m, d, ys, rfl, rd3, nc3, _, bc3, _⟩ := open_rds_arg Try.underlying22 Try.underlying21 cells21 bytes21 (hval 3 22 v3 rfl rfl) h3 (weights_at hsz (j := 3) rfl rfl)
  refine (signs_any x y A B n c m d xs ys W rd0 rd3 nc0 (by omega)).mono fun e W' ⟨he, hb⟩ => ⟨_, he, ?_⟩
  exact law_post (tb := 4) Try.laidOut (by kernel_rfl) Try.underlying4 rfl rfl hW' rfl hb

theorem gravitySigns_holds : Rows.GravitySignsSaid :=
  OpenClaim.holds_of_wide 7 Try.f7 rfl rfl rfl rfl rfl rfl rfl ⟨rfl, rfl, rfl, rfl, rfl⟩ rfl rfl rfl rfl rfl (by kernel_rfl) Try.func7 (by kernel_rfl)
    (of_decide_eq_true (by kernel_rfl)) (by unfold Func.isWrapper; first | (rw [if_pos (by decide +kernel)]; kernel_rfl) | (rw [if_neg (by decide +kernel)]; exact ⟨rfl, rfl⟩))
    (fun os started H enc _ => gravitySigns_lifted os started H enc)
#print axioms gravitySigns_holds
end Go.Proofs.Ytlhhefijkbkcnaa

/- PiecePlays: for every input the law returns true, and the arguments read afterwards as they read before. No condition. -/
import Derived.Test.YtpfceochplghlaaSe
import Derived.Test.YtpfceochplghlaaP0
namespace Go.Proofs.Ytpfceochplghlaa
open Go.ChangeShapes Go.WideShapes Go.ChangeAt Go.RowKit Go.Joins

set_option maxRecDepth 100000 in
theorem piecePlays_lifted (os : Os) (started : os.Started) (H : Type) (enc : TypeId × Value → H) :
    ReturnsInHanded {} Try.checked os 8 .any (Rows.piecePlaysSpec.pre6 enc Try.prog Try.f8 Rows.piecePlaysRow.domain false) (Rows.piecePlaysSpec.post enc Try.prog Try.f8 false true false false) := by
  refine returnsInHanded_of_change_sized (C := Try.checked) Try.own started (by kernel_rfl) Try.func8
    (ChangeSpec.witness6 (enc := enc) (C := Try.checked) false ⟨#[], #[.slice none 0 0, .slice none 0 0], []⟩ 8 (by kernel_rfl) (by kernel_rfl) (by kernel_rfl) (by kernel_rfl)) ?_
  intro W base args ds gs before hval0 hW _ hsz0 _
  have hsz : (DataW.weightsEach Try.prog (Try.f8.params.toList ++ Rows.piecePlaysSpec.plain.varTypes Try.prog) (ds ++ gs)).all (· ≤ reachBytes) = true := hsz0
  clear hsz0
  have hval : ∀ (j : Nat) t v, Try.f8.params[j]? = some t → args[j]? = some v → Value.okWide Try.prog W .any base t v := hval0
  have hW' := hW
  obtain ⟨p, q, hA0, hV, _, _, _⟩ := hW
  have hA : DataW.TrodAll enc Try.prog W 0 (fun _ => true) true Try.f8.params.toList args.toList ds p := hA0
  rw [Try.params8] at hA hval hsz
  obtain ⟨v0, vs0, d0, ds0, p0, q0, hargs, rfl, rfl, h0, r0⟩ := trodAll_cons hA
  obtain ⟨v1, vs1, d1, ds1, p1, q1, rfl, rfl, rfl, h1, r1⟩ := trodAll_cons r0
  obtain ⟨rfl, rfl, rfl⟩ := trodAll_nil r1
  have hargs' : args = #[v0, v1] := by rw [← Array.toList_inj, hargs]
  subst hargs'
  obtain ⟨A, n, c, xs, rfl, rd0, nc0, _, bc0, _⟩ := open_rds_arg Try.underlying23 Try.underlying21 cells21 bytes21 (hval 0 23 v0 rfl rfl) h0 (weights_at hsz (j := 0) rfl rfl)
  obtain ⟨B, m, d, L, rfl, rd1, nc1, _⟩ := open_deeds (hval 1 33 v1 rfl rfl) h1 (weights_at hsz (j := 1) rfl rfl)
  refine (plays_walk W A B n c m d xs L rd0 rd1 (by omega)).mono fun e W' ⟨he, hb⟩ => ⟨_, he, ?_⟩
  exact law_post (tb := 4) Try.laidOut (by kernel_rfl) Try.underlying4 rfl rfl hW' rfl hb

theorem piecePlays_holds : Rows.PiecePlaysSaid :=
  OpenClaim.holds_of_wide 8 Try.f8 rfl rfl rfl rfl rfl rfl rfl ⟨rfl, rfl, rfl, rfl, rfl⟩ rfl rfl rfl rfl rfl (by kernel_rfl) Try.func8 (by kernel_rfl)
    (of_decide_eq_true (by kernel_rfl)) (by unfold Func.isWrapper; first | (rw [if_pos (by decide +kernel)]; kernel_rfl) | (rw [if_neg (by decide +kernel)]; exact ⟨rfl, rfl⟩))
    (fun os started H enc _ => piecePlays_lifted os started H enc)
#print axioms piecePlays_holds
end Go.Proofs.Ytpfceochplghlaa

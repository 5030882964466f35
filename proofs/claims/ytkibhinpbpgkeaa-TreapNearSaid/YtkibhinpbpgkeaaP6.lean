/- TreapNear: for every input the law returns true, and the argument reads afterwards as it read before. No condition. -/
import Derived.Test.YtkibhinpbpgkeaaRo
import Derived.Test.YtkibhinpbpgkeaaP0
namespace Go.Proofs.Ytkibhinpbpgkeaa
open Go.ChangeShapes Go.WideShapes Go.ChangeAt Go.RowKit Go.Joins

set_option maxRecDepth 100000 in
theorem treapNear_lifted (os : Os) (started : os.Started) (H : Type) (enc : TypeId × Value → H) :
    ReturnsInHanded {} Try.checked os 8 .any (Rows.treapNearSpec.pre6 enc Try.prog Try.f8 Rows.treapNearRow.domain false) (Rows.treapNearSpec.post enc Try.prog Try.f8 false true false false) := by
  refine returnsInHanded_of_change_sized (C := Try.checked) Try.own started (by kernel_rfl) Try.func8
    (ChangeSpec.witness6 (enc := enc) (C := Try.checked) false ⟨#[], #[.slice none 0 0], []⟩ 8 (by kernel_rfl) (by kernel_rfl) (by kernel_rfl) (by kernel_rfl)) ?_
  intro W base args ds gs before hval0 hW _ hsz0 _
  clear hsz0
  have hval : ∀ (j : Nat) t v, Try.f8.params[j]? = some t → args[j]? = some v → Value.okWide Try.prog W .any base t v := hval0
  have hW' := hW
  obtain ⟨p, q, hA0, hV, _, _, _⟩ := hW
  have hA : DataW.TrodAll enc Try.prog W 0 (fun _ => true) true Try.f8.params.toList args.toList ds p := hA0
  rw [Try.params8] at hA hval
  obtain ⟨v0, vs0, d0, ds0, p0, q0, hargs, rfl, rfl, h0, r0⟩ := trodAll_cons hA
  obtain ⟨rfl, rfl, rfl⟩ := trodAll_nil r0
  have hargs' : args = #[v0] := by rw [← Array.toList_inj, hargs]
  subst hargs'
  obtain ⟨A, n, c, rfl, rd, nc, hc⟩ := open_deeds (hval 0 48 v0 rfl rfl) h0
  refine (near_any W A n c rd (by have := hc; simp only [maxLen] at this; omega)).mono fun e W' ⟨he, hb⟩ => ⟨_, he, ?_⟩
  exact law_post (tb := 4) Try.laidOut (by kernel_rfl) Try.underlying4 rfl rfl hW' rfl hb

theorem treapNear_holds : Rows.TreapNearSaid :=
  OpenClaim.holds_of_wide 8 Try.f8 rfl rfl rfl rfl rfl rfl rfl ⟨rfl, rfl, rfl, rfl, rfl⟩ rfl rfl rfl rfl rfl (by kernel_rfl) Try.func8 (by kernel_rfl)
    (of_decide_eq_true (by kernel_rfl)) (by unfold Func.isWrapper; first | (rw [if_pos (by decide +kernel)]; kernel_rfl) | (rw [if_neg (by decide +kernel)]; exact ⟨rfl, rfl⟩))
    (fun os started H enc _ => treapNear_lifted os started H enc)
#print axioms treapNear_holds
end Go.Proofs.Ytkibhinpbpgkeaa

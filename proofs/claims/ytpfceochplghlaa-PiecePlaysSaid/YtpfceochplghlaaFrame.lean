/- The frame of a law's row: a call that answers true and leaves what was there as it was. Plain lemmas, over any program. -/
import Derived.Test.YtpfceochplghlaaMem
import Derived.ProofKit
import Derived.SizedLaws
import Derived.OpenShut
import Derived.Lib.SmallJoins
namespace Go.Proofs.Ytpfceochplghlaa
open Go.ChangeShapes Go.WideShapes Go.ChangeAt Go.RowKit

section
variable {H : Type} {enc : TypeId × Value → H} {P : Program}

theorem trodAll_same (hl : laidOutB P = true) {W W' : World} (hb : Below W.heap.size W W') : ∀ {ts : List TypeId} {vs : List Value} {ds : List (DataW H)} {ps : List MemPlace},
    (∀ t ∈ ts, P.readableRec t = true ∧ t < P.types.size) → DataW.TrodAll enc P W 0 (fun _ => true) true ts vs ds ps → (∀ x ∈ ps, x.block < W.heap.size) →
    DataW.TrodAll enc P W' 0 (fun b => decide (b < W.heap.size)) true ts vs ds ps
  | [], _, _, _, _, h, _ => by
    obtain ⟨rfl, rfl, rfl⟩ := trodAll_nil h
    exact trodAll_mk0
  | t :: ts, vs, ds, ps, hr, h, hlt => by
    obtain ⟨v0, vs0, d0, ds0, p0, q0, rfl, rfl, rfl, h0, r0⟩ := trodAll_cons h
    exact trodAll_cons_mk (Below.trod hl (hr t (by simp)).1 (hr t (by simp)).2 h0 hb fun x hx => hlt x (by simp [hx]))
      (trodAll_same hl hb (fun t ht => hr t (by simp [ht])) r0 fun x hx => hlt x (by simp [hx]))

/-- What the row asks of the end. -/
theorem law_post {f : Func} {s : ChangeSpec} {tb : TypeId} (hl : laidOutB P = true) (hr : f.params.toList.all (fun t => P.readableRec t && decide (t < P.types.size)) = true) (hb : P.underlying tb = some .bool) (hres : f.resultTypes = #[tb]) (hvars : s.vars = [])
    {W W' : World} {args : Array Value} {ds gs : List (DataW H)} {before : List MemPlace} (hW : DataW.Whole enc P f.params.toList s.vars false W args.toList ds gs before)
    (hs : s.fn H (ds ++ []) = { results := [.lit (.bool true)], args := ds }) (hbel : Below W.heap.size W W') :
    s.post enc P f false true false false W args (.bool true) W' := by
  have hW' := hW
  obtain ⟨p, q, hA, hV, hpq, _, _⟩ := hW
  have hr' : ∀ t ∈ f.params.toList, P.readableRec t = true ∧ t < P.types.size := fun t ht => by
    have h := List.all_eq_true.1 hr t ht
    simp only [Bool.and_eq_true, decide_eq_true_eq] at h
    exact h
  have hgs : gs = [] ∧ q = [] := by
    rw [hvars] at hV
    cases gs with
    | nil => exact ⟨rfl, hV⟩
    | cons g gs => exact hV.elim
  obtain ⟨rfl, rfl⟩ := hgs
  have hlt : ∀ x ∈ p, x.block < W.heap.size := fun x hx => hW'.lt x (by rw [hpq]; simp [hx])
  refine ⟨ds, [], before, [], p, [], hW', ?_, ?_, ?_, hbel.frame _, fun h => by cases h⟩
  · rw [hs, hres]
    exact trodAll_mk1 (shut_bool hb true)
  · rw [hs]
    exact trodAll_same hl hbel hr' hA hlt
  · rw [hs, hvars]
    rfl

/-- A slice of numbers that came in. -/
theorem open_rds {t e : TypeId} {k : IntKind} {fuel b : Nat} {v : Value} {y : DataW H × List MemPlace} {W : World} (ht : P.underlying t = some (.slice e)) (he : P.underlying e = some (.int k)) (hc : P.cellsOf e = 1) (hby : P.bytesOf e = b)
    (h : DataW.trod enc P W 0 (fun _ => true) true fuel t [v] = some y) (hw : ∀ q ∈ y.1.weights P t, q ≤ reachBytes) :
    ∃ (A : Option Addr) (n c : Nat) (xs : List Int), v = .slice A n c ∧ Rds W W.heap.size 1 A n (xs.map (Value.int k)) ∧ n ≤ c ∧ c ≤ maxLen ∧ c * b ≤ 140737488351232 ∧ ∀ x ∈ xs, (Lit.int k x).wf = true := by
  rcases open_ints ht he hc h with ⟨hcs, _⟩ | ⟨a, len, cap, zs, hcs, _, hl, hm, hz, hx, hcell, hwz⟩
  · simp only [List.cons.injEq, and_true] at hcs
    exact ⟨none, 0, 0, [], hcs, Rds.nil _ _ _ _, Nat.le_refl _, by simp [maxLen], by simp, by simp⟩
  · simp only [List.cons.injEq, and_true] at hcs
    simp only [if_true] at hz
    subst hx
    refine ⟨some a, len, cap, zs.take len, hcs, ⟨by simp; omega, fun j hj => ?_⟩, hl, hm, ?_, fun x hx => hwz x (List.mem_of_mem_take hx)⟩
    · have hj' : j < len := by simp at hj; omega
      have hcj := hcell j (by omega)
      refine ⟨a, rfl, ?_, ?_⟩
      · have := block_lt_of_cell hcj
        rwa [block_add'] at this
      · rw [hcj, ints_at _ (by simp; omega)]
        simp [List.getD, hj']
    · have h1 := hw ((zs.take len).length * b + (zs.drop len).length * b) (by
        simp only [DataW.weights, ht, lits, List.length_map, hby, ← Nat.add_mul]
        exact List.mem_cons_self)
      simp only [List.length_take, List.length_drop, reachBytes, ← Nat.add_mul] at h1
      have : min len zs.length + (zs.length - len) = cap := by omega
      rw [this] at h1
      exact h1
/-- The same, at an argument. -/
theorem open_rds_arg {t e : TypeId} {k : IntKind} {b : Nat} {v : Value} {d : DataW H} {p : List MemPlace} {W : World} {r : Reach} {b0 : Nat} (ht : P.underlying t = some (.slice e)) (he : P.underlying e = some (.int k)) (hc : P.cellsOf e = 1) (hby : P.bytesOf e = b)
    (hv : Value.okWide P W r b0 t v) (h : DataW.Trod enc P W 0 (fun _ => true) true t v d p) (hw : ∀ q ∈ d.weights P t, q ≤ reachBytes) :
    ∃ (A : Option Addr) (n c : Nat) (xs : List Int), v = .slice A n c ∧ Rds W W.heap.size 1 A n (xs.map (Value.int k)) ∧ n ≤ c ∧ c ≤ maxLen ∧ c * b ≤ 140737488351232 ∧ ∀ x ∈ xs, (Lit.int k x).wf = true := by
  obtain ⟨a0, len, cap, rfl⟩ := okWide_slice ht hv
  obtain ⟨fuel, hf⟩ := h
  exact open_rds ht he hc hby (by simpa [Value.cells] using hf) hw
theorem weights_at {ts : List TypeId} {ds : List (DataW H)} (h : (DataW.weightsEach P ts ds).all (· ≤ reachBytes) = true) {j : Nat} {t : TypeId} {d : DataW H} (ht : ts[j]? = some t) (hd : ds[j]? = some d) : ∀ q ∈ d.weights P t, q ≤ reachBytes :=
  fun q hq => of_decide_eq_true (List.all_eq_true.1 h q (DataW.weights_mem_each ht hd q hq))
end
end Go.Proofs.Ytpfceochplghlaa

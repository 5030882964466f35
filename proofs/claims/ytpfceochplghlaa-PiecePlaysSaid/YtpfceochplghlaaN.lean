/- Splices by the list: plain laws. -/
import Derived.Test.YtpfceochplghlaaM
namespace Go.Proofs.Ytpfceochplghlaa
open Go.RowKit

theorem cutP_front {P R : List Pc} (h : ∀ p ∈ P, 0 < p.ln) (k : Nat) : cutP (P ++ R) (plen P + k) = (P ++ (cutP R k).1, (cutP R k).2) := by
  induction P with
  | nil => simp [plen]
  | cons p P ih =>
    have h1 := h p (by simp)
    rw [List.cons_append, plen_cons]
    simp only [cutP]
    rw [if_neg (by omega), if_neg (by omega), show p.ln + plen P + k - p.ln = plen P + k from by omega, ih fun q hq => h q (by simp [hq])]
    rfl
/-- A table with k signs cut out at a, and others put there. -/
def splT (T : Tb) (a k : Nat) (zs : List Int) : Tb := ⟨T.fst, T.add ++ zs, (if zs.length = 0 then (cutP T.ps a).1 else extP (cutP T.ps a).1 T.add.length zs.length) ++ (cutP (cutP T.ps a).2 k).2⟩
theorem extP_all {Q : Pc → Prop} {A : List Pc} {fr m : Nat} (h : ∀ p ∈ A, Q p) (h1 : Q ⟨true, fr, m⟩) (h2 : ∀ p : Pc, Q p → p.add = true → p.fr + p.ln = fr → Q ⟨p.add, p.fr, p.ln + m⟩) : ∀ p ∈ extP A fr m, Q p := by
  intro p hp
  unfold extP at hp
  split at hp
  · rename_i hh
    rcases List.mem_append.1 hp with hp | hp
    · exact h p (List.mem_of_mem_take hp)
    · simp only [List.mem_singleton] at hp
      subst hp
      have hm : A.getD (A.length - 1) pc0 ∈ A := by
        have e : A.getD (A.length - 1) pc0 = A[A.length - 1]'(by omega) := by simp [List.getD, show A.length - 1 < A.length by omega]
        rw [e]
        exact List.getElem_mem _
      exact h2 _ (h _ hm) hh.2.1 hh.2.2
  · rcases List.mem_append.1 hp with hp | hp
    · exact h p hp
    · simp only [List.mem_singleton] at hp
      subst hp
      exact h1
theorem extP_plen (A : List Pc) (fr m : Nat) : plen (extP A fr m) = plen A + m := by
  unfold extP
  split
  · rename_i hh
    have e : A = A.take (A.length - 1) ++ [A.getD (A.length - 1) pc0] := by
      have h := take_getDp (L := A) (k := A.length - 1) (by omega) rfl
      rw [show A.length - 1 + 1 = A.length from by omega, List.take_length] at h
      exact h
    have e2 : plen A = plen (A.take (A.length - 1)) + (A.getD (A.length - 1) pc0).ln := by
      have h := congrArg plen e
      rw [plen_append, plen_cons, plen_nil] at h
      omega
    rw [plen_append, plen_cons, plen_nil]
    simp only
    omega
  · rw [plen_append, plen_cons, plen_nil]
    simp only
    omega
theorem spl_len {T : Tb} {a k : Nat} {zs : List Int} (h : a + k ≤ plen T.ps) : plen (splT T a k zs).ps = plen T.ps - k + zs.length := by
  have h1 := cutP_len T.ps a (by omega)
  have h2 := cutP_len (cutP T.ps a).2 k (by omega)
  unfold splT
  simp only
  rw [plen_append]
  split
  · omega
  · rw [extP_plen]; omega
theorem spl_ok {T : Tb} {a k : Nat} {zs : List Int} (h : T.Ok) (ha : a + k ≤ plen T.ps) (h1 : plen T.ps - k + zs.length ≤ 1000) (h2 : T.add.length + zs.length ≤ 20000) : (splT T a k zs).Ok := by
  have hst : ∀ p : Pc, ∀ x, (0 < p.ln ∧ p.fr + p.ln ≤ ((splT T a k zs).src p.add).length) → 0 < x → x < p.ln → (0 < x ∧ p.fr + x ≤ ((splT T a k zs).src p.add).length) ∧ 0 < p.ln - x ∧ p.fr + x + (p.ln - x) ≤ ((splT T a k zs).src p.add).length := fun p x h h0 h1 => by omega
  have hs : ∀ b, (T.src b).length ≤ ((splT T a k zs).src b).length := fun b => by
    cases b
    · exact Nat.le_refl _
    · show T.add.length ≤ (T.add ++ zs).length
      simp
  have h3 := cutP_all (P := fun p => 0 < p.ln ∧ p.fr + p.ln ≤ ((splT T a k zs).src p.add).length) T.ps hst a fun p hp => ⟨h.pos p hp, Nat.le_trans (h.fits p hp) (hs _)⟩
  have h4 := (cutP_all (P := fun p => 0 < p.ln ∧ p.fr + p.ln ≤ ((splT T a k zs).src p.add).length) (cutP T.ps a).2 hst k h3.2).2
  have hall : ∀ p ∈ (splT T a k zs).ps, 0 < p.ln ∧ p.fr + p.ln ≤ ((splT T a k zs).src p.add).length := by
    intro p hp
    rcases List.mem_append.1 hp with hp | hp
    · split at hp
      · exact h3.1 p hp
      · have hsz : ((splT T a k zs).src true).length = T.add.length + zs.length := by show (T.add ++ zs).length = _; simp
        refine extP_all h3.1 ⟨by simp only; omega, by rw [hsz]; exact Nat.le_refl _⟩ (fun q hq hqa hqf => ⟨by simp only; omega, ?_⟩) p hp
        rw [hqa, hsz]
        simp only
        omega
    · exact h4 p hp
  refine ⟨fun p hp => (hall p hp).1, fun p hp => (hall p hp).2, by rw [spl_len ha]; exact h1, h.fst, ?_⟩
  show (T.add ++ zs).length ≤ 20000
  rw [List.length_append]
  exact h2
end Go.Proofs.Ytpfceochplghlaa

/- The text after a splice: plain laws. -/
import Derived.Test.YtpfceochplghlaaYb
namespace Go.Proofs.Ytpfceochplghlaa
open Go.RowKit

def Fits (T : Tb) (L : List Pc) : Prop := ∀ p ∈ L, p.fr + p.ln ≤ (T.src p.add).length
theorem pc_len2 {T : Tb} {p : Pc} (h : p.fr + p.ln ≤ (T.src p.add).length) : (T.pc p).length = p.ln := by
  unfold Tb.pc
  rw [List.length_take, List.length_drop]
  omega
theorem cut_text {T : Tb} : ∀ (L : List Pc) (a : Nat), Fits T L → (cutP L a).1.flatMap T.pc = (L.flatMap T.pc).take a ∧ (cutP L a).2.flatMap T.pc = (L.flatMap T.pc).drop a := by
  intro L
  induction L with
  | nil => intro a _; simp [cutP]
  | cons p L ih =>
    intro a h
    have hp := h p (by simp)
    have hl := pc_len2 hp
    simp only [cutP]
    by_cases h0 : a = 0
    · rw [if_pos h0]
      subst h0
      simp
    · rw [if_neg h0]
      by_cases h1 : a < p.ln
      · rw [if_pos h1]
        simp only [List.flatMap_cons, List.flatMap_nil, List.append_nil]
        constructor
        · rw [List.take_append_of_le_length (by omega)]
          unfold Tb.pc
          simp only
          rw [List.take_take, Nat.min_eq_left (by omega)]
        · rw [List.drop_append_of_le_length (by omega)]
          congr 1
          unfold Tb.pc
          simp only
          rw [List.drop_take, List.drop_drop]
      · rw [if_neg h1]
        have h2 := ih (a - p.ln) fun q hq => h q (by simp [hq])
        simp only [List.flatMap_cons]
        rw [List.take_append, List.drop_append, hl, h2.1, h2.2, List.take_of_length_le (l := T.pc p) (by omega), List.drop_of_length_le (l := T.pc p) (by omega)]
        simp
theorem cut_fits {T : Tb} {L : List Pc} {a : Nat} (h : Fits T L) : Fits T (cutP L a).1 ∧ Fits T (cutP L a).2 :=
  cutP_all (P := fun p => p.fr + p.ln ≤ (T.src p.add).length) L (fun p a h h0 h1 => by simp only; omega) a h
/-- More added text does not turn what stands. -/
theorem pc_more {T : Tb} {zs : List Int} {L2 : List Pc} {p : Pc} (h : p.fr + p.ln ≤ (T.src p.add).length) : (⟨T.fst, T.add ++ zs, L2⟩ : Tb).pc p = T.pc p := by
  unfold Tb.pc
  unfold Tb.src at h ⊢
  cases hb : p.add with
  | true =>
    rw [hb] at h
    simp only [if_true] at h ⊢
    rw [List.drop_append_of_le_length (by omega), List.take_append_of_le_length (by rw [List.length_drop]; omega)]
  | false => rfl
theorem text_more {T : Tb} {zs : List Int} {L2 : List Pc} : ∀ L : List Pc, Fits T L → L.flatMap (⟨T.fst, T.add ++ zs, L2⟩ : Tb).pc = L.flatMap T.pc
  | [], _ => rfl
  | p :: L, h => by
    rw [List.flatMap_cons, List.flatMap_cons, pc_more (h p (by simp)), text_more L fun q hq => h q (by simp [hq])]
theorem ext_text {T : Tb} {zs : List Int} {L2 A : List Pc} (h : Fits T A) : (extP A T.add.length zs.length).flatMap (⟨T.fst, T.add ++ zs, L2⟩ : Tb).pc = A.flatMap T.pc ++ zs := by
  unfold extP
  split
  · rename_i hh
    obtain ⟨h1, h2, h3⟩ := hh
    obtain ⟨q, hq⟩ : ∃ q, A.getD (A.length - 1) pc0 = q := ⟨_, rfl⟩
    have e : A = A.take (A.length - 1) ++ [q] := by
      have h := take_getDp (L := A) (k := A.length - 1) (by omega) hq
      rw [show A.length - 1 + 1 = A.length from by omega, List.take_length] at h
      exact h
    rw [hq] at h2 h3 ⊢
    obtain ⟨qa, qf, ql⟩ := q
    simp only at h2 h3 ⊢
    subst h2
    have hfr : Fits T (A.take (A.length - 1)) := fun p hp => h p (List.mem_of_mem_take hp)
    have h5 : (⟨T.fst, T.add ++ zs, L2⟩ : Tb).pc ⟨true, qf, ql + zs.length⟩ = T.pc ⟨true, qf, ql⟩ ++ zs := by
      unfold Tb.pc
      simp only [Tb.src, if_true]
      rw [List.drop_append_of_le_length (by omega), List.take_append, List.length_drop]
      rw [List.take_of_length_le (by rw [List.length_drop]; omega), List.take_of_length_le (l := zs) (by omega), List.take_of_length_le (by rw [List.length_drop]; omega)]
    rw [List.flatMap_append, text_more _ hfr]
    simp only [List.flatMap_cons, List.flatMap_nil, List.append_nil]
    rw [h5]
    conv => rhs; rw [e]
    rw [List.flatMap_append]
    simp only [List.flatMap_cons, List.flatMap_nil, List.append_nil, List.append_assoc]
  · rw [List.flatMap_append, text_more _ h]
    congr 1
    simp only [List.flatMap_cons, List.flatMap_nil, List.append_nil, Tb.pc, Tb.src, if_true]
    rw [List.drop_left, List.take_length]
/-- The text after a splice. -/
theorem spl_text {T : Tb} {a k : Nat} {zs : List Int} (h : T.Ok) : (splT T a k zs).text = T.text.take a ++ zs ++ T.text.drop (a + k) := by
  have hf : Fits T T.ps := h.fits
  have h1 := cut_text T.ps a hf
  have hf1 := cut_fits (a := a) hf
  have h2 := cut_text (cutP T.ps a).2 k hf1.2
  have hf2 := cut_fits (a := k) hf1.2
  obtain ⟨L2, hL⟩ : ∃ L2, (splT T a k zs).ps = L2 := ⟨_, rfl⟩
  have e : splT T a k zs = ⟨T.fst, T.add ++ zs, L2⟩ := by rw [← hL]; rfl
  have e2 : L2 = (if zs.length = 0 then (cutP T.ps a).1 else extP (cutP T.ps a).1 T.add.length zs.length) ++ (cutP (cutP T.ps a).2 k).2 := by rw [← hL]; rfl
  rw [e]
  show L2.flatMap _ = _
  conv => lhs; rw [e2]
  rw [List.flatMap_append, text_more _ hf2.2, h2.2, h1.2, List.drop_drop]
  congr 1
  split
  · rename_i hz
    rw [text_more _ hf1.1, h1.1, List.eq_nil_of_length_eq_zero hz, List.append_nil]
    rfl
  · rw [ext_text hf1.1, h1.1]
    rfl
end Go.Proofs.Ytpfceochplghlaa

/-
  The plain laws: what the functions answer, in plain words.
-/
import Derived.Test.YtafdeomdhkmjmaaFirstDeskV
set_option linter.unusedVariables false
set_option linter.unusedSimpArgs false
namespace Go.Proofs.Ytafdeomdhkmjmaa
open Go.BV
theorem next64 {i : Nat} (h : i < 9223372036854775807) : IntKind.i64.wrap ((i : Int) + 1) = ((i + 1 : Nat) : Int) := by rw [w64 (by omega) (by omega)]; omega
/-- Lists that are the same. -/
theorem v_laws_eqIntS {a b : List Int} (ha : a.length ≤ 1099511627776) : sh_laws_eqIntS a b = some (decide (a = b)) := by
  refine sh_laws_eqIntS_of (n := a.length + 1) ?_
  show S_laws_eqIntS_e a b (F_laws_eqIntS_0 (a.length + 1) (fun r => some r) (a.length + 1)) (fun r => some r) = _
  unfold S_laws_eqIntS_e
  by_cases hl : a.length = b.length
  · rw [show (!decide ((a.length : Int) = (b.length : Int))) = false by simp [hl]]
    simp only [cond_false]
    rcases chk (F := fun m i => F_laws_eqIntS_0 (a.length + 1) (fun r => some r) m a b (i : Int)) (len := a.length) (ok := fun i => a.getD i 0 = b.getD i 0) (good := true) (bad := fun _ => false) (fun m i hi => by
      have h1 : ((i : Int) < (a.length : Int)) := by omega
      have h2 : (0 : Int) ≤ i := by omega
      have h3 : ((i : Int) < (b.length : Int)) := by omega
      by_cases e : a.getD i 0 = b.getD i 0
      · refine .inl ⟨e, ?_⟩
        simp only [F_laws_eqIntS_0, S_laws_eqIntS_0, h1, h2, h3, decide_true, cond_true, if_true, Int.toNat_natCast, e, Bool.not_true, cond_false, next64 (show i < 9223372036854775807 by omega)]
      · refine .inr ⟨e, ?_⟩
        simp only [F_laws_eqIntS_0, S_laws_eqIntS_0, h1, h2, h3, decide_true, cond_true, if_true, Int.toNat_natCast, decide_eq_false e, Bool.not_false]) (fun m => by simp [F_laws_eqIntS_0, S_laws_eqIntS_0]) with ⟨h1, h2⟩ | ⟨j, hj, h1, _, h2⟩
    · have he : a = b := List.ext_getElem hl fun i p q => by have := h1 i p; rwa [getD_lt p, getD_lt q] at this
      exact h2.trans (by simp [he])
    · have he : a ≠ b := fun e => h1 (by rw [e])
      exact h2.trans (by simp [he])
  · rw [show (!decide ((a.length : Int) = (b.length : Int))) = true by simp; omega]
    have he : a ≠ b := fun e => hl (by rw [e])
    simp [he]
/-- Numbers that rise from one on. -/
def ramp (m : Int) (n : Nat) : List Int := (List.range n).map fun i : Nat => m + i
theorem ramp_len {m : Int} {n : Nat} : (ramp m n).length = n := by simp [ramp]
theorem ramp_succ {m : Int} {n : Nat} : ramp m (n + 1) = ramp m n ++ [m + n] := by simp [ramp, List.range_succ]
theorem ramp_get {m : Int} {n i : Nat} (h : i < n) : (ramp m n).getD i 0 = m + i := by simp [ramp, List.getD_eq_getElem?_getD, h]
theorem v_laws_markIntS {l : List Int} {m : Int} (h0 : 0 ≤ m) (h1 : m + l.length ≤ 9223372036854775807) : sh_laws_markIntS l m = some (m + l.length, ramp m l.length) := by
  obtain ⟨s, p1, p2⟩ := bld (F := fun k i s => F_laws_markIntS_0 (l.length + 1) (fun r1 r2 => some (r1, r2)) k s (m + (i : Int)) (i : Int)) (len := l.length) (out := fun s => (m + (l.length : Int), s)) (Inv := fun i s => s.length = l.length ∧ s.take i = ramp m i) (fun k i s hi hs => by
    have h1 : ((i : Int) < (s.length : Int)) := by rw [hs.1]; omega
    have h2 : (0 : Int) ≤ i := by omega
    refine ⟨s.set i (m + i), ⟨by simpa using hs.1, ?_⟩, ?_⟩
    · rw [List.take_add_one, List.take_set_of_le (Nat.le_refl _), hs.2, ramp_succ]
      simp [hs.1, hi]
    · have e : IntKind.i64.wrap (m + (i : Int) + 1) = m + ((i + 1 : Nat) : Int) := by rw [w64 (by omega) (by omega)]; omega
      simp only [F_laws_markIntS_0, S_laws_markIntS_0, h1, h2, decide_true, cond_true, if_true, Int.toNat_natCast, e, next64 (show i < 9223372036854775807 by omega)]) (fun k s hs => by simp [F_laws_markIntS_0, S_laws_markIntS_0, hs.1]) l.length 0 l (l.length + 1) (by omega) (by omega) ⟨rfl, rfl⟩
  have he : s = ramp m l.length := by
    have := p1.2
    rwa [← p1.1, List.take_length, p1.1] at this
  subst he
  refine sh_laws_markIntS_of (n := l.length + 1) ?_
  show S_laws_markIntS_e l m (F_laws_markIntS_0 (l.length + 1) (fun r1 r2 => some (r1, r2)) (l.length + 1)) = _
  unfold S_laws_markIntS_e
  simpa using p2
theorem v_laws_heldIntS {m : Int} {n : Nat} (h0 : 0 ≤ m) (h1 : m + n ≤ 9223372036854775807) : sh_laws_heldIntS (ramp m n) m = some (m + n) := by
  refine sh_laws_heldIntS_of (n := n + 1) ?_
  show S_laws_heldIntS_e (ramp m n) m (F_laws_heldIntS_0 (n + 1) (fun r1 => some r1) (n + 1)) = _
  unfold S_laws_heldIntS_e
  rcases chk (F := fun k i => F_laws_heldIntS_0 (n + 1) (fun r1 => some r1) k (ramp m n) (m + (i : Int)) (i : Int)) (len := n) (ok := fun i => True) (good := m + n) (bad := fun _ => 0) (fun k i hi => by
    have q1 : ((i : Int) < ((ramp m n).length : Int)) := by rw [ramp_len]; omega
    have q2 : (0 : Int) ≤ i := by omega
    refine .inl ⟨trivial, ?_⟩
    have e : IntKind.i64.wrap (m + (i : Int) + 1) = m + ((i + 1 : Nat) : Int) := by rw [w64 (by omega) (by omega)]; omega
    simp only [F_laws_heldIntS_0, S_laws_heldIntS_0, q1, q2, decide_true, cond_true, if_true, Int.toNat_natCast, ramp_get hi, Bool.not_true, cond_false, e, next64 (show i < 9223372036854775807 by omega)]) (fun k => by simp [F_laws_heldIntS_0, S_laws_heldIntS_0, ramp_len]) with ⟨_, h2⟩ | ⟨j, hj, h2, _⟩
  · simpa using h2
  · exact absurd trivial h2

theorem law_FnExactFirstDesk : sh_laws_FnExactFirstDesk = some true := by
  have e0 : ramp 1 0 = [] := rfl
  have e1 : sh_laws_eqIntS [] [] = some true := v_laws_eqIntS (by simp)
  have e2 : sh_laws_markIntS [] 1 = some (1, []) := v_laws_markIntS (l := []) (m := 1) (by omega) (by simp)
  have e3 : sh_laws_heldIntS [] 1 = some 1 := v_laws_heldIntS (m := 1) (n := 0) (by omega) (by simp)
  have e4 : sh_laws_eqBoard 4 3 [] 4 3 [] = some true := by
    show S_laws_eqBoard_e 4 3 [] 4 3 [] (fun r => some r) = _
    simp [S_laws_eqBoard_e, e1]
  have e5 : sh_laws_eqLeaper 1 2 1 2 = some true := rfl
  have e6 : sh_laws_eqDesk 4 3 [] 1 2 [] 4 3 [] 1 2 [] = some true := by
    show S_laws_eqDesk_e 4 3 [] 1 2 [] 4 3 [] 1 2 [] (fun r => some r) = _
    simp [S_laws_eqDesk_e, e1, e4, e5]
  have e7 : sh_laws_markDesk 4 3 [] 1 2 [] 1 = some (1, 4, 3, [], 1, 2, []) := by
    show S_laws_markDesk_e 4 3 [] 1 2 [] 1 (fun r1 r2 r3 r4 r5 r6 r7 => some (r1, r2, r3, r4, r5, r6, r7)) = _
    have : sh_laws_markBoard 4 3 [] 1 = some (1, 4, 3, []) := by
      show S_laws_markBoard_e 4 3 [] 1 (fun r1 r2 r3 r4 => some (r1, r2, r3, r4)) = _
      simp [S_laws_markBoard_e, e2]
    simp [S_laws_markDesk_e, this, e2]
  have e8 : sh_laws_heldDesk 4 3 [] 1 2 [] 1 = some 1 := by
    show S_laws_heldDesk_e 4 3 [] 1 2 [] 1 (fun r => some r) = _
    have : sh_laws_heldBoard 4 3 [] 1 = some 1 := by
      show S_laws_heldBoard_e 4 3 [] 1 (fun r => some r) = _
      simp [S_laws_heldBoard_e, e3]
    simp [S_laws_heldDesk_e, this, e3]
  have e9 : sh_spec_FirstDesk = some (4, 3, [], 1, 2, []) := rfl
  have e10 : sh_impl_FirstDesk = some (4, 3, [], 1, 2, []) := rfl
  show S_laws_FnExactFirstDesk_e (fun r => some r) = _
  simp [S_laws_FnExactFirstDesk_e, e6, e7, e8, e9, e10]

end Go.Proofs.Ytafdeomdhkmjmaa

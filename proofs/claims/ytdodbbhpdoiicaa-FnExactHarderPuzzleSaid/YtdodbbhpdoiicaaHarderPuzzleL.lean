/-
  The plain laws: what the functions answer, in plain words.
-/
import Derived.Test.YtdodbbhpdoiicaaHarderPuzzleV
set_option linter.unusedVariables false
set_option linter.unusedSimpArgs false
namespace Go.Proofs.Ytdodbbhpdoiicaa
open Go.BV
theorem next64 {i : Nat} (h : i < 9223372036854775807) : IntKind.i64.wrap ((i : Int) + 1) = ((i + 1 : Nat) : Int) := by rw [w64 (by omega) (by omega)]; omega
/-- A loop over the places below 'len'. -/
theorem loopF {γ : Type} {F : Nat → Nat → γ} {len : Nat} {R : γ} (hstep : ∀ n i, i < len → F (n + 1) i = F n (i + 1)) (hend : ∀ n, F (n + 1) len = R) {n : Nat} (h : len < n) : F n 0 = R := by
  have key : ∀ k i n, i + k = len → k < n → F n i = R := by
    intro k
    induction k with
    | zero =>
      intro i n h1 h2
      obtain ⟨n, rfl⟩ : ∃ m, n = m + 1 := ⟨n - 1, by omega⟩
      obtain rfl : i = len := by omega
      exact hend n
    | succ k ih =>
      intro i n h1 h2
      obtain ⟨n, rfl⟩ : ∃ m, n = m + 1 := ⟨n - 1, by omega⟩
      rw [hstep n i (by omega)]
      exact ih (i + 1) n (by omega) (by omega)
  exact key len 0 n (by omega) h
theorem v_spec_l1Has {l : List Int} {x : Int} (hl : l.length ≤ 9223372036854775807) : sh_spec_l1Has l x = some (decide (x ∈ l)) := by
  have h := chk (F := fun m i => F_spec_l1Has_0 (l.length + 1) (fun r => some r) m x l (l.length : Int) (i : Int)) (len := l.length) (ok := fun i => l.getD i 0 ≠ x) (good := false) (bad := fun _ => true) (fun m i hi => by
    have h1 : ((i : Int) < (l.length : Int)) := by omega
    have h2 : (0 : Int) ≤ i := by omega
    simp only [F_spec_l1Has_0, S_spec_l1Has_0, h1, h2, decide_true, cond_true, if_true, Int.toNat_natCast, next64 (show i < 9223372036854775807 by omega)]
    by_cases hx : l.getD i 0 = x
    · exact .inr ⟨fun h => h hx, by rw [decide_eq_true hx]; rfl⟩
    · exact .inl ⟨hx, by rw [decide_eq_false hx]; rfl⟩) (fun m => by simp [F_spec_l1Has_0, S_spec_l1Has_0])
  refine sh_spec_l1Has_of (n := l.length + 1) ?_
  show F_spec_l1Has_0 (l.length + 1) (fun r => some r) (l.length + 1) x l (l.length : Int) ((0 : Nat) : Int) = _
  rcases h with ⟨h1, h2⟩ | ⟨j, h1, h2, _, h3⟩
  · rw [h2]
    congr 1
    symm
    rw [decide_eq_false_iff_not, mem_getD]
    rintro ⟨i, hi, e⟩
    exact h1 i hi e
  · rw [h3]
    congr 1
    symm
    rw [decide_eq_true_eq, mem_getD]
    exact ⟨j, h1, by simpa using h2⟩
theorem v_spec_l1In {a b c : Int} : sh_spec_l1In a b c = some (decide (b ≤ a ∧ a ≤ c)) := by
  show S_spec_l1In_e a b c (fun r => some r) = _
  unfold S_spec_l1In_e
  by_cases h1 : b ≤ a
  · simp [h1]
  · simp [h1]
theorem v_slices_Index_int_int {l : List Int} {x : Int} (hl : l.length ≤ 9223372036854775807) : ∃ r, sh_slices_Index_int_int l x = some r ∧ (0 ≤ r ↔ x ∈ l) := by
  have h := chk (F := fun m i => F_slices_Index_int_int_0 (l.length + 1) (fun r => some r) m l x (l.length : Int) (i : Int)) (len := l.length) (ok := fun i => x ≠ l.getD i 0) (good := (-1 : Int)) (bad := fun i => (i : Int)) (fun m i hi => by
    have h1 : ((i : Int) < (l.length : Int)) := by omega
    have h2 : (0 : Int) ≤ i := by omega
    simp only [F_slices_Index_int_int_0, S_slices_Index_int_int_0, h1, h2, decide_true, cond_true, if_true, Int.toNat_natCast, next64 (show i < 9223372036854775807 by omega)]
    by_cases hx : x = l.getD i 0
    · exact .inr ⟨fun h => h hx, by rw [decide_eq_true hx]; rfl⟩
    · exact .inl ⟨hx, by rw [decide_eq_false hx]; rfl⟩) (fun m => by simp [F_slices_Index_int_int_0, S_slices_Index_int_int_0])
  rcases h with ⟨h1, h2⟩ | ⟨j, h1, h2, _, h3⟩
  · refine ⟨-1, sh_slices_Index_int_int_of (n := l.length + 1) h2, by simp, fun h => ?_⟩
    obtain ⟨i, hi, e⟩ := mem_getD.1 h
    exact absurd e.symm (h1 i hi)
  · refine ⟨j, sh_slices_Index_int_int_of (n := l.length + 1) h3, fun _ => ?_, fun _ => by omega⟩
    exact mem_getD.2 ⟨j, h1, by simpa using (Decidable.not_not.1 h2).symm⟩
theorem v_slices_Contains_int_int {l : List Int} {x : Int} (hl : l.length ≤ 9223372036854775807) : sh_slices_Contains_int_int l x = some (decide (x ∈ l)) := by
  obtain ⟨r, h1, h2⟩ := v_slices_Index_int_int (x := x) hl
  show S_slices_Contains_int_int_e l x (fun r => some r) = _
  unfold S_slices_Contains_int_int_e
  rw [h1]
  simp [h2]
theorem v_laws_toIntS {l : List Int} (hl : l.length ≤ 1099511627776) : sh_laws_toIntS l = some l := by
  obtain ⟨s, h1, h2⟩ := bld (F := fun m i s => F_laws_toIntS_0 (l.length + 1) (fun r => some r) m l s (i : Int)) (len := l.length) (out := id) (Inv := fun i s => s.length = l.length ∧ s.take i = l.take i) (fun m i s hi hs => by
    have h1 : ((i : Int) < (l.length : Int)) := by omega
    have h2 : (0 : Int) ≤ i := by omega
    have h3 : ((i : Int) < (s.length : Int)) := by rw [hs.1]; exact h1
    refine ⟨s.set i (l.getD i 0), ⟨by simpa using hs.1, ?_⟩, ?_⟩
    · rw [List.take_add_one, List.take_add_one, List.take_set_of_le (Nat.le_refl _), hs.2]
      simp [hs.1, hi]
    · simp only [F_laws_toIntS_0, S_laws_toIntS_0, h1, h2, h3, decide_true, cond_true, if_true, Int.toNat_natCast, next64 (show i < 9223372036854775807 by omega)]) (fun m s _ => by simp [F_laws_toIntS_0, S_laws_toIntS_0]) l.length 0 (List.replicate l.length 0) (l.length + 1) (by omega) (by omega) ⟨by simp, by simp⟩
  have he : s = l := by
    have := h1.2
    rwa [List.take_length, show l.length = s.length from h1.1.symm, List.take_length] at this
  subst he
  refine sh_laws_toIntS_of (n := s.length + 1) ?_
  show S_laws_toIntS_e s (F_laws_toIntS_0 (s.length + 1) (fun r => some r) (s.length + 1)) = _
  unfold S_laws_toIntS_e
  rw [if_pos (by omega), if_pos (by omega)]
  exact h2
/-- A board of the right size whose holes rise. -/
structure GoodB (w h : Int) (hs : List Int) : Prop where
  w1 : 1 ≤ w
  w8 : w ≤ 8
  h1 : 1 ≤ h
  h8 : h ≤ 8
  few : (hs.length : Int) < w * h
  lie : ∀ x ∈ hs, 0 ≤ x ∧ x < w * h
  rise : ∀ i, i + 1 < hs.length → hs.getD i 0 < hs.getD (i + 1) 0
def GoodL (a b : Int) : Prop := 1 ≤ b ∧ b ≤ 5 ∧ 0 ≤ a ∧ a ≤ b
instance {a b : Int} : Decidable (GoodL a b) := by unfold GoodL; infer_instance
theorem mul8 {w h : Int} (a : 1 ≤ w) (b : w ≤ 8) (c : 1 ≤ h) (d : h ≤ 8) : 1 ≤ w * h ∧ w * h ≤ 64 := by
  have h1 : w = 1 ∨ w = 2 ∨ w = 3 ∨ w = 4 ∨ w = 5 ∨ w = 6 ∨ w = 7 ∨ w = 8 := by omega
  rcases h1 with rfl | rfl | rfl | rfl | rfl | rfl | rfl | rfl <;> omega
theorem v_spec_boSize {w h : Int} : sh_spec_boSize w h = some (decide ((1 ≤ w ∧ w ≤ 8) ∧ (1 ≤ h ∧ h ≤ 8))) := by
  show S_spec_boSize_e w h (fun r => some r) = _
  unfold S_spec_boSize_e
  rw [v_spec_l1In, v_spec_l1In]
  by_cases h1 : 1 ≤ w ∧ w ≤ 8
  · simp [h1]
  · simp only [Option.bind_some, decide_eq_false h1, cond_false]
    congr 1
    symm
    rw [decide_eq_false_iff_not]
    exact fun h => h1 h.1
theorem v_spec_boLeaper {a b : Int} : sh_spec_boLeaper a b = some (decide (GoodL a b)) := by
  show S_spec_boLeaper_e a b (fun r => some r) = _
  unfold S_spec_boLeaper_e
  rw [v_spec_l1In, v_spec_l1In]
  by_cases h1 : 1 ≤ b ∧ b ≤ 5
  · simp only [Option.bind_some, decide_eq_true h1, cond_true]
    congr 1
    rw [decide_eq_decide]
    unfold GoodL
    constructor
    · intro h; exact ⟨h1.1, h1.2, h.1, h.2⟩
    · intro h; exact ⟨h.2.2.1, h.2.2.2⟩
  · simp only [Option.bind_some, decide_eq_false h1, cond_false]
    congr 1
    symm
    rw [decide_eq_false_iff_not]
    exact fun h => h1 ⟨h.1, h.2.1⟩
theorem v_impl_IsLeaper {a b : Int} : sh_impl_IsLeaper a b = some (decide (GoodL a b)) := by
  show S_impl_IsLeaper_e a b (fun r => some r) = _
  unfold S_impl_IsLeaper_e
  by_cases h1 : a ≥ 0 <;> by_cases h2 : a ≤ b <;> by_cases h3 : b ≥ 1 <;> by_cases h4 : b ≤ 5 <;> simp [GoodL, h1, h2, h3, h4] <;> omega
theorem v_impl_sized {a : Int} : sh_impl_sized a = some (decide (1 ≤ a ∧ a ≤ 8)) := by
  show S_impl_sized_e a (fun r => some r) = _
  unfold S_impl_sized_e
  by_cases h1 : 1 ≤ a
  · simp [h1]
  · simp [h1]
theorem v_spec_l1All {l : List Int} {a b : Int} (hl : l.length ≤ 9223372036854775807) : sh_spec_l1All l a b = some (decide (∀ x ∈ l, a ≤ x ∧ x ≤ b)) := by
  have h := chk (F := fun m i => F_spec_l1All_0 (l.length + 1) (fun r => some r) m a b l (l.length : Int) (i : Int)) (len := l.length) (ok := fun i => a ≤ l.getD i 0 ∧ l.getD i 0 ≤ b) (good := true) (bad := fun _ => false) (fun m i hi => by
    have h1 : ((i : Int) < (l.length : Int)) := by omega
    have h2 : (0 : Int) ≤ i := by omega
    simp only [F_spec_l1All_0, S_spec_l1All_0, h1, h2, decide_true, cond_true, if_true, Int.toNat_natCast, next64 (show i < 9223372036854775807 by omega), v_spec_l1In, Option.bind_some]
    by_cases hx : a ≤ l.getD i 0 ∧ l.getD i 0 ≤ b
    · exact .inl ⟨hx, by rw [decide_eq_true hx]; rfl⟩
    · exact .inr ⟨hx, by rw [decide_eq_false hx]; rfl⟩) (fun m => by simp [F_spec_l1All_0, S_spec_l1All_0])
  refine sh_spec_l1All_of (n := l.length + 1) ?_
  show F_spec_l1All_0 (l.length + 1) (fun r => some r) (l.length + 1) a b l (l.length : Int) ((0 : Nat) : Int) = _
  rcases h with ⟨h1, h2⟩ | ⟨j, h1, h2, _, h3⟩
  · rw [h2]
    congr 1
    symm
    rw [decide_eq_true_eq]
    intro x hx
    obtain ⟨i, hi, rfl⟩ := mem_getD.1 hx
    exact h1 i hi
  · rw [h3]
    congr 1
    symm
    rw [decide_eq_false_iff_not]
    exact fun h => h2 (h _ (getD_mem h1))
theorem v_spec_boGood {w h : Int} {hs : List Int} (hl : hs.length ≤ 1099511627776) : ∃ b, sh_spec_boGood w h hs = some b ∧ (b = true ↔ GoodB w h hs) := by
  by_cases hw : (1 ≤ w ∧ w ≤ 8) ∧ (1 ≤ h ∧ h ≤ 8)
  · obtain ⟨⟨w1, w8⟩, h1, h8⟩ := hw
    obtain ⟨m1, m64⟩ := mul8 w1 w8 h1 h8
    have hm : IntKind.i64.wrap (w * h) = w * h := w64 (by omega) (by omega)
    have hm1 : IntKind.i64.wrap (w * h - 1) = w * h - 1 := w64 (by omega) (by omega)
    have key : ∀ n, F_spec_boGood n w h hs (fun r => some r) = (bif decide ((hs.length : Int) ≥ w * h) then some false else (bif !(decide (∀ x ∈ hs, 0 ≤ x ∧ x ≤ w * h - 1)) then some false else F_spec_boGood_0 n (fun r => some r) n 1 w h hs)) := by
      intro n
      show S_spec_boGood_e w h hs _ _ = _
      unfold S_spec_boGood_e
      rw [v_spec_boSize, hm, hm1, v_spec_l1All (by omega)]
      simp only [Option.bind_some, decide_eq_true (show (1 ≤ w ∧ w ≤ 8) ∧ (1 ≤ h ∧ h ≤ 8) from ⟨⟨w1, w8⟩, h1, h8⟩), Bool.not_true, cond_false]
    by_cases hf : (hs.length : Int) ≥ w * h
    · refine ⟨false, sh_spec_boGood_of (n := 0) (by rw [key, decide_eq_true hf]; rfl), by simp, fun g => ?_⟩
      have := g.few; omega
    · by_cases hx : ∀ x ∈ hs, 0 ≤ x ∧ x ≤ w * h - 1
      · have hc := chk (F := fun m i => F_spec_boGood_0 (hs.length - 1 + 1) (fun r => some r) m ((i : Int) + 1) w h hs) (len := hs.length - 1) (ok := fun i => hs.getD i 0 < hs.getD (i + 1) 0) (good := true) (bad := fun _ => false) (fun m i hi => by
          have q1 : ((i : Int) + 1 < (hs.length : Int)) := by omega
          have q2 : (0 : Int) ≤ i := by omega
          have q3 : (i : Int) < (hs.length : Int) := by omega
          have q4 : (0 : Int) ≤ (i : Int) + 1 := by omega
          have q5 : IntKind.i64.wrap ((i : Int) + 1 - 1) = i := by rw [w64 (by omega) (by omega)]; omega
          have q6 : IntKind.i64.wrap ((i : Int) + 1 + 1) = ((i + 1 : Nat) : Int) + 1 := by rw [w64 (by omega) (by omega)]; omega
          have q7 : ((i : Int) + 1).toNat = i + 1 := by omega
          simp only [F_spec_boGood_0, S_spec_boGood_0, q1, q2, q3, q4, q5, q6, q7, decide_true, cond_true, if_true, Int.toNat_natCast]
          by_cases hx : hs.getD i 0 < hs.getD (i + 1) 0
          · exact .inl ⟨hx, by rw [decide_eq_false (by omega)]; rfl⟩
          · exact .inr ⟨hx, by rw [decide_eq_true (by omega)]; rfl⟩) (fun m => by
            have q : ¬ (((hs.length - 1 : Nat) : Int) + 1 < (hs.length : Int)) := by omega
            simp only [F_spec_boGood_0, S_spec_boGood_0, q, decide_false, cond_false])
        rcases hc with ⟨q1, q2⟩ | ⟨j, q1, q2, _, q3⟩
        · refine ⟨true, sh_spec_boGood_of (n := hs.length - 1 + 1) (by rw [key, decide_eq_false hf, decide_eq_true hx]; exact q2), fun _ => ?_, fun _ => rfl⟩
          exact ⟨w1, w8, h1, h8, by omega, fun x hm => by have := hx x hm; omega, fun i hi => q1 i (by omega)⟩
        · refine ⟨false, sh_spec_boGood_of (n := hs.length - 1 + 1) (by rw [key, decide_eq_false hf, decide_eq_true hx]; exact q3), by simp, fun g => ?_⟩
          exact absurd (g.rise j (by omega)) q2
      · refine ⟨false, sh_spec_boGood_of (n := 0) (by rw [key, decide_eq_false hf, decide_eq_false hx]; rfl), by simp, fun g => ?_⟩
        exact absurd (fun x hm => by have := g.lie x hm; omega) hx
  · refine ⟨false, sh_spec_boGood_of (n := 0) ?_, by simp, fun g => absurd ⟨⟨g.w1, g.w8⟩, g.h1, g.h8⟩ hw⟩
    show S_spec_boGood_e w h hs _ _ = _
    unfold S_spec_boGood_e
    rw [v_spec_boSize, decide_eq_false hw]
    rfl
theorem v_impl_IsBoard {w h : Int} {hs : List Int} (hl : hs.length ≤ 1099511627776) : ∃ b, sh_impl_IsBoard w h hs = some b ∧ (b = true ↔ GoodB w h hs) := by
  by_cases hw1 : 1 ≤ w ∧ w ≤ 8
  · by_cases hw2 : 1 ≤ h ∧ h ≤ 8
    · obtain ⟨w1, w8⟩ := hw1
      obtain ⟨h1, h8⟩ := hw2
      obtain ⟨m1, m64⟩ := mul8 w1 w8 h1 h8
      have hm : IntKind.i64.wrap (w * h) = w * h := w64 (by omega) (by omega)
      have key : ∀ n, F_impl_IsBoard n w h hs (fun r => some r) = (bif decide ((hs.length : Int) ≥ w * h) then some false else F_impl_IsBoard_0 n (fun r => some r) n hs (hs.length : Int) ((0 : Nat) : Int) w h) := by
        intro n
        show S_impl_IsBoard_e w h hs _ _ = _
        unfold S_impl_IsBoard_e
        rw [v_impl_sized, v_impl_sized, hm]
        simp only [Option.bind_some, decide_eq_true (show (1 ≤ w ∧ w ≤ 8) from ⟨w1, w8⟩), decide_eq_true (show (1 ≤ h ∧ h ≤ 8) from ⟨h1, h8⟩), Bool.not_true, cond_false]
        rfl
      by_cases hf : (hs.length : Int) ≥ w * h
      · refine ⟨false, sh_impl_IsBoard_of (n := 0) (by rw [key, decide_eq_true hf]; rfl), by simp, fun g => ?_⟩
        have := g.few; omega
      · have hc := chk (F := fun m i => F_impl_IsBoard_0 (hs.length + 1) (fun r => some r) m hs (hs.length : Int) (i : Int) w h) (len := hs.length) (ok := fun i => (0 ≤ hs.getD i 0 ∧ hs.getD i 0 < w * h) ∧ (0 < i → hs.getD (i - 1) 0 < hs.getD i 0)) (good := true) (bad := fun _ => false) (fun m i hi => by
          have q1 : ((i : Int) < (hs.length : Int)) := by omega
          have q2 : (0 : Int) ≤ i := by omega
          simp only [F_impl_IsBoard_0, S_impl_IsBoard_0, q1, q2, decide_true, cond_true, if_true, Int.toNat_natCast, hm, next64 (show i < 9223372036854775807 by omega)]
          by_cases r1 : hs.getD i 0 < 0
          · exact .inr ⟨fun h => by omega, by rw [decide_eq_true r1]; rfl⟩
          · rw [decide_eq_false r1]
            simp only [cond_false]
            by_cases r2 : hs.getD i 0 ≥ w * h
            · exact .inr ⟨fun h => by omega, by rw [decide_eq_true r2]; rfl⟩
            · rw [decide_eq_false r2]
              simp only [cond_false]
              by_cases r3 : 0 < i
              · have q5 : IntKind.i64.wrap ((i : Int) - 1) = ((i - 1 : Nat) : Int) := by rw [w64 (by omega) (by omega)]; omega
                have q6 : (0 : Int) ≤ ((i - 1 : Nat) : Int) := by omega
                have q7 : ((i - 1 : Nat) : Int) < (hs.length : Int) := by omega
                rw [decide_eq_true (show (i : Int) > 0 by omega)]
                simp only [cond_true, q5, q6, q7, if_true, Int.toNat_natCast]
                by_cases r4 : hs.getD (i - 1) 0 < hs.getD i 0
                · exact .inl ⟨⟨⟨by omega, by omega⟩, fun _ => r4⟩, by rw [decide_eq_false (by omega)]; rfl⟩
                · exact .inr ⟨fun h => r4 (h.2 r3), by rw [decide_eq_true (by omega)]; rfl⟩
              · rw [decide_eq_false (show ¬ (i : Int) > 0 by omega)]
                exact .inl ⟨⟨⟨by omega, by omega⟩, fun h => absurd h r3⟩, rfl⟩) (fun m => by
            have q : ¬ ((hs.length : Int) < (hs.length : Int)) := by omega
            simp only [F_impl_IsBoard_0, S_impl_IsBoard_0, q, decide_false, cond_false])
        rcases hc with ⟨q1, q2⟩ | ⟨j, q1, q2, _, q3⟩
        · refine ⟨true, sh_impl_IsBoard_of (n := hs.length + 1) (by rw [key, decide_eq_false hf]; exact q2), fun _ => ?_, fun _ => rfl⟩
          refine ⟨w1, w8, h1, h8, by omega, fun x hm => ?_, fun i hi => ?_⟩
          · obtain ⟨i, hi, rfl⟩ := mem_getD.1 hm
            exact (q1 i hi).1
          · exact (q1 (i + 1) hi).2 (by omega)
        · refine ⟨false, sh_impl_IsBoard_of (n := hs.length + 1) (by rw [key, decide_eq_false hf]; exact q3), by simp, fun g => ?_⟩
          refine absurd ⟨g.lie _ (getD_mem q1), fun hj => ?_⟩ q2
          have := g.rise (j - 1) (by omega)
          rwa [show j - 1 + 1 = j by omega] at this
    · refine ⟨false, sh_impl_IsBoard_of (n := 0) ?_, by simp, fun g => absurd ⟨g.h1, g.h8⟩ hw2⟩
      show S_impl_IsBoard_e w h hs _ _ = _
      unfold S_impl_IsBoard_e
      rw [v_impl_sized, v_impl_sized, decide_eq_true hw1, decide_eq_false hw2]
      rfl
  · refine ⟨false, sh_impl_IsBoard_of (n := 0) ?_, by simp, fun g => absurd ⟨g.w1, g.w8⟩ hw1⟩
    show S_impl_IsBoard_e w h hs _ _ = _
    unfold S_impl_IsBoard_e
    rw [v_impl_sized, decide_eq_false hw1]
    rfl
theorem GoodB.m {w h : Int} {hs : List Int} (g : GoodB w h hs) : 1 ≤ w * h ∧ w * h ≤ 64 := mul8 g.w1 g.w8 g.h1 g.h8
theorem GoodB.lt {w h : Int} {hs : List Int} (g : GoodB w h hs) : ∀ (j i : Nat), i < j → j < hs.length → hs.getD i 0 < hs.getD j 0 := by
  intro j
  induction j with
  | zero => intro i hi; omega
  | succ j ih =>
    intro i hi hj
    rcases Nat.eq_or_lt_of_le (Nat.le_of_lt_succ hi) with rfl | q
    · exact g.rise i hj
    · exact Int.lt_trans (ih i q (by omega)) (g.rise j hj)
theorem GoodB.nodup {w h : Int} {hs : List Int} (g : GoodB w h hs) : hs.Nodup := by
  rw [List.Nodup, List.pairwise_iff_getElem]
  intro i j hi hj hij e
  have := g.lt j i hij hj
  rw [getD_lt hi, getD_lt hj, e] at this
  omega
/-- The cells below n that are there. -/
def cellsL (n : Nat) (hs : List Int) : List Int := ((List.range n).map fun i : Nat => (i : Int)).filter fun c => decide (c ∉ hs)
theorem cellsL_succ (n : Nat) (hs : List Int) : cellsL (n + 1) hs = cellsL n hs ++ (if (n : Int) ∈ hs then [] else [(n : Int)]) := by
  unfold cellsL
  rw [List.range_succ, List.map_append, List.filter_append]
  congr 1
  by_cases h : (n : Int) ∈ hs <;> simp [h]
theorem cellsL_le (n : Nat) (hs : List Int) : (cellsL n hs).length ≤ n := by
  unfold cellsL
  refine Nat.le_trans (List.length_filter_le ..) ?_
  simp
theorem below_succ {n : Int} : ∀ {hs : List Int}, hs.Nodup → (hs.filter fun x => decide (x < n + 1)).length = (hs.filter fun x => decide (x < n)).length + (if n ∈ hs then 1 else 0)
  | [], _ => by simp
  | x :: hs, h => by
    rw [List.nodup_cons] at h
    have ih := below_succ (n := n) h.2
    by_cases e : x = n
    · subst e
      rw [if_neg h.1] at ih
      rw [List.filter_cons, List.filter_cons, if_pos (by simp; omega), if_neg (by simp), if_pos (List.mem_cons_self ..), List.length_cons, ih]
    · have hm : (n ∈ x :: hs) ↔ n ∈ hs := by
        rw [List.mem_cons]
        exact ⟨fun q => q.resolve_left fun q => e q.symm, .inr⟩
      by_cases hx : x < n
      · rw [List.filter_cons, List.filter_cons, if_pos (by simp; omega), if_pos (by simpa using hx), List.length_cons, List.length_cons, ih]
        simp only [hm]
        omega
      · rw [List.filter_cons, List.filter_cons, if_neg (by simp; omega), if_neg (by simpa using hx), ih]
        simp only [hm]
theorem cellsL_count {hs : List Int} (h : hs.Nodup) (h0 : ∀ x ∈ hs, 0 ≤ x) : ∀ n : Nat, (cellsL n hs).length + (hs.filter fun x => decide (x < (n : Int))).length = n
  | 0 => by
    have : (hs.filter fun x => decide (x < ((0 : Nat) : Int))) = [] := by
      rw [List.filter_eq_nil_iff]
      intro x hx
      have := h0 x hx
      simp; omega
    rw [this]; rfl
  | n + 1 => by
    have ih := cellsL_count h h0 n
    have hb := below_succ (n := (n : Int)) h
    rw [cellsL_succ, List.length_append, show ((n + 1 : Nat) : Int) = (n : Int) + 1 by omega, hb]
    by_cases hm : (n : Int) ∈ hs
    · rw [if_pos hm, if_pos hm, List.length_nil]; omega
    · rw [if_neg hm, if_neg hm, List.length_singleton]; omega
theorem GoodB.count {w h : Int} {hs : List Int} (g : GoodB w h hs) : ((cellsL (w * h).toNat hs).length : Int) = w * h - hs.length := by
  obtain ⟨m1, _⟩ := mul8 g.w1 g.w8 g.h1 g.h8
  have h1 := cellsL_count g.nodup (fun x hx => (g.lie x hx).1) (w * h).toNat
  have h2 : (hs.filter fun x => decide (x < (((w * h).toNat : Nat) : Int))) = hs := by
    rw [List.filter_eq_self]
    intro x hx
    have := (g.lie x hx).2
    simp; omega
  rw [h2] at h1
  omega
/-- The cell lies on the board and is there. -/
def hasP (w h : Int) (hs : List Int) (c : Int) : Prop := 0 ≤ c ∧ c < w * h ∧ c ∉ hs
instance {w h c : Int} {hs : List Int} : Decidable (hasP w h hs c) := by unfold hasP; infer_instance
theorem v_spec_boHas {w h c : Int} {hs : List Int} (m1 : 1 ≤ w * h) (m64 : w * h ≤ 64) (hl : hs.length ≤ 1099511627776) : sh_spec_boHas w h hs c = some (decide (hasP w h hs c)) := by
  show S_spec_boHas_e w h hs c (fun r => some r) = _
  unfold S_spec_boHas_e
  rw [w64 (n := w * h) (by omega) (by omega), w64 (by omega) (by omega), v_spec_l1In, v_spec_l1Has (by omega)]
  simp only [Option.bind_some]
  by_cases h1 : 0 ≤ c ∧ c ≤ w * h - 1
  · rw [decide_eq_true h1, cond_true, ← decide_not]
    congr 1
    rw [decide_eq_decide]
    exact ⟨fun h => ⟨h1.1, by omega, h⟩, fun h => h.2.2⟩
  · rw [decide_eq_false h1, cond_false]
    congr 1
    symm
    rw [decide_eq_false_iff_not]
    exact fun h => h1 ⟨h.1, by have := h.2.1; omega⟩
theorem v_impl_Board_has {w h c : Int} {hs : List Int} (m1 : 1 ≤ w * h) (m64 : w * h ≤ 64) (hl : hs.length ≤ 1099511627776) : sh_impl_Board_has w h hs c = some (decide (hasP w h hs c)) := by
  show S_impl_Board_has_e w h hs c (fun r => some r) = _
  unfold S_impl_Board_has_e
  rw [w64 (n := w * h) (by omega) (by omega), v_slices_Contains_int_int (by omega)]
  simp only [Option.bind_some]
  by_cases h1 : c ≥ 0
  · rw [decide_eq_true h1, cond_true]
    by_cases h2 : c < w * h
    · rw [decide_eq_true h2, cond_true, ← decide_not]
      congr 1
      rw [decide_eq_decide]
      exact ⟨fun h => ⟨h1, h2, h⟩, fun h => h.2.2⟩
    · rw [decide_eq_false h2, cond_false]
      congr 1
      symm
      rw [decide_eq_false_iff_not]
      exact fun h => h2 h.2.1
  · rw [decide_eq_false h1, cond_false]
    congr 1
    symm
    rw [decide_eq_false_iff_not]
    exact fun h => h1 h.1
theorem v_spec_boCells {w h : Int} {hs : List Int} (m1 : 1 ≤ w * h) (m64 : w * h ≤ 64) (hl : hs.length ≤ 1099511627776) : sh_spec_boCells w h hs = some (cellsL (w * h).toNat hs) := by
  have hm : IntKind.i64.wrap (w * h) = w * h := w64 (by omega) (by omega)
  obtain ⟨s, h1, h2⟩ := bld (F := fun m i s => F_spec_boCells_0 ((w * h).toNat + 1) (fun r => some r) m s (i : Int) w h hs) (len := (w * h).toNat) (out := id) (Inv := fun i s => s = cellsL i hs) (fun m i s hi hs' => by
    have q1 : (i : Int) < w * h := by omega
    refine ⟨cellsL (i + 1) hs, rfl, ?_⟩
    simp only [F_spec_boCells_0, S_spec_boCells_0, F_spec_boCells_1, S_spec_boCells_1, hm, q1, decide_true, cond_true, v_spec_boHas m1 m64 hl, Option.bind_some, next64 (show i < 9223372036854775807 by omega)]
    have hle := cellsL_le i hs
    by_cases hx : (i : Int) ∈ hs
    · rw [decide_eq_false (fun hh => hh.2.2 hx), cond_false, hs', cellsL_succ, if_pos hx, List.append_nil]
    · rw [decide_eq_true (show hasP w h hs i from ⟨by omega, q1, hx⟩), cond_true, hs', cellsL_succ, if_neg hx, if_pos (by simp; omega)]) (fun m s hs' => by
      have q : ¬ (((w * h).toNat : Int) < w * h) := by omega
      simp only [F_spec_boCells_0, S_spec_boCells_0, hm, q, decide_false, cond_false, id]) (w * h).toNat 0 [] ((w * h).toNat + 1) (by omega) (by omega) rfl
  rw [← h1]
  refine sh_spec_boCells_of (n := (w * h).toNat + 1) ?_
  exact h2
theorem v_spec_boTwo {w h a b : Int} {hs : List Int} (hl : hs.length ≤ 1099511627776) : ∃ r, sh_spec_boTwo w h hs a b = some r ∧ (r = true ↔ GoodB w h hs ∧ GoodL a b) := by
  obtain ⟨r1, h1, h2⟩ := v_spec_boGood (w := w) (h := h) hl
  show ∃ r, S_spec_boTwo_e w h hs a b (fun r => some r) = some r ∧ _
  unfold S_spec_boTwo_e
  rw [h1, v_spec_boLeaper]
  cases r1 with
  | true => exact ⟨_, rfl, by simp [← h2]⟩
  | false => exact ⟨_, rfl, by simp [← h2]⟩
/-- One number of a puzzle is in order. -/
def okN (w h : Int) (hs ns : List Int) (i : Nat) : Prop := ns.getD i 0 = 0 ∨ (1 ≤ ns.getD i 0 ∧ ns.getD i 0 ≤ w * h - hs.length ∧ hasP w h hs i ∧ ns.getD i 0 ∉ ns.take i)
structure PZ (w h : Int) (hs : List Int) (a b : Int) (ns : List Int) : Prop where
  bd : GoodB w h hs
  lp : GoodL a b
  len : (ns.length : Int) = w * h
  few : w * h - hs.length ≤ 16
  nums : ∀ i, i < ns.length → okN w h hs ns i
theorem v_spec_pzGood {w h a b : Int} {hs ns : List Int} (hl : hs.length ≤ 1099511627776) : ∃ r, sh_spec_pzGood w h hs a b ns = some r ∧ (r = true ↔ PZ w h hs a b ns) := by
  obtain ⟨r1, h1, h2⟩ := v_spec_boTwo (w := w) (h := h) (a := a) (b := b) hl
  cases r1 with
  | false =>
    refine ⟨false, sh_spec_pzGood_of (n := 0) ?_, by simp, fun p => absurd (h2.2 ⟨p.bd, p.lp⟩) (by simp)⟩
    show S_spec_pzGood_e w h hs a b ns _ _ = _
    unfold S_spec_pzGood_e
    rw [h1]
    rfl
  | true =>
    obtain ⟨g, gl⟩ := h2.1 rfl
    obtain ⟨m1, m64⟩ := mul8 g.w1 g.w8 g.h1 g.h8
    have hm : IntKind.i64.wrap (w * h) = w * h := w64 (by omega) (by omega)
    have hc := g.count
    have key : ∀ n, F_spec_pzGood n w h hs a b ns (fun r => some r) = (bif !decide ((ns.length : Int) = w * h) then some false else (bif decide (w * h - hs.length > 16) then some false else F_spec_pzGood_0 n (fun r => some r) n (w * h - hs.length) ns (ns.length : Int) ((0 : Nat) : Int) w h hs a b)) := by
      intro n
      show S_spec_pzGood_e w h hs a b ns _ _ = _
      unfold S_spec_pzGood_e
      rw [h1, v_spec_boCells m1 m64 hl, hm]
      simp only [Option.bind_some, Bool.not_true, cond_false, hc]
      rfl
    by_cases hlen : (ns.length : Int) = w * h
    · by_cases hfew : w * h - hs.length > 16
      · refine ⟨false, sh_spec_pzGood_of (n := 0) (by rw [key, decide_eq_true hlen, decide_eq_true hfew]; rfl), by simp, fun p => ?_⟩
        have := p.few; omega
      · have hck := chk (F := fun m i => F_spec_pzGood_0 (ns.length + 1) (fun r => some r) m (w * h - hs.length) ns (ns.length : Int) (i : Int) w h hs a b) (len := ns.length) (ok := fun i => okN w h hs ns i) (good := true) (bad := fun _ => false) (fun m i hi => by
          have q1 : ((i : Int) < (ns.length : Int)) := by omega
          have q2 : (0 : Int) ≤ i := by omega
          have q3 : (i : Int) ≤ (ns.length : Int) := by omega
          have hgf := g.few
          simp only [F_spec_pzGood_0, S_spec_pzGood_0, q1, q2, q3, decide_true, cond_true, if_true, Int.toNat_natCast, v_spec_l1In, v_spec_boHas m1 m64 hl, Option.bind_some, List.drop_zero, v_spec_l1Has (l := ns.take i) (by simp; omega), next64 (show i < 9223372036854775807 by omega)]
          by_cases r1 : 0 ≤ ns.getD i 0 ∧ ns.getD i 0 ≤ w * h - hs.length
          · rw [decide_eq_true r1]
            simp only [Bool.not_true, cond_false]
            by_cases r2 : ns.getD i 0 = 0
            · exact .inl ⟨.inl r2, by rw [decide_eq_true r2]; rfl⟩
            · rw [decide_eq_false r2]
              simp only [Bool.not_false, cond_true]
              by_cases r3 : hasP w h hs (i : Int)
              · rw [decide_eq_true r3]
                simp only [Bool.not_true, cond_false]
                by_cases r4 : ns.getD i 0 ∈ ns.take i
                · exact .inr ⟨fun o => o.elim r2 (fun o => o.2.2.2 r4), by rw [decide_eq_true r4]; rfl⟩
                · exact .inl ⟨.inr ⟨by omega, r1.2, r3, r4⟩, by rw [decide_eq_false r4]; rfl⟩
              · exact .inr ⟨fun o => o.elim r2 (fun o => r3 o.2.2.1), by rw [decide_eq_false r3]; rfl⟩
          · exact .inr ⟨fun o => o.elim (fun o => by omega) (fun o => by omega), by rw [decide_eq_false r1]; rfl⟩) (fun m => by
            have q : ¬ ((ns.length : Int) < (ns.length : Int)) := by omega
            simp only [F_spec_pzGood_0, S_spec_pzGood_0, q, decide_false, cond_false])
        rcases hck with ⟨q1, q2⟩ | ⟨j, q1, q2, _, q3⟩
        · exact ⟨true, sh_spec_pzGood_of (n := ns.length + 1) (by rw [key, decide_eq_true hlen, decide_eq_false hfew]; exact q2), fun _ => ⟨g, gl, hlen, by omega, q1⟩, fun _ => rfl⟩
        · exact ⟨false, sh_spec_pzGood_of (n := ns.length + 1) (by rw [key, decide_eq_true hlen, decide_eq_false hfew]; exact q3), by simp, fun p => absurd (p.nums j q1) q2⟩
    · exact ⟨false, sh_spec_pzGood_of (n := 0) (by rw [key, decide_eq_false hlen]; rfl), by simp, fun p => absurd p.len hlen⟩
theorem mem_take_succ {ns : List Int} {i : Nat} (hi : i < ns.length) {x : Int} : x ∈ ns.take (i + 1) ↔ x ∈ ns.take i ∨ x = ns.getD i 0 := by
  rw [List.take_add_one, List.mem_append, getD_lt hi]
  simp [hi]
theorem v_impl_IsPuzzle {w h a b : Int} {hs ns : List Int} (hl : hs.length ≤ 1099511627776) (hn : ns.length ≤ 1099511627776) : ∃ r, sh_impl_IsPuzzle w h hs a b ns = some r ∧ (r = true ↔ PZ w h hs a b ns) := by
  obtain ⟨r1, h1, h2⟩ := v_impl_IsBoard (w := w) (h := h) hl
  cases r1 with
  | false =>
    refine ⟨false, sh_impl_IsPuzzle_of (n := 0) ?_, by simp, fun p => absurd (h2.2 p.bd) (by simp)⟩
    show S_impl_IsPuzzle_e w h hs a b ns _ _ = _
    unfold S_impl_IsPuzzle_e
    rw [h1]
    rfl
  | true =>
    have g := h2.1 rfl
    obtain ⟨m1, m64⟩ := mul8 g.w1 g.w8 g.h1 g.h8
    have hm : IntKind.i64.wrap (w * h) = w * h := w64 (by omega) (by omega)
    have hfew := g.few
    by_cases gl : GoodL a b
    · by_cases hlen : (ns.length : Int) = w * h
      · have hmm : IntKind.i64.wrap ((ns.length : Int) - (hs.length : Int)) = (ns.length : Int) - hs.length := w64 (by omega) (by omega)
        have hm1 : IntKind.i64.wrap ((ns.length : Int) - (hs.length : Int) + 1) = (ns.length : Int) - hs.length + 1 := w64 (by omega) (by omega)
        by_cases hf16 : (ns.length : Int) - hs.length > 16
        · refine ⟨false, sh_impl_IsPuzzle_of (n := 0) ?_, by simp, fun p => ?_⟩
          · show S_impl_IsPuzzle_e w h hs a b ns _ _ = _
            unfold S_impl_IsPuzzle_e
            rw [h1, v_impl_IsLeaper, decide_eq_true gl, hm, hmm, decide_eq_true hf16, decide_eq_true hlen]
            rfl
          · have := p.few; omega
        · have key : ∀ n, F_impl_IsPuzzle n w h hs a b ns (fun r => some r) = F_impl_IsPuzzle_0 n (fun r => some r) n ((ns.length : Int) - hs.length) (List.replicate ((ns.length : Int) - hs.length + 1).toNat false) ns (ns.length : Int) ((0 : Nat) : Int) w h hs a b := by
            intro n
            show S_impl_IsPuzzle_e w h hs a b ns _ _ = _
            unfold S_impl_IsPuzzle_e
            rw [h1, v_impl_IsLeaper, decide_eq_true gl, hm, hmm, hm1, decide_eq_false hf16, decide_eq_true hlen]
            simp only [Option.bind_some, Bool.not_true, cond_false]
            rw [if_pos (by omega), if_pos (by omega)]
            rfl
          have hck := chkS (F := fun m i s => F_impl_IsPuzzle_0 (ns.length + 1) (fun r => some r) m ((ns.length : Int) - hs.length) s ns (ns.length : Int) (i : Int) w h hs a b) (len := ns.length) (ok := fun i => okN w h hs ns i) (good := true) (bad := fun _ => false)
            (Inv := fun i s => (s.length : Int) = (ns.length : Int) - hs.length + 1 ∧ ∀ v : Int, 1 ≤ v → v ≤ (ns.length : Int) - hs.length → (s.getD v.toNat false = true ↔ v ∈ ns.take i)) (fun m i s hi hs' => by
            obtain ⟨i1, i2⟩ := hs'
            have q1 : ((i : Int) < (ns.length : Int)) := by omega
            have q2 : (0 : Int) ≤ i := by omega
            simp only [F_impl_IsPuzzle_0, S_impl_IsPuzzle_0, q1, q2, decide_true, cond_true, if_true, Int.toNat_natCast, v_impl_Board_has m1 m64 hl, Option.bind_some, next64 (show i < 9223372036854775807 by omega)]
            by_cases r1 : ns.getD i 0 = 0
            · refine .inl ⟨.inl r1, s, ⟨i1, fun v hv1 hv2 => ?_⟩, by rw [decide_eq_true r1]; rfl⟩
              rw [i2 v hv1 hv2, mem_take_succ hi, r1]
              exact ⟨.inl, fun o => o.resolve_right (by omega)⟩
            · rw [decide_eq_false r1]
              simp only [cond_false]
              by_cases r2 : ns.getD i 0 < 0
              · exact .inr ⟨fun o => o.elim r1 (fun o => by omega), by rw [decide_eq_true r2]; rfl⟩
              · rw [decide_eq_false r2]
                simp only [cond_false]
                by_cases r3 : ns.getD i 0 > (ns.length : Int) - hs.length
                · exact .inr ⟨fun o => o.elim r1 (fun o => by omega), by rw [decide_eq_true r3]; rfl⟩
                · rw [decide_eq_false r3]
                  simp only [cond_false]
                  by_cases r4 : hasP w h hs (i : Int)
                  · rw [decide_eq_true r4]
                    simp only [Bool.not_true, cond_false]
                    have q3 : (0 : Int) ≤ ns.getD i 0 := by omega
                    have q4 : ns.getD i 0 < (s.length : Int) := by omega
                    simp only [q3, q4, if_true]
                    have i3 := i2 (ns.getD i 0) (by omega) (by omega)
                    by_cases r5 : ns.getD i 0 ∈ ns.take i
                    · exact .inr ⟨fun o => o.elim r1 (fun o => o.2.2.2 r5), by rw [i3.2 r5]; rfl⟩
                    · have r6 : s.getD (ns.getD i 0).toNat false = false := by
                        cases e : s.getD (ns.getD i 0).toNat false
                        · rfl
                        · exact absurd (i3.1 e) r5
                      refine .inl ⟨.inr ⟨by omega, by omega, r4, r5⟩, s.set (ns.getD i 0).toNat true, ⟨by simpa using i1, fun v hv1 hv2 => ?_⟩, by rw [r6]; rfl⟩
                      rw [mem_take_succ hi]
                      by_cases e : v = ns.getD i 0
                      · subst e
                        rw [getD_set, if_pos ⟨rfl, by omega⟩]
                        exact ⟨fun _ => .inr rfl, fun _ => rfl⟩
                      · have hne : (ns.getD i 0).toNat ≠ v.toNat := by omega
                        rw [getD_set, if_neg (fun q => hne q.1), i2 v hv1 hv2]
                        exact ⟨.inl, fun o => o.resolve_right e⟩
                  · exact .inr ⟨fun o => o.elim r1 (fun o => r4 o.2.2.1), by rw [decide_eq_false r4]; rfl⟩) (fun m s _ => by
              have q : ¬ ((ns.length : Int) < (ns.length : Int)) := by omega
              simp only [F_impl_IsPuzzle_0, S_impl_IsPuzzle_0, q, decide_false, cond_false]) ns.length 0 (List.replicate ((ns.length : Int) - hs.length + 1).toNat false) (ns.length + 1) (by omega) (by omega) ⟨by simp; omega, fun v _ _ => by simp [List.getElem?_replicate]; split <;> simp⟩
          rcases hck with ⟨q1, q2⟩ | ⟨j, _, q1, q2, _, q3⟩
          · exact ⟨true, sh_impl_IsPuzzle_of (n := ns.length + 1) (by rw [key]; exact q2), fun _ => ⟨g, gl, hlen, by omega, fun i hi => q1 i (by omega) hi⟩, fun _ => rfl⟩
          · exact ⟨false, sh_impl_IsPuzzle_of (n := ns.length + 1) (by rw [key]; exact q3), by simp, fun p => absurd (p.nums j q1) q2⟩
      · refine ⟨false, sh_impl_IsPuzzle_of (n := 0) ?_, by simp, fun p => absurd p.len hlen⟩
        show S_impl_IsPuzzle_e w h hs a b ns _ _ = _
        unfold S_impl_IsPuzzle_e
        rw [h1, v_impl_IsLeaper, decide_eq_true gl, hm, decide_eq_false hlen]
        rfl
    · refine ⟨false, sh_impl_IsPuzzle_of (n := 0) ?_, by simp, fun p => absurd p.lp gl⟩
      show S_impl_IsPuzzle_e w h hs a b ns _ _ = _
      unfold S_impl_IsPuzzle_e
      rw [h1, v_impl_IsLeaper, decide_eq_false gl]
      rfl
theorem v_laws_eqIntS {l m : List Int} (hl : l.length ≤ 9223372036854775807) : sh_laws_eqIntS l m = some (decide (l = m)) := by
  have key : ∀ n, F_laws_eqIntS n l m (fun r => some r) = (bif !decide ((l.length : Int) = (m.length : Int)) then some false else F_laws_eqIntS_0 n (fun r => some r) n l m ((0 : Nat) : Int)) := fun n => rfl
  by_cases he : l.length = m.length
  · have h := chk (F := fun k i => F_laws_eqIntS_0 (l.length + 1) (fun r => some r) k l m (i : Int)) (len := l.length) (ok := fun i => l.getD i 0 = m.getD i 0) (good := true) (bad := fun _ => false) (fun k i hi => by
      have h1 : ((i : Int) < (l.length : Int)) := by omega
      have h2 : (0 : Int) ≤ i := by omega
      have h3 : ((i : Int) < (m.length : Int)) := by omega
      simp only [F_laws_eqIntS_0, S_laws_eqIntS_0, h1, h2, h3, decide_true, cond_true, if_true, Int.toNat_natCast, next64 (show i < 9223372036854775807 by omega)]
      by_cases hx : l.getD i 0 = m.getD i 0
      · exact .inl ⟨hx, by rw [decide_eq_true hx]; rfl⟩
      · exact .inr ⟨hx, by rw [decide_eq_false hx]; rfl⟩) (fun k => by simp [F_laws_eqIntS_0, S_laws_eqIntS_0])
    refine sh_laws_eqIntS_of (n := l.length + 1) ?_
    rw [key, decide_eq_true (show (l.length : Int) = (m.length : Int) by omega)]
    show F_laws_eqIntS_0 (l.length + 1) (fun r => some r) (l.length + 1) l m ((0 : Nat) : Int) = _
    rcases h with ⟨h1, h2⟩ | ⟨j, h1, h2, _, h3⟩
    · rw [h2]
      congr 1
      symm
      rw [decide_eq_true_eq]
      refine List.ext_getElem he fun i hi hi' => ?_
      have := h1 i hi
      rwa [getD_lt hi, getD_lt hi'] at this
    · rw [h3]
      congr 1
      symm
      rw [decide_eq_false_iff_not]
      rintro rfl
      exact h2 rfl
  · refine sh_laws_eqIntS_of (n := 0) ?_
    rw [key, decide_eq_false (show ¬ (l.length : Int) = (m.length : Int) by omega), decide_eq_false (show ¬ l = m from fun e => he (by rw [e]))]
    rfl
theorem v_laws_eqBoard {w h w' h' : Int} {l l' : List Int} (hl : l.length ≤ 9223372036854775807) : sh_laws_eqBoard w h l w' h' l' = some (decide (w = w' ∧ h = h' ∧ l = l')) := by
  show S_laws_eqBoard_e w h l w' h' l' (fun r => some r) = _
  unfold S_laws_eqBoard_e
  rw [v_laws_eqIntS hl]
  by_cases h1 : w = w' <;> by_cases h2 : h = h' <;> by_cases h3 : l = l' <;> simp [h1, h2, h3]
theorem v_laws_eqLeaper {a b a' b' : Int} : sh_laws_eqLeaper a b a' b' = some (decide (a = a' ∧ b = b')) := by
  show S_laws_eqLeaper_e a b a' b' (fun r => some r) = _
  unfold S_laws_eqLeaper_e
  by_cases h1 : a = a' <;> by_cases h2 : b = b' <;> simp [h1, h2]
theorem v_laws_eqPuzzle {w h a b w' h' a' b' : Int} {l n l' n' : List Int} (hl : l.length ≤ 9223372036854775807) (hn : n.length ≤ 9223372036854775807) : sh_laws_eqPuzzle w h l a b n w' h' l' a' b' n' = some (decide ((w = w' ∧ h = h' ∧ l = l') ∧ (a = a' ∧ b = b') ∧ n = n')) := by
  show S_laws_eqPuzzle_e w h l a b n w' h' l' a' b' n' (fun r => some r) = _
  unfold S_laws_eqPuzzle_e
  rw [v_laws_eqBoard hl, v_laws_eqLeaper, v_laws_eqIntS hn]
  by_cases h1 : w = w' ∧ h = h' ∧ l = l' <;> by_cases h2 : a = a' ∧ b = b' <;> by_cases h3 : n = n' <;> simp only [h1, h2, h3, decide_true, decide_false, Option.bind_some, Bool.not_true, Bool.not_false, cond_true, cond_false, and_true, true_and, and_false, false_and] <;> rfl
theorem v_laws_szIntS {l : List Int} {n : Int} (hl : l.length ≤ 9223372036854775807) (h0 : 0 ≤ n) (h1 : n ≤ 1048576) : sh_laws_szIntS l n = some (if n < l.length then -1 else n - l.length) := by
  show S_laws_szIntS_e l n (fun r => some r) = _
  unfold S_laws_szIntS_e
  rw [w64 (by omega) (by omega)]
  by_cases h : n < (l.length : Int)
  · rw [if_pos h, decide_eq_true (by omega)]; rfl
  · rw [if_neg h, decide_eq_false (by omega)]; rfl
theorem v_laws_szBoard {w h : Int} {l : List Int} {n : Int} (hl : l.length ≤ 9223372036854775807) (h0 : 0 ≤ n) (h1 : n ≤ 1048576) : sh_laws_szBoard w h l n = some (if n < l.length then -1 else n - l.length) := by
  show S_laws_szBoard_e w h l n (fun r => some r) = _
  unfold S_laws_szBoard_e
  rw [v_laws_szIntS hl h0 h1]
  by_cases h : n < (l.length : Int)
  · simp [h]
  · simp only [if_neg h, Option.bind_some]
    rw [decide_eq_false (by omega)]; rfl
theorem v_laws_szPuzzle {w h a b : Int} {l m : List Int} {n : Int} (hl : l.length ≤ 9223372036854775807) (hm : m.length ≤ 9223372036854775807) (h0 : 0 ≤ n) (h1 : n ≤ 1048576) : sh_laws_szPuzzle w h l a b m n = some (if n < (l.length : Int) + m.length then -1 else n - l.length - m.length) := by
  show S_laws_szPuzzle_e w h l a b m n (fun r => some r) = _
  unfold S_laws_szPuzzle_e
  rw [v_laws_szBoard hl h0 h1]
  by_cases h : n < (l.length : Int)
  · rw [if_pos h, if_pos (show n < (l.length : Int) + m.length by omega)]; rfl
  · simp only [if_neg h, Option.bind_some]
    rw [decide_eq_false (by omega), v_laws_szIntS hm (by omega) (by omega)]
    by_cases h' : n - l.length < (m.length : Int)
    · rw [if_pos h', if_pos (show n < (l.length : Int) + m.length by omega)]; rfl
    · rw [if_neg h', if_neg (show ¬ n < (l.length : Int) + m.length by omega)]
      simp only [cond_false, Option.bind_some]
      rw [decide_eq_false (by omega)]; rfl
theorem v_laws_toBoard {w h : Int} {l : List Int} (hl : l.length ≤ 1099511627776) : sh_laws_toBoard w h l = some (w, h, l) := by
  show S_laws_toBoard_e w h l (fun r1 r2 r3 => some (r1, r2, r3)) = _
  unfold S_laws_toBoard_e
  rw [v_laws_toIntS hl]; rfl
theorem v_laws_toLeaper {a b : Int} : sh_laws_toLeaper a b = some (a, b) := rfl
theorem v_laws_toPuzzle {w h a b : Int} {l m : List Int} (hl : l.length ≤ 1099511627776) (hm : m.length ≤ 1099511627776) : sh_laws_toPuzzle w h l a b m = some (w, h, l, a, b, m) := by
  show S_laws_toPuzzle_e w h l a b m (fun r1 r2 r3 r4 r5 r6 => some (r1, r2, r3, r4, r5, r6)) = _
  unfold S_laws_toPuzzle_e
  rw [v_laws_toBoard hl, v_laws_toLeaper, v_laws_toIntS hm]; rfl
theorem PZ.num {w h a b : Int} {hs ns : List Int} (p : PZ w h hs a b ns) {i : Nat} (hi : i < ns.length) : 0 ≤ ns.getD i 0 := by
  rcases p.nums i hi with h | h
  · omega
  · have := h.1; omega
/-- Numbers that rise from one on. -/
def ramp (m : Int) (n : Nat) : List Int := (List.range n).map fun i : Nat => m + i
theorem ramp_len {m : Int} {n : Nat} : (ramp m n).length = n := by simp [ramp]
theorem ramp_succ {m : Int} {n : Nat} : ramp m (n + 1) = ramp m n ++ [m + n] := by simp [ramp, List.range_succ]
theorem ramp_get {m : Int} {n i : Nat} (h : i < n) : (ramp m n).getD i 0 = m + i := by simp [ramp, List.getD_eq_getElem?_getD, h]
theorem v_laws_markIntS {l : List Int} {m : Int} (h0 : 0 ≤ m) (h1 : m + l.length ≤ 9223372036854775807) : sh_laws_markIntS l m = some (m + l.length, ramp m l.length) := by
  obtain ⟨s, p1, p2⟩ := bld (F := fun k i s => F_laws_markIntS_0 (l.length + 1) (fun r1 r2 => some (r1, r2)) k s (m + (i : Int)) (i : Int)) (len := l.length) (out := fun s => (m + (l.length : Int), s)) (Inv := fun i s => s.length = l.length ∧ s.take i = ramp m i) (fun k i s hi hs => by
    have h1 : ((i : Int) < (s.length : Int)) := by rw [hs.1]; omega
    have h2 : (0 : Int) ≤ i := by omega
    refine ⟨s.set i (m + i), ⟨by simpa using hs.1, ?_⟩, ?_⟩
    · rw [List.take_add_one, List.take_set_of_le (Nat.le_refl _), hs.2, ramp_succ]
      simp [hs.1, hi]
    · have e : IntKind.i64.wrap (m + (i : Int) + 1) = m + ((i + 1 : Nat) : Int) := by rw [w64 (by omega) (by omega)]; omega
      simp only [F_laws_markIntS_0, S_laws_markIntS_0, h1, h2, decide_true, cond_true, if_true, Int.toNat_natCast, e, next64 (show i < 9223372036854775807 by omega)]) (fun k s hs => by simp [F_laws_markIntS_0, S_laws_markIntS_0, hs.1]) l.length 0 l (l.length + 1) (by omega) (by omega) ⟨rfl, rfl⟩
  have he : s = ramp m l.length := by
    have := p1.2
    rwa [← p1.1, List.take_length, p1.1] at this
  subst he
  refine sh_laws_markIntS_of (n := l.length + 1) ?_
  show S_laws_markIntS_e l m (F_laws_markIntS_0 (l.length + 1) (fun r1 r2 => some (r1, r2)) (l.length + 1)) = _
  unfold S_laws_markIntS_e
  simpa using p2
theorem v_laws_heldIntS {m : Int} {n : Nat} (h0 : 0 ≤ m) (h1 : m + n ≤ 9223372036854775807) : sh_laws_heldIntS (ramp m n) m = some (m + n) := by
  refine sh_laws_heldIntS_of (n := n + 1) ?_
  show S_laws_heldIntS_e (ramp m n) m (F_laws_heldIntS_0 (n + 1) (fun r1 => some r1) (n + 1)) = _
  unfold S_laws_heldIntS_e
  rcases chk (F := fun k i => F_laws_heldIntS_0 (n + 1) (fun r1 => some r1) k (ramp m n) (m + (i : Int)) (i : Int)) (len := n) (ok := fun i => True) (good := m + n) (bad := fun _ => 0) (fun k i hi => by
    have q1 : ((i : Int) < ((ramp m n).length : Int)) := by rw [ramp_len]; omega
    have q2 : (0 : Int) ≤ i := by omega
    refine .inl ⟨trivial, ?_⟩
    have e : IntKind.i64.wrap (m + (i : Int) + 1) = m + ((i + 1 : Nat) : Int) := by rw [w64 (by omega) (by omega)]; omega
    simp only [F_laws_heldIntS_0, S_laws_heldIntS_0, q1, q2, decide_true, cond_true, if_true, Int.toNat_natCast, ramp_get hi, Bool.not_true, cond_false, e, next64 (show i < 9223372036854775807 by omega)]) (fun k => by simp [F_laws_heldIntS_0, S_laws_heldIntS_0, ramp_len]) with ⟨_, h2⟩ | ⟨j, hj, h2, _⟩
  · simpa using h2
  · exact absurd trivial h2
/-- A board, a leaper and numbers: written, and found so again. -/
theorem v_laws_markPuzzle {w h a b : Int} {l n : List Int} (h1 : l.length ≤ 1099511627776) (h2 : n.length ≤ 1099511627776) : sh_laws_markPuzzle w h l a b n 1 = some ((1 : Int) + l.length + n.length, w, h, ramp 1 l.length, a, b, ramp (1 + l.length) n.length) := by
  show S_laws_markPuzzle_e w h l a b n 1 (fun r1 r2 r3 r4 r5 r6 r7 => some (r1, r2, r3, r4, r5, r6, r7)) = _
  have : sh_laws_markBoard w h l 1 = some ((1 : Int) + l.length, w, h, ramp 1 l.length) := by
    show S_laws_markBoard_e w h l 1 (fun r1 r2 r3 r4 => some (r1, r2, r3, r4)) = _
    simp [S_laws_markBoard_e, v_laws_markIntS (l := l) (m := 1) (by omega) (by omega)]
  simp [S_laws_markPuzzle_e, this, v_laws_markIntS (l := n) (m := 1 + l.length) (by omega) (by omega)]
theorem v_laws_heldPuzzle {w h a b : Int} {i j : Nat} (h1 : i ≤ 1099511627776) (h2 : j ≤ 1099511627776) : sh_laws_heldPuzzle w h (ramp 1 i) a b (ramp (1 + i) j) 1 = some ((1 : Int) + i + j) := by
  show S_laws_heldPuzzle_e w h (ramp 1 i) a b (ramp (1 + i) j) 1 (fun r => some r) = _
  have q1 : decide ((1 : Int) + i < 0) = false := decide_eq_false (by omega)
  have q2 : decide ((1 : Int) + i + j < 0) = false := decide_eq_false (by omega)
  have : sh_laws_heldBoard w h (ramp 1 i) 1 = some ((1 : Int) + i) := by
    show S_laws_heldBoard_e w h (ramp 1 i) 1 (fun r => some r) = _
    simp only [S_laws_heldBoard_e, v_laws_heldIntS (m := 1) (n := i) (by omega) (by omega), Option.bind_some, q1, cond_false]
  simp only [S_laws_heldPuzzle_e, this, Option.bind_some, q1, cond_false, v_laws_heldIntS (m := 1 + i) (n := j) (by omega) (by omega), q2]
theorem v_clone {l : List Int} (h : l.length ≤ 1099511627776) : sh_slices_Clone_int_int l = some l := by
  show (if _ then _ else _) = _
  rw [if_pos h]
theorem v_spec_l1Own {l : List Int} (h : l.length ≤ 1099511627776) : sh_spec_l1Own l = some l := by
  show S_spec_l1Own_e l (fun r => some r) = _
  unfold S_spec_l1Own_e
  rw [List.nil_append, if_pos h]
theorem v_spec_pzWith {w h a b c x : Int} {hs ns : List Int} (hl : hs.length ≤ 1099511627776) (hn : ns.length ≤ 1099511627776) (q1 : 0 ≤ c) (q2 : c < (ns.length : Int)) : sh_spec_pzWith w h hs a b ns c x = some (w, h, hs, a, b, ns.set c.toNat x) := by
  show S_spec_pzWith_e w h hs a b ns c x (fun r1 r2 r3 r4 r5 r6 => some (r1, r2, r3, r4, r5, r6)) = _
  simp only [S_spec_pzWith_e, v_spec_l1Own hn, v_spec_l1Own hl, Option.bind_some, if_pos q1, if_pos q2]
theorem v_impl_Puzzle_own {w h a b : Int} {hs ns : List Int} (hl : hs.length ≤ 1099511627776) (hn : ns.length ≤ 1099511627776) : sh_impl_Puzzle_own w h hs a b ns = some (w, h, hs, a, b, ns) := by
  show S_impl_Puzzle_own_e w h hs a b ns (fun r1 r2 r3 r4 r5 r6 => some (r1, r2, r3, r4, r5, r6)) = _
  simp only [S_impl_Puzzle_own_e, v_clone hn, v_clone hl, Option.bind_some]
theorem mem_cellsL {n : Nat} {hs : List Int} {c : Int} : c ∈ cellsL n hs ↔ 0 ≤ c ∧ c < n ∧ c ∉ hs := by
  unfold cellsL
  rw [List.mem_filter, List.mem_map]
  constructor
  · rintro ⟨⟨i, hi, rfl⟩, h⟩
    have := List.mem_range.1 hi
    exact ⟨by omega, by omega, by simpa using h⟩
  · rintro ⟨h1, h2, h3⟩
    exact ⟨⟨c.toNat, List.mem_range.2 (by omega), by omega⟩, by simpa using h3⟩
/-- How far two numbers are from each other. -/
def dist (x y : Int) : Int := ((x - y).natAbs : Int)
/-- A leaper leaps from one cell to another one. -/
def isL (w a b c d : Int) : Prop := (dist (c % w) (d % w) = a ∧ dist (c / w) (d / w) = b) ∨ (dist (c % w) (d % w) = b ∧ dist (c / w) (d / w) = a)
instance {w a b c d : Int} : Decidable (isL w a b c d) := by unfold isL; infer_instance
theorem dist_comm (x y : Int) : dist x y = dist y x := by unfold dist; omega
theorem isL_comm {w a b c d : Int} : isL w a b c d ↔ isL w a b d c := by unfold isL; rw [dist_comm (c % w), dist_comm (c / w)]
theorem cell_dm {w c : Int} (w1 : 1 ≤ w) (c0 : 0 ≤ c) (c64 : c < 64) : 0 ≤ c % w ∧ c % w < w ∧ 0 ≤ c / w ∧ c / w < 64 ∧ c = w * (c / w) + c % w := by
  refine ⟨Int.emod_nonneg _ (by omega), Int.emod_lt_of_pos _ (by omega), Int.ediv_nonneg c0 (by omega), ?_, (Int.mul_ediv_add_emod c w).symm⟩
  exact Int.lt_of_le_of_lt (Int.ediv_le_self _ c0) c64
theorem v_spec_l1Most {a b : Int} : sh_spec_l1Most a b = some (max a b) := by
  show S_spec_l1Most_e a b (fun r => some r) = _
  unfold S_spec_l1Most_e
  by_cases h : a > b
  · rw [decide_eq_true h]; show some a = _; congr 1; omega
  · rw [decide_eq_false h]; show some b = _; congr 1; omega
theorem v_spec_l1Abs {a : Int} (h0 : -9223372036854775808 < a) (h1 : a ≤ 9223372036854775807) : sh_spec_l1Abs a = some (a.natAbs : Int) := by
  show S_spec_l1Abs_e a (fun r => some r) = _
  unfold S_spec_l1Abs_e
  rw [w64 (by omega) (by omega), v_spec_l1Most]
  show some (max a (0 - a)) = _
  congr 1
  omega
theorem v_spec_boIs {w h a b c d : Int} {hs : List Int} (w1 : 1 ≤ w) (w8 : w ≤ 8) (c0 : 0 ≤ c) (c64 : c < 64) (d0 : 0 ≤ d) (d64 : d < 64) : sh_spec_boIs w h hs a b c d = some (decide (isL w a b c d)) := by
  show S_spec_boIs_e w h hs a b c d (fun r => some r) = _
  unfold S_spec_boIs_e
  obtain ⟨p1, p2, p3, p4, _⟩ := cell_dm w1 c0 c64
  obtain ⟨q1, q2, q3, q4, _⟩ := cell_dm w1 d0 d64
  have hw : ¬ w = 0 := by omega
  simp only [hw, if_false, Int.tmod_eq_emod_of_nonneg c0, Int.tmod_eq_emod_of_nonneg d0, Int.tdiv_eq_ediv_of_nonneg c0, Int.tdiv_eq_ediv_of_nonneg d0]
  rw [w64 (n := c % w - d % w) (by omega) (by omega), v_spec_l1Abs (by omega) (by omega), w64 (n := c / w) (by omega) (by omega), w64 (n := d / w) (by omega) (by omega), w64 (n := c / w - d / w) (by omega) (by omega), v_spec_l1Abs (by omega) (by omega)]
  simp only [Option.bind_some]
  have key : ∀ (P Q R S : Prop) [Decidable P] [Decidable Q] [Decidable R] [Decidable S], (bif decide P then (bif decide Q then some true else (bif decide R then some (decide S) else some false)) else (bif decide R then some (decide S) else some false)) = some (decide ((P ∧ Q) ∨ (R ∧ S))) := by
    intro P Q R S _ _ _ _
    by_cases h1 : P <;> by_cases h2 : Q <;> by_cases h3 : R <;> by_cases h4 : S <;> simp [h1, h2, h3, h4]
  exact key _ _ _ _
/-- The cells to which a leaper leaps. -/
def leapsL (w h : Int) (hs : List Int) (a b c : Int) : List Int := (cellsL (w * h).toNat hs).filter fun d => decide (isL w a b c d)
def nearL (w h : Int) (hs : List Int) (a b : Int) : List (List Int) := (List.range (w * h).toNat).map fun c : Nat => if (c : Int) ∈ hs then [] else leapsL w h hs a b c
theorem mem_cells {w h : Int} {hs : List Int} {c : Int} : c ∈ cellsL (w * h).toNat hs ↔ hasP w h hs c := by
  rw [mem_cellsL]
  unfold hasP
  constructor <;> rintro ⟨h1, h2, h3⟩ <;> exact ⟨h1, by omega, h3⟩
theorem cellsL_sorted (n : Nat) (hs : List Int) : (cellsL n hs).Pairwise (· < ·) := by
  unfold cellsL
  refine List.Pairwise.filter _ ?_
  rw [List.pairwise_map]
  exact List.pairwise_lt_range.imp fun h => by omega
theorem mem_leapsL {w h a b c d : Int} {hs : List Int} : d ∈ leapsL w h hs a b c ↔ hasP w h hs d ∧ isL w a b c d := by
  unfold leapsL
  simp [mem_cells]
theorem leapsL_sorted (w h : Int) (hs : List Int) (a b c : Int) : (leapsL w h hs a b c).Pairwise (· < ·) := (cellsL_sorted _ _).filter _
theorem nodup_of_lt {l : List Int} (h : l.Pairwise (· < ·)) : l.Nodup := h.imp fun h e => by omega
/-- Rising lists with the same members are one list. -/
theorem rise_ext {l m : List Int} (hl : l.Pairwise (· < ·)) (hm : m.Pairwise (· < ·)) (h : ∀ x, x ∈ l ↔ x ∈ m) : l = m := by
  refine List.Perm.eq_of_pairwise (le := fun a b : Int => a < b) (fun a b _ _ h1 h2 => by omega) hl hm ?_
  rw [List.perm_ext_iff_of_nodup (nodup_of_lt hl) (nodup_of_lt hm)]
  exact h
theorem sortL_rise {l : List Int} (h : l.Nodup) : (sortL l).Pairwise (· < ·) := by
  have h1 : (sortL l).Pairwise fun a b => decide (a ≤ b) = true := List.pairwise_mergeSort (le := fun a b : Int => decide (a ≤ b)) (fun a b c h1 h2 => by simp at *; omega) (fun a b => by simp; omega) l
  have h2 : (sortL l).Nodup := (List.mergeSort_perm l _).nodup_iff.2 h
  exact List.Pairwise.imp₂ (fun a b h1 h2 => by simp at h1; omega) h1 h2
theorem mem_sortL {l : List Int} {x : Int} : x ∈ sortL l ↔ x ∈ l := (List.mergeSort_perm l _).mem_iff
theorem sortL_eq {l m : List Int} (h : l.Nodup) (hm : m.Pairwise (· < ·)) (he : ∀ x, x ∈ l ↔ x ∈ m) : sortL l = m := rise_ext (sortL_rise h) hm fun x => mem_sortL.trans (he x)
/-! The steps of a leaper. -/
def rowS (k : Nat) : List Int := [((k / 11 : Nat) : Int) - 5, ((k % 11 : Nat) : Int) - 5]
def okS (a b : Int) (s : List Int) : Prop := ((min (s.getD 0 0).natAbs (s.getD 1 0).natAbs : Nat) : Int) = a ∧ ((max (s.getD 0 0).natAbs (s.getD 1 0).natAbs : Nat) : Int) = b
instance {a b : Int} {s : List Int} : Decidable (okS a b s) := by unfold okS; infer_instance
def stepsTo (a b : Int) (k : Nat) : List (List Int) := ((List.range k).map rowS).filter fun s => decide (okS a b s)
theorem stepsTo_succ (a b : Int) (k : Nat) : stepsTo a b (k + 1) = stepsTo a b k ++ (if okS a b (rowS k) then [rowS k] else []) := by
  unfold stepsTo
  rw [List.range_succ, List.map_append, List.filter_append]
  congr 1
  by_cases h : okS a b (rowS k) <;> simp [h]
theorem stepsTo_len (a b : Int) (k : Nat) : (stepsTo a b k).length ≤ k := by
  unfold stepsTo
  refine Nat.le_trans (List.length_filter_le ..) ?_
  simp
theorem v_impl_Leaper_steps {a b : Int} : sh_impl_Leaper_steps a b = some (stepsTo a b 121) := by
  have inner : ∀ (b0 : List (List Int) → Int → Int → Int → Option (List (List Int))) (x : Nat), x < 11 → F_impl_Leaper_steps_1 100 b0 (fun r => some r) 100 (stepsTo a b (11 * x)) ((x : Int) - 5) (-5 : Int) a b = b0 (stepsTo a b (11 * (x + 1))) (((x + 1 : Nat) : Int) - 5) a b := by
    intro b0 x hx
    refine loopF (F := fun n i => F_impl_Leaper_steps_1 100 b0 (fun r => some r) n (stepsTo a b (11 * x + i)) ((x : Int) - 5) ((i : Int) - 5) a b) (len := 11) (n := 100) (fun n i hi => ?_) (fun n => ?_) (by omega)
    · have h1 : ((i : Int) - 5 ≤ 5) := by omega
      have e1 : IntKind.i64.wrap (0 - ((i : Int) - 5)) = 0 - ((i : Int) - 5) := w64 (by omega) (by omega)
      have e2 : IntKind.i64.wrap (0 - ((x : Int) - 5)) = 0 - ((x : Int) - 5) := w64 (by omega) (by omega)
      have e3 : IntKind.i64.wrap ((i : Int) - 5 + 1) = ((i + 1 : Nat) : Int) - 5 := by rw [w64 (by omega) (by omega)]; omega
      have e4 : rowS (11 * x + i) = [(x : Int) - 5, (i : Int) - 5] := by unfold rowS; rw [show (11 * x + i) / 11 = x by omega, show (11 * x + i) % 11 = i by omega]
      have e5 := stepsTo_succ a b (11 * x + i)
      have e6 := stepsTo_len a b (11 * x + i)
      simp only [F_impl_Leaper_steps_1, S_impl_Leaper_steps_1, F_impl_Leaper_steps_2, S_impl_Leaper_steps_2, h1, e1, e2, e3, decide_true, cond_true]
      rw [e4] at e5
      have c1 : (if (if 0 - ((i : Int) - 5) > (i : Int) - 5 then 0 - ((i : Int) - 5) else (i : Int) - 5) < (if 0 - ((x : Int) - 5) > (x : Int) - 5 then 0 - ((x : Int) - 5) else (x : Int) - 5) then (if 0 - ((i : Int) - 5) > (i : Int) - 5 then 0 - ((i : Int) - 5) else (i : Int) - 5) else (if 0 - ((x : Int) - 5) > (x : Int) - 5 then 0 - ((x : Int) - 5) else (x : Int) - 5)) = ((min ((x : Int) - 5).natAbs ((i : Int) - 5).natAbs : Nat) : Int) := by omega
      have c2 : (if (if 0 - ((i : Int) - 5) > (i : Int) - 5 then 0 - ((i : Int) - 5) else (i : Int) - 5) > (if 0 - ((x : Int) - 5) > (x : Int) - 5 then 0 - ((x : Int) - 5) else (x : Int) - 5) then (if 0 - ((i : Int) - 5) > (i : Int) - 5 then 0 - ((i : Int) - 5) else (i : Int) - 5) else (if 0 - ((x : Int) - 5) > (x : Int) - 5 then 0 - ((x : Int) - 5) else (x : Int) - 5)) = ((max ((x : Int) - 5).natAbs ((i : Int) - 5).natAbs : Nat) : Int) := by omega
      rw [c1, c2]
      by_cases hk : okS a b [(x : Int) - 5, (i : Int) - 5]
      · rw [if_pos hk] at e5
        have hk' : ((min ((x : Int) - 5).natAbs ((i : Int) - 5).natAbs : Nat) : Int) = a ∧ ((max ((x : Int) - 5).natAbs ((i : Int) - 5).natAbs : Nat) : Int) = b := hk
        rw [decide_eq_true hk'.1, decide_eq_true hk'.2]
        simp only [cond_true]
        rw [if_pos (by simp; omega), ← e5]; rfl
      · rw [if_neg hk, List.append_nil] at e5
        rw [show 11 * x + (i + 1) = 11 * x + i + 1 from rfl, e5]
        by_cases h1 : ((min ((x : Int) - 5).natAbs ((i : Int) - 5).natAbs : Nat) : Int) = a
        · have h2 : ¬ ((max ((x : Int) - 5).natAbs ((i : Int) - 5).natAbs : Nat) : Int) = b := fun h2 => hk ⟨h1, h2⟩
          rw [decide_eq_true h1, decide_eq_false h2]; rfl
        · rw [decide_eq_false h1]; rfl
    · have e2 : IntKind.i64.wrap ((x : Int) - 5 + 1) = ((x + 1 : Nat) : Int) - 5 := by rw [w64 (by omega) (by omega)]; omega
      have h1 : ¬ (((11 : Nat) : Int) - 5 ≤ 5) := by omega
      simp only [F_impl_Leaper_steps_1, S_impl_Leaper_steps_1, h1, decide_false, cond_false, e2]
      rfl
  refine sh_impl_Leaper_steps_of (n := 100) ?_
  show F_impl_Leaper_steps_0 100 (fun r => some r) 100 [] (-5) a b = _
  refine loopF (F := fun n i => F_impl_Leaper_steps_0 100 (fun r => some r) n (stepsTo a b (11 * i)) ((i : Int) - 5) a b) (len := 11) (n := 100) (fun n i hi => ?_) (fun n => ?_) (by omega)
  · have h1 : ((i : Int) - 5 ≤ 5) := by omega
    simp only [F_impl_Leaper_steps_0, S_impl_Leaper_steps_0, h1, decide_true, cond_true]
    exact inner _ i hi
  · have h1 : ¬ (((11 : Nat) : Int) - 5 ≤ 5) := by omega
    simp only [F_impl_Leaper_steps_0, S_impl_Leaper_steps_0, h1, decide_false, cond_false]
/-- Where a step leads to. -/
def tgt (w h : Int) (hs : List Int) (c : Int) (s : List Int) : Option Int :=
  if 0 ≤ c % w + s.getD 0 0 ∧ c % w + s.getD 0 0 < w ∧ 0 ≤ c / w + s.getD 1 0 ∧ c / w + s.getD 1 0 < h ∧ hasP w h hs ((c / w + s.getD 1 0) * w + (c % w + s.getD 0 0)) then some ((c / w + s.getD 1 0) * w + (c % w + s.getD 0 0)) else none
theorem mem_steps {a b : Int} {s : List Int} : s ∈ stepsTo a b 121 ↔ okS a b s ∧ ∃ x y : Int, s = [x, y] ∧ -5 ≤ x ∧ x ≤ 5 ∧ -5 ≤ y ∧ y ≤ 5 := by
  unfold stepsTo
  simp only [List.mem_filter, List.mem_map, List.mem_range, decide_eq_true_eq]
  constructor
  · rintro ⟨⟨k, hk, rfl⟩, h⟩
    exact ⟨h, _, _, rfl, by omega, by omega, by omega, by omega⟩
  · rintro ⟨h, x, y, rfl, h1, h2, h3, h4⟩
    refine ⟨⟨(11 * (x + 5) + (y + 5)).toNat, by omega, ?_⟩, h⟩
    unfold rowS
    rw [show ((11 * (x + 5) + (y + 5)).toNat / 11 : Nat) = (x + 5).toNat by omega, show ((11 * (x + 5) + (y + 5)).toNat % 11 : Nat) = (y + 5).toNat by omega]
    simp only [List.cons.injEq, and_true]
    exact ⟨by omega, by omega⟩
theorem div_mod_of {w x y : Int} (hx : 0 ≤ x) (hw : x < w) : (y * w + x) % w = x ∧ (y * w + x) / w = y := by
  constructor
  · rw [Int.add_comm, Int.add_mul_emod_self_right]; exact Int.emod_eq_of_lt hx hw
  · rw [Int.add_comm, Int.add_mul_ediv_right _ _ (by omega), Int.ediv_eq_zero_of_lt hx hw]; omega
theorem tgt_some {w h c d : Int} {hs s : List Int} (h1 : tgt w h hs c s = some d) : hasP w h hs d ∧ d % w = c % w + s.getD 0 0 ∧ d / w = c / w + s.getD 1 0 := by
  unfold tgt at h1
  split at h1
  · rename_i hh
    injection h1 with h1
    subst h1
    obtain ⟨q1, q2, _, _, q3⟩ := hh
    exact ⟨q3, div_mod_of q1 q2⟩
  · cases h1
theorem row_div {w h d : Int} (w1 : 1 ≤ w) (h0 : 0 ≤ d) (h1 : d < w * h) : d / w < h := by
  refine Int.ediv_lt_of_lt_mul (by omega) ?_
  rw [Int.mul_comm]; exact h1
theorem tgt_of {w h c d x y : Int} {hs : List Int} (w1 : 1 ≤ w) (hd : hasP w h hs d) (hx : d % w = c % w + x) (hy : d / w = c / w + y) : tgt w h hs c [x, y] = some d := by
  have e : (c / w + y) * w + (c % w + x) = d := by rw [← hx, ← hy, Int.mul_comm]; exact Int.mul_ediv_add_emod d w
  unfold tgt
  show (if 0 ≤ c % w + x ∧ c % w + x < w ∧ 0 ≤ c / w + y ∧ c / w + y < h ∧ hasP w h hs ((c / w + y) * w + (c % w + x)) then some ((c / w + y) * w + (c % w + x)) else none) = _
  rw [e, if_pos]
  refine ⟨by rw [← hx]; exact Int.emod_nonneg _ (by omega), by rw [← hx]; exact Int.emod_lt_of_pos _ (by omega), by rw [← hy]; exact Int.ediv_nonneg hd.1 (by omega), by rw [← hy]; exact row_div w1 hd.1 hd.2.1, hd⟩
theorem mem_tgts {w h a b c d : Int} {hs : List Int} (w1 : 1 ≤ w) (gl : GoodL a b) : d ∈ (stepsTo a b 121).filterMap (tgt w h hs c) ↔ d ∈ leapsL w h hs a b c := by
  rw [mem_leapsL, List.mem_filterMap]
  obtain ⟨g1, g2, g3, g4⟩ := gl
  constructor
  · rintro ⟨s, h1, h2⟩
    obtain ⟨⟨k1, k2⟩, x, y, rfl, _⟩ := mem_steps.1 h1
    obtain ⟨q1, q2, q3⟩ := tgt_some h2
    refine ⟨q1, ?_⟩
    have k1 : ((min x.natAbs y.natAbs : Nat) : Int) = a := k1
    have k2 : ((max x.natAbs y.natAbs : Nat) : Int) = b := k2
    have q2 : d % w = c % w + x := q2
    have q3 : d / w = c / w + y := q3
    unfold isL dist
    rw [q2, q3]
    omega
  · rintro ⟨h1, h2⟩
    unfold isL dist at h2
    refine ⟨[d % w - c % w, d / w - c / w], mem_steps.2 ⟨?_, _, _, rfl, by omega, by omega, by omega, by omega⟩, tgt_of w1 h1 (by omega) (by omega)⟩
    show ((min (d % w - c % w).natAbs (d / w - c / w).natAbs : Nat) : Int) = a ∧ ((max (d % w - c % w).natAbs (d / w - c / w).natAbs : Nat) : Int) = b
    omega
theorem tgts_nodup {w h a b c : Int} {hs : List Int} : ((stepsTo a b 121).filterMap (tgt w h hs c)).Nodup := by
  rw [List.Nodup, List.pairwise_filterMap]
  unfold stepsTo
  refine List.Pairwise.filter _ ?_
  rw [List.pairwise_map]
  refine List.pairwise_lt_range.imp ?_
  intro i j hij d h1 d' h2 e
  subst e
  obtain ⟨_, q2, q3⟩ := tgt_some h1
  obtain ⟨_, r2, r3⟩ := tgt_some h2
  have q2 : d % w = c % w + (((i / 11 : Nat) : Int) - 5) := q2
  have q3 : d / w = c / w + (((i % 11 : Nat) : Int) - 5) := q3
  have r2 : d % w = c % w + (((j / 11 : Nat) : Int) - 5) := r2
  have r3 : d / w = c / w + (((j % 11 : Nat) : Int) - 5) := r3
  omega
theorem sort_tgts {w h a b c : Int} {hs : List Int} (w1 : 1 ≤ w) (gl : GoodL a b) : sortL ((stepsTo a b 121).filterMap (tgt w h hs c)) = leapsL w h hs a b c := sortL_eq tgts_nodup (leapsL_sorted ..) fun _ => mem_tgts w1 gl
theorem v_impl_Board_present {w h : Int} {hs : List Int} (m1 : 1 ≤ w * h) (m64 : w * h ≤ 64) (hl : hs.length ≤ 1099511627776) : sh_impl_Board_present w h hs = some (cellsL (w * h).toNat hs) := by
  have hm : IntKind.i64.wrap (w * h) = w * h := w64 (by omega) (by omega)
  refine sh_impl_Board_present_of (n := 100) ?_
  show F_impl_Board_present_0 100 (fun r => some r) 100 [] (IntKind.i64.wrap (w * h)) 0 w h hs = _
  rw [hm]
  refine loopF (F := fun n i => F_impl_Board_present_0 100 (fun r => some r) n (cellsL i hs) (w * h) (i : Int) w h hs) (len := (w * h).toNat) (fun n i hi => ?_) (fun n => ?_) (by omega)
  · have q1 : (i : Int) < w * h := by omega
    have hle := cellsL_le i hs
    simp only [F_impl_Board_present_0, S_impl_Board_present_0, q1, decide_true, cond_true, v_slices_Contains_int_int (show hs.length ≤ 9223372036854775807 by omega), Option.bind_some, next64 (show i < 9223372036854775807 by omega), cellsL_succ]
    by_cases hx : (i : Int) ∈ hs
    · simp [hx]
    · simp only [hx, decide_false, Bool.not_false, cond_true, if_false]
      rw [if_pos (by simp; omega)]
  · have q : ¬ (((w * h).toNat : Int) < w * h) := by omega
    simp only [F_impl_Board_present_0, S_impl_Board_present_0, q, decide_false, cond_false]
/-- The rows of the cells that are done. -/
def nearTo (w h : Int) (hs : List Int) (a b : Int) (i : Nat) : List (List Int) := (List.range (w * h).toNat).map fun c : Nat => if (c : Int) ∈ (cellsL (w * h).toNat hs).take i then leapsL w h hs a b c else []
theorem nearTo_len {w h a b : Int} {hs : List Int} {i : Nat} : (nearTo w h hs a b i).length = (w * h).toNat := by simp [nearTo]
theorem nearTo_zero {w h a b : Int} {hs : List Int} : nearTo w h hs a b 0 = List.replicate (w * h).toNat [] := by
  refine List.ext_getElem (by simp [nearTo]) fun k h1 h2 => ?_
  simp [nearTo]
theorem nearTo_all {w h a b : Int} {hs : List Int} : nearTo w h hs a b (cellsL (w * h).toNat hs).length = nearL w h hs a b := by
  unfold nearTo nearL
  rw [List.take_length]
  refine List.map_congr_left fun k hk => ?_
  have hk : k < (w * h).toNat := List.mem_range.1 hk
  have : ((k : Int) ∈ cellsL (w * h).toNat hs) ↔ ¬ (k : Int) ∈ hs := by rw [mem_cellsL]; exact ⟨fun q => q.2.2, fun q => ⟨by omega, by omega, q⟩⟩
  by_cases h1 : (k : Int) ∈ hs
  · rw [if_pos h1, if_neg (by rw [this]; exact fun q => q h1)]
  · rw [if_neg h1, if_pos (this.2 h1)]
theorem cells_get {n : Nat} {hs : List Int} {i : Nat} (hi : i < (cellsL n hs).length) : 0 ≤ (cellsL n hs).getD i 0 ∧ (cellsL n hs).getD i 0 < n ∧ (cellsL n hs).getD i 0 ∉ hs := mem_cellsL.1 (getD_mem hi)
theorem cells_take {n : Nat} {hs : List Int} {i : Nat} (hi : i < (cellsL n hs).length) : (cellsL n hs).getD i 0 ∉ (cellsL n hs).take i := by
  intro h
  obtain ⟨j, hj, e⟩ := mem_getD.1 h
  simp only [List.length_take] at hj
  have h1 := (List.pairwise_iff_getElem.1 (cellsL_sorted n hs)) j i (by omega) hi (by omega)
  have e1 : ((cellsL n hs).take i).getD j 0 = (cellsL n hs)[j]'(by omega) := by
    rw [getD_lt (by simp; omega)]; simp
  rw [e1, getD_lt hi] at e
  omega
theorem nearTo_succ {w h a b : Int} {hs : List Int} {i : Nat} (hi : i < (cellsL (w * h).toNat hs).length) :
    (nearTo w h hs a b i).set ((cellsL (w * h).toNat hs).getD i 0).toNat (leapsL w h hs a b ((cellsL (w * h).toNat hs).getD i 0)) = nearTo w h hs a b (i + 1) := by
  obtain ⟨c0, c1, _⟩ := cells_get hi
  refine List.ext_getElem (by simp [nearTo]) fun k h1 h2 => ?_
  have hk : k < (w * h).toNat := by simpa [nearTo] using h2
  rw [List.getElem_set]
  simp only [nearTo, List.getElem_map, List.getElem_range]
  have hm : ((k : Int) ∈ (cellsL (w * h).toNat hs).take (i + 1)) ↔ (k : Int) ∈ (cellsL (w * h).toNat hs).take i ∨ (k : Int) = (cellsL (w * h).toNat hs).getD i 0 := mem_take_succ hi
  by_cases e : ((cellsL (w * h).toNat hs).getD i 0).toNat = k
  · have e' : (k : Int) = (cellsL (w * h).toNat hs).getD i 0 := by omega
    rw [if_pos e, if_pos (hm.2 (.inr e')), e']
  · rw [if_neg e]
    have e' : ¬ (k : Int) = (cellsL (w * h).toNat hs).getD i 0 := by omega
    by_cases h3 : (k : Int) ∈ (cellsL (w * h).toNat hs).take i
    · rw [if_pos h3, if_pos (hm.2 (.inl h3))]
    · rw [if_neg h3, if_neg (fun q => (hm.1 q).elim h3 e')]
theorem nearTo_start {w h a b : Int} {hs : List Int} {i : Nat} (hi : i < (cellsL (w * h).toNat hs).length) :
    (nearTo w h hs a b i).set ((cellsL (w * h).toNat hs).getD i 0).toNat [] = nearTo w h hs a b i := by
  obtain ⟨c0, c1, _⟩ := cells_get hi
  refine List.ext_getElem (by simp) fun k h1 h2 => ?_
  rw [List.getElem_set]
  split
  · rename_i e
    have e' : (k : Int) = (cellsL (w * h).toNat hs).getD i 0 := by omega
    simp only [nearTo, List.getElem_map, List.getElem_range]
    rw [if_neg (by rw [e']; exact cells_take hi)]
  · rfl
theorem row_ok {a b : Int} {j : Nat} (hj : j < (stepsTo a b 121).length) : ∃ x y : Int, (stepsTo a b 121).getD j [] = [x, y] ∧ -5 ≤ x ∧ x ≤ 5 ∧ -5 ≤ y ∧ y ≤ 5 := by
  rw [getD_lt hj]
  exact (mem_steps.1 (List.getElem_mem hj)).2
theorem fm_succ {α β : Type} {f : α → Option β} {l : List α} {j : Nat} {d : α} (hj : j < l.length) : (l.take (j + 1)).filterMap f = (l.take j).filterMap f ++ (f (l.getD j d)).toList := by
  rw [List.take_add_one, List.filterMap_append, getD_lt hj, List.getElem?_eq_getElem hj]
  cases hf : f l[j] <;> simp [hf]
theorem v_impl_graphOf {w h a b : Int} {hs : List Int} (hl : hs.length ≤ 1099511627776) :
    (GoodB w h hs ∧ GoodL a b → sh_impl_graphOf w h hs a b = some (true, w, h, hs, a, b, cellsL (w * h).toNat hs, nearL w h hs a b, true)) ∧
    (¬ (GoodB w h hs ∧ GoodL a b) → sh_impl_graphOf w h hs a b = some (false, 0, 0, [], 0, 0, [], [], false)) := by
  obtain ⟨r, h1, h2⟩ := v_impl_IsBoard (w := w) (h := h) hl
  constructor
  · rintro ⟨gb, gl⟩
    have hr : r = true := h2.2 gb
    subst hr
    obtain ⟨m1, m64⟩ := mul8 gb.w1 gb.w8 gb.h1 gb.h8
    have w1 := gb.w1
    have w8 := gb.w8
    have hh8 := gb.h8
    have hm : IntKind.i64.wrap (w * h) = w * h := w64 (by omega) (by omega)
    have hcl := cellsL_le (w * h).toNat hs
    refine sh_impl_graphOf_of (n := 200) ?_
    show S_impl_graphOf_e w h hs a b _ _ = _
    unfold S_impl_graphOf_e
    rw [h1, v_impl_IsLeaper, decide_eq_true gl, v_impl_Board_present m1 m64 hl, hm]
    simp only [Option.bind_some, Bool.not_true, cond_false]
    rw [if_pos (by omega), if_pos (by omega), ← nearTo_zero (a := a) (b := b)]
    refine loopF (F := fun n i => F_impl_graphOf_0 200 _ n (cellsL (w * h).toNat hs) ((cellsL (w * h).toNat hs).length : Int) (i : Int) w h hs a b (nearTo w h hs a b i)) (len := (cellsL (w * h).toNat hs).length) (fun n i hi => ?_) (fun n => ?_) (by omega)
    · obtain ⟨c0, c1, c2⟩ := cells_get hi
      have q1 : (i : Int) < ((cellsL (w * h).toNat hs).length : Int) := by omega
      have q2 : (0 : Int) ≤ i := by omega
      simp only [F_impl_graphOf_0, S_impl_graphOf_0, q1, q2, decide_true, cond_true, if_true, Int.toNat_natCast, v_impl_Leaper_steps, Option.bind_some]
      generalize hc : (cellsL (w * h).toNat hs).getD i 0 = c at c0 c1 c2
      obtain ⟨d1, d2, d3, d4, d5⟩ := cell_dm (w := w) (c := c) w1 c0 (by omega)
      have hdh : c / w < h := row_div w1 c0 (by omega)
      have hsl := stepsTo_len a b 121
      have hst := nearTo_start (a := a) (b := b) hi
      rw [hc] at hst
      have hsu := nearTo_succ (a := a) (b := b) hi
      rw [hc] at hsu
      have hcl2 : c.toNat < (nearTo w h hs a b i).length := by rw [nearTo_len]; omega
      have hcl3 : c < ((nearTo w h hs a b i).length : Int) := by omega
      rw [← hst]
      refine (loopF (F := fun n' j => F_impl_graphOf_1 200 (F_impl_graphOf_0 200 _ n) _ n' c (cellsL (w * h).toNat hs) ((cellsL (w * h).toNat hs).length : Int) (i : Int) (stepsTo a b 121) ((stepsTo a b 121).length : Int) (j : Int) w h hs a b ((nearTo w h hs a b i).set c.toNat (((stepsTo a b 121).take j).filterMap (tgt w h hs c)))) (len := (stepsTo a b 121).length) (R := F_impl_graphOf_0 200 _ n (cellsL (w * h).toNat hs) ((cellsL (w * h).toNat hs).length : Int) ((i + 1 : Nat) : Int) w h hs a b (nearTo w h hs a b (i + 1))) (fun n' j hj => ?_) (fun n' => ?_) (by omega))
      · have q3 : (j : Int) < ((stepsTo a b 121).length : Int) := by omega
        have q4 : (0 : Int) ≤ j := by omega
        obtain ⟨x, y, hrow, x0, x5, y0, y5⟩ := row_ok hj
        have hfm := fm_succ (f := tgt w h hs c) (d := []) hj
        rw [hrow] at hfm
        have hw : ¬ w = 0 := by omega
        have hlen : (((stepsTo a b 121).take j).filterMap (tgt w h hs c)).length ≤ 121 := Nat.le_trans (List.length_filterMap_le ..) (by simp; omega)
        have e1 : IntKind.i64.wrap (c / w) = c / w := w64 (by omega) (by omega)
        have e2 : IntKind.i64.wrap (c % w + x) = c % w + x := w64 (by omega) (by omega)
        have e3 : IntKind.i64.wrap (c / w + y) = c / w + y := w64 (by omega) (by omega)
        have g0 : (0 : Int) < (([x, y] : List Int).length : Int) := by simp
        have g1 : (1 : Int) < (([x, y] : List Int).length : Int) := by simp
        have g2 : (0 : Int) ≤ 1 := by omega
        have g3 : (0 : Int).toNat = 0 := rfl
        have g4 : (1 : Int).toNat = 1 := rfl
        have g5 : ([x, y] : List Int).getD 0 0 = x := rfl
        have g6 : ([x, y] : List Int).getD 1 0 = y := rfl
        have t0 : tgt w h hs c [x, y] = if 0 ≤ c % w + x ∧ c % w + x < w ∧ 0 ≤ c / w + y ∧ c / w + y < h ∧ hasP w h hs ((c / w + y) * w + (c % w + x)) then some ((c / w + y) * w + (c % w + x)) else none := rfl
        simp only [F_impl_graphOf_1, S_impl_graphOf_1, q3, q4, decide_true, cond_true, if_true, Int.toNat_natCast, hrow, hw, if_false, g0, g1, g2, g3, g4, g5, g6, Int.le_refl, Int.tmod_eq_emod_of_nonneg c0, Int.tdiv_eq_ediv_of_nonneg c0, e1, e2, e3, next64 (show j < 9223372036854775807 by omega), ge_iff_le]
        by_cases r1 : 0 ≤ c % w + x
        · by_cases r2 : c % w + x < w
          · by_cases r3 : 0 ≤ c / w + y
            · by_cases r4 : c / w + y < h
              · have b1 : (c / w + y) * w ≤ 7 * w := Int.mul_le_mul_of_nonneg_right (by omega) (by omega)
                have b2 : 0 ≤ (c / w + y) * w := Int.mul_nonneg r3 (by omega)
                have e4 : IntKind.i64.wrap ((c / w + y) * w) = (c / w + y) * w := w64 (by omega) (by omega)
                have e5 : IntKind.i64.wrap ((c / w + y) * w + (c % w + x)) = (c / w + y) * w + (c % w + x) := w64 (by omega) (by omega)
                simp only [decide_eq_true r1, decide_eq_true r2, decide_eq_true r3, decide_eq_true r4, cond_true, e4, e5, v_impl_Board_has m1 m64 hl, Option.bind_some]
                by_cases r5 : hasP w h hs ((c / w + y) * w + (c % w + x))
                · rw [if_pos ⟨r1, r2, r3, r4, r5⟩] at t0
                  rw [t0] at hfm
                  simp only [decide_eq_true r5, cond_true]
                  have k1 : c < ((((nearTo w h hs a b i).set c.toNat (((stepsTo a b 121).take j).filterMap (tgt w h hs c))).length : Nat) : Int) := by simp; omega
                  have k2 : ((nearTo w h hs a b i).set c.toNat (((stepsTo a b 121).take j).filterMap (tgt w h hs c))).getD c.toNat [] = ((stepsTo a b 121).take j).filterMap (tgt w h hs c) := by rw [getD_set, if_pos ⟨rfl, hcl2⟩]
                  simp only [c0, k1, k2, if_true]
                  rw [if_pos (by simp; omega), List.set_set, hfm]
                  rfl
                · rw [if_neg (fun q => r5 q.2.2.2.2)] at t0
                  rw [t0, Option.toList_none, List.append_nil] at hfm
                  rw [decide_eq_false r5, hfm]; rfl
              · rw [if_neg (fun q => r4 q.2.2.2.1)] at t0
                rw [t0, Option.toList_none, List.append_nil] at hfm
                rw [decide_eq_true r1, decide_eq_true r2, decide_eq_true r3, decide_eq_false r4, hfm]; rfl
            · rw [if_neg (fun q => r3 q.2.2.1)] at t0
              rw [t0, Option.toList_none, List.append_nil] at hfm
              rw [decide_eq_true r1, decide_eq_true r2, decide_eq_false r3, hfm]; rfl
          · rw [if_neg (fun q => r2 q.2.1)] at t0
            rw [t0, Option.toList_none, List.append_nil] at hfm
            rw [decide_eq_true r1, decide_eq_false r2, hfm]; rfl
        · rw [if_neg (fun q => r1 q.1)] at t0
          rw [t0, Option.toList_none, List.append_nil] at hfm
          rw [decide_eq_false r1, hfm]; rfl
      · have q3 : ¬ (((stepsTo a b 121).length : Int) < ((stepsTo a b 121).length : Int)) := by omega
        have k1 : c < ((((nearTo w h hs a b i).set c.toNat (((stepsTo a b 121).take (stepsTo a b 121).length).filterMap (tgt w h hs c))).length : Nat) : Int) := by simp; omega
        have k2 : ((nearTo w h hs a b i).set c.toNat (((stepsTo a b 121).take (stepsTo a b 121).length).filterMap (tgt w h hs c))).getD c.toNat [] = (stepsTo a b 121).filterMap (tgt w h hs c) := by rw [getD_set, if_pos ⟨rfl, hcl2⟩, List.take_length]
        have k3 : sh_slices_Sort_int_int ((stepsTo a b 121).filterMap (tgt w h hs c)) = some (leapsL w h hs a b c) := by
          show sortS _ = _
          unfold sortS
          rw [if_pos (Nat.le_trans (List.length_filterMap_le ..) (by omega)), sort_tgts w1 gl]
        simp only [F_impl_graphOf_1, S_impl_graphOf_1, q3, decide_false, cond_false, c0, k1, k2, k3, if_true, Option.bind_some, List.set_set, hsu, next64 (show i < 9223372036854775807 by omega)]
    · have q : ¬ (((cellsL (w * h).toNat hs).length : Int) < ((cellsL (w * h).toNat hs).length : Int)) := by omega
      simp only [F_impl_graphOf_0, S_impl_graphOf_0, q, decide_false, cond_false, nearTo_all]
  · intro hn
    refine sh_impl_graphOf_of (n := 0) ?_
    show S_impl_graphOf_e w h hs a b _ _ = _
    unfold S_impl_graphOf_e
    rw [h1, v_impl_IsLeaper]
    cases r with
    | false => rfl
    | true =>
      rw [decide_eq_false (fun gl => hn ⟨h2.1 rfl, gl⟩)]
      rfl
/-- A list is a path; a walk. -/
def pathL (w h : Int) (hs : List Int) (a b : Int) (p : List Int) : Prop := (1 ≤ p.length ∧ p.length ≤ 64) ∧ ∀ i, i < p.length → hasP w h hs (p.getD i 0) ∧ (0 < i → isL w a b (p.getD (i - 1) 0) (p.getD i 0))
def walkL (w h : Int) (hs : List Int) (a b : Int) (p : List Int) : Prop := pathL w h hs a b p ∧ ∀ i, i < p.length → p.getD i 0 ∉ p.take i
instance {w h a b : Int} {hs p : List Int} : Decidable (pathL w h hs a b p) := by unfold pathL; infer_instance
instance {w h a b : Int} {hs p : List Int} : Decidable (walkL w h hs a b p) := by unfold walkL; infer_instance
theorem near_len {w h a b : Int} {hs : List Int} : (nearL w h hs a b).length = (w * h).toNat := by simp [nearL]
theorem near_row {w h a b c : Int} {hs : List Int} (hc : hasP w h hs c) : (nearL w h hs a b).getD c.toNat [] = leapsL w h hs a b c := by
  obtain ⟨c0, c1, c2⟩ := hc
  rw [getD_lt (by rw [near_len]; omega)]
  simp only [nearL, List.getElem_map, List.getElem_range]
  rw [show ((c.toNat : Nat) : Int) = c by omega, if_neg c2]
theorem leapsL_len (w h : Int) (hs : List Int) (a b c : Int) : (leapsL w h hs a b c).length ≤ (w * h).toNat := Nat.le_trans (List.length_filter_le ..) (cellsL_le _ _)
theorem nodup_sub_len : ∀ {l m : List Int}, l.Nodup → (∀ x ∈ l, x ∈ m) → l.length ≤ m.length
  | [], m, _, _ => Nat.zero_le _
  | x :: l, m, hd, hs => by
    rw [List.nodup_cons] at hd
    have hx := hs x (List.mem_cons_self ..)
    have ih := nodup_sub_len (m := m.erase x) hd.2 fun y hy => (List.mem_erase_of_ne (fun e => hd.1 (by rw [← e]; exact hy))).2 (hs y (List.mem_cons_of_mem _ hy))
    rw [List.length_erase_of_mem hx] at ih
    have := List.length_pos_of_mem hx
    simp only [List.length_cons]
    omega
theorem nodup_sub_all {l m : List Int} (hl : l.Nodup) (hs : ∀ x ∈ l, x ∈ m) (hn : m.length ≤ l.length) {c : Int} (hc : c ∈ m) : c ∈ l := by
  apply Decidable.byContradiction
  intro h
  have := nodup_sub_len (l := c :: l) (m := m) (List.nodup_cons.2 ⟨h, hl⟩) fun x hx => by
    rcases List.mem_cons.1 hx with rfl | hx
    · exact hc
    · exact hs x hx
  simp only [List.length_cons] at this
  omega
theorem nodup_of_take {p : List Int} (h : ∀ i, i < p.length → p.getD i 0 ∉ p.take i) : p.Nodup := by
  rw [List.Nodup, List.pairwise_iff_getElem]
  intro i j hi hj hij e
  refine h j hj ?_
  rw [getD_lt hj, ← e, List.mem_take_iff_getElem]
  exact ⟨i, by omega, rfl⟩
theorem take_of_nodup {p : List Int} (h : p.Nodup) : ∀ i, i < p.length → p.getD i 0 ∉ p.take i := by
  intro i hi hm
  rw [getD_lt hi, List.mem_take_iff_getElem] at hm
  obtain ⟨j, hj, e⟩ := hm
  exact List.pairwise_iff_getElem.1 h j i (by omega) hi (by omega) e
/-- A list is a tour. -/
def tourL (w h : Int) (hs : List Int) (a b : Int) (p : List Int) : Prop := walkL w h hs a b p ∧ p.length = (cellsL (w * h).toNat hs).length
instance {w h a b : Int} {hs p : List Int} : Decidable (tourL w h hs a b p) := by unfold tourL; infer_instance
theorem walk_has {w h a b : Int} {hs p : List Int} (hp : pathL w h hs a b p) : ∀ c ∈ p, hasP w h hs c := fun c hc => by
  obtain ⟨i, hi, rfl⟩ := mem_getD.1 hc
  exact (hp.2 i hi).1
theorem tour_all {w h a b c : Int} {hs p : List Int} (hp : tourL w h hs a b p) (hc : hasP w h hs c) : c ∈ p :=
  nodup_sub_all (nodup_of_take hp.1.2) (fun x hx => mem_cells.2 (walk_has hp.1.1 x hx)) (by rw [hp.2]; exact Nat.le_refl _) (mem_cells.2 hc)
theorem GoodB.len {w h : Int} {hs : List Int} (g : GoodB w h hs) : hs.length ≤ 63 := by have := g.few; have := g.m; omega
theorem v_spec_boLeaps {w h a b c : Int} {hs : List Int} (gb : GoodB w h hs) (hl : hs.length ≤ 1099511627776) (hc : hasP w h hs c) : sh_spec_boLeaps w h hs a b c = some (leapsL w h hs a b c) := by
  have ⟨m1, m64⟩ := gb.m
  have hcl := cellsL_le (w * h).toNat hs
  refine sh_spec_boLeaps_of (n := 100) ?_
  show S_spec_boLeaps_e w h hs a b c _ = _
  unfold S_spec_boLeaps_e
  rw [v_spec_boCells m1 m64 hl]
  simp only [Option.bind_some]
  refine loopF (F := fun n i => F_spec_boLeaps_0 100 (fun r => some r) n c (((cellsL (w * h).toNat hs).take i).filter fun d => decide (isL w a b c d)) (cellsL (w * h).toNat hs) ((cellsL (w * h).toNat hs).length : Int) (i : Int) w h hs a b) (len := (cellsL (w * h).toNat hs).length) (n := 100) (fun n i hi => ?_) (fun n => ?_) (by omega)
  · have q1 : (i : Int) < ((cellsL (w * h).toNat hs).length : Int) := by omega
    have q2 : (0 : Int) ≤ i := by omega
    obtain ⟨d0, d1, _⟩ := cells_get hi
    have hlen : (((cellsL (w * h).toNat hs).take i).filter fun d => decide (isL w a b c d)).length ≤ i := Nat.le_trans (List.length_filter_le ..) (by simp; omega)
    have hs' : ((cellsL (w * h).toNat hs).take (i + 1)).filter (fun d => decide (isL w a b c d)) = (((cellsL (w * h).toNat hs).take i).filter fun d => decide (isL w a b c d)) ++ (if isL w a b c ((cellsL (w * h).toNat hs).getD i 0) then [(cellsL (w * h).toNat hs).getD i 0] else []) := by
      rw [List.take_add_one, List.filter_append, getD_lt hi, List.getElem?_eq_getElem hi]
      congr 1
      by_cases hq : isL w a b c (cellsL (w * h).toNat hs)[i] <;> simp [hq]
    simp only [F_spec_boLeaps_0, S_spec_boLeaps_0, q1, q2, decide_true, cond_true, if_true, Int.toNat_natCast, v_spec_boIs gb.w1 gb.w8 hc.1 (Int.lt_of_lt_of_le hc.2.1 m64) d0 (show (cellsL (w * h).toNat hs).getD i 0 < 64 by omega), Option.bind_some, next64 (show i < 9223372036854775807 by omega), hs']
    by_cases hq : isL w a b c ((cellsL (w * h).toNat hs).getD i 0)
    · rw [decide_eq_true hq, if_pos hq, cond_true, if_pos (by simp; omega)]
    · rw [decide_eq_false hq, if_neg hq, cond_false, List.append_nil]
  · have q : ¬ (((cellsL (w * h).toNat hs).length : Int) < ((cellsL (w * h).toNat hs).length : Int)) := by omega
    simp only [F_spec_boLeaps_0, S_spec_boLeaps_0, q, decide_false, cond_false, List.take_length]
    rfl
/-! Distances: the search from a cell. -/
def negs (s : List Int) : Nat := (s.filter fun x => decide (x < 0)).length
theorem negs_set : ∀ {s : List Int} {i : Nat} {x : Int}, i < s.length → s.getD i 0 < 0 → 0 ≤ x → negs (s.set i x) + 1 = negs s
  | [], i, x, h, _, _ => by simp at h
  | y :: s, 0, x, h, h1, h2 => by
    have h1 : y < 0 := h1
    unfold negs
    rw [List.set_cons_zero, List.filter_cons, List.filter_cons, if_neg (by simp; omega), if_pos (by simpa using h1)]
    simp
  | y :: s, i + 1, x, h, h1, h2 => by
    have ih := negs_set (s := s) (i := i) (x := x) (by simpa using h) (by simpa using h1) h2
    unfold negs at ih ⊢
    rw [List.set_cons_succ, List.filter_cons, List.filter_cons]
    split <;> (try simp only [List.length_cons]) <;> omega
/-- What the search keeps. -/
structure FarI (w h : Int) (hs : List Int) (a b c0 : Int) (s q : List Int) : Prop where
  len : s.length = (w * h).toNat
  has : ∀ x ∈ q, hasP w h hs x ∧ 0 ≤ s.getD x.toNat 0
  start : 0 ≤ s.getD c0.toNat 0
  marked : ∀ k, k < (w * h).toNat → 0 ≤ s.getD k 0 → hasP w h hs (k : Int)
  vals : ∀ k, k < (w * h).toNat → -1 ≤ s.getD k 0 ∧ s.getD k 0 + negs s + 1 ≤ (w * h).toNat
/-- All cells to which one leaps from a marked one are marked. -/
def ClosedF (w h : Int) (hs : List Int) (a b : Int) (s : List Int) (x : Int) : Prop := ∀ d ∈ leapsL w h hs a b x, 0 ≤ s.getD d.toNat 0
theorem FarI.mark {w h a b c0 c d : Int} {hs s r q : List Int} (I : FarI w h hs a b c0 s (c :: q)) (hd : hasP w h hs d) (hneg : s.getD d.toNat 0 < 0) :
    FarI w h hs a b c0 (s.set d.toNat (s.getD c.toNat 0 + 1)) (c :: q ++ [d]) ∧ negs (s.set d.toNat (s.getD c.toNat 0 + 1)) + 1 = negs s ∧ (∀ k, 0 ≤ s.getD k 0 → 0 ≤ (s.set d.toNat (s.getD c.toNat 0 + 1)).getD k 0) ∧ 0 ≤ (s.set d.toNat (s.getD c.toNat 0 + 1)).getD d.toNat 0 := by
  have hc := I.has c (List.mem_cons_self ..)
  have hdl : d.toNat < s.length := by rw [I.len]; have := hd.1; have := hd.2.1; omega
  have hn := negs_set (x := s.getD c.toNat 0 + 1) hdl hneg (by omega)
  have mono : ∀ k, 0 ≤ s.getD k 0 → 0 ≤ (s.set d.toNat (s.getD c.toNat 0 + 1)).getD k 0 := fun k hk => by
    rw [getD_set]
    split
    · omega
    · exact hk
  have self : 0 ≤ (s.set d.toNat (s.getD c.toNat 0 + 1)).getD d.toNat 0 := by rw [getD_set, if_pos ⟨rfl, hdl⟩]; omega
  refine ⟨⟨by simpa using I.len, fun x hx => ?_, mono _ I.start, fun k hk hk0 => ?_, fun k hk => ?_⟩, hn, mono, self⟩
  · rcases List.mem_append.1 hx with hx | hx
    · exact ⟨(I.has x hx).1, mono _ (I.has x hx).2⟩
    · rw [List.mem_singleton.1 hx]; exact ⟨hd, self⟩
  · rw [getD_set] at hk0
    split at hk0
    · rename_i e
      rw [← e.1, show ((d.toNat : Nat) : Int) = d from by have := hd.1; omega]; exact hd
    · exact I.marked k hk hk0
  · have hv := I.vals k hk
    have hcv := I.vals c.toNat (by have := hc.1.1; have := hc.1.2.1; omega)
    rw [getD_set]
    split <;> omega
theorem v_impl_graph_far {w h a b c0 : Int} {hs : List Int} (gb : GoodB w h hs) (hc0 : hasP w h hs c0) :
    ∃ r, sh_impl_graph_far true w h hs a b (cellsL (w * h).toNat hs) (nearL w h hs a b) c0 = some r ∧ FarI w h hs a b c0 r [] ∧ ∀ x, hasP w h hs x → 0 ≤ r.getD x.toNat 0 → ClosedF w h hs a b r x := by
  have ⟨m1, m64⟩ := gb.m
  have hm : IntKind.i64.wrap (w * h) = w * h := w64 (by omega) (by omega)
  -- one cell's leaps
  have inner : ∀ (B : Bool → Int → Int → List Int → Int → Int → List Int → List (List Int) → List Int → List Int → Option (List Int)) (c : Int) (s q : List Int), FarI w h hs a b c0 s (c :: q) → q.length + negs s ≤ 64 → (∀ x, hasP w h hs x → 0 ≤ s.getD x.toNat 0 → x ∈ c :: q ∨ ClosedF w h hs a b s x) →
      ∃ s' q', F_impl_graph_far_2 300 B (fun r => some r) 300 true w h hs a b (cellsL (w * h).toNat hs) (nearL w h hs a b) s (c :: q) (leapsL w h hs a b c) ((leapsL w h hs a b c).length : Int) ((0 : Nat) : Int) = B true w h hs a b (cellsL (w * h).toNat hs) (nearL w h hs a b) s' q' ∧ FarI w h hs a b c0 s' q' ∧ q'.length + negs s' = q.length + negs s ∧ (∀ x, hasP w h hs x → 0 ≤ s'.getD x.toNat 0 → x ∈ q' ∨ ClosedF w h hs a b s' x) := by
    intro B c s q I hle hcl
    have hlen := leapsL_len w h hs a b c
    have key : ∀ k i (s q : List Int) n, i + k = (leapsL w h hs a b c).length → k < n → FarI w h hs a b c0 s (c :: q) → q.length + negs s ≤ 64 → (∀ x, hasP w h hs x → 0 ≤ s.getD x.toNat 0 → x ∈ c :: q ∨ ClosedF w h hs a b s x) → (∀ j, j < i → 0 ≤ s.getD ((leapsL w h hs a b c).getD j 0).toNat 0) →
        ∃ s' q', F_impl_graph_far_2 300 B (fun r => some r) n true w h hs a b (cellsL (w * h).toNat hs) (nearL w h hs a b) s (c :: q) (leapsL w h hs a b c) ((leapsL w h hs a b c).length : Int) (i : Int) = B true w h hs a b (cellsL (w * h).toNat hs) (nearL w h hs a b) s' q' ∧ FarI w h hs a b c0 s' q' ∧ q'.length + negs s' = q.length + negs s ∧ (∀ x, hasP w h hs x → 0 ≤ s'.getD x.toNat 0 → x ∈ q' ∨ ClosedF w h hs a b s' x) := by
      intro k
      induction k with
      | zero =>
        intro i s q n h1 h2 I hle hcl hdone
        obtain ⟨n, rfl⟩ : ∃ m, n = m + 1 := ⟨n - 1, by omega⟩
        have e : i = (leapsL w h hs a b c).length := by omega
        subst e
        have q0 : ¬ (((leapsL w h hs a b c).length : Int) < ((leapsL w h hs a b c).length : Int)) := by omega
        refine ⟨s, q, ?_, ⟨I.len, fun x hx => I.has x (List.mem_cons_of_mem _ hx), I.start, I.marked, I.vals⟩, rfl, fun x hx hx0 => ?_⟩
        · have q1 : (1 : Int) ≤ ((c :: q).length : Int) := by simp only [List.length_cons]; omega
          simp only [F_impl_graph_far_2, S_impl_graph_far_2, q0, decide_false, cond_false, q1, if_true, show (0 : Int) ≤ 1 by omega, show (1 : Int).toNat = 1 from rfl, List.take_length, List.drop_succ_cons, List.drop_zero]
        · rcases hcl x hx hx0 with h3 | h3
          · rcases List.mem_cons.1 h3 with rfl | h3
            · refine .inr fun d hd => ?_
              obtain ⟨j, hj, rfl⟩ := mem_getD.1 hd
              exact hdone j hj
            · exact .inl h3
          · exact .inr h3
      | succ k ih =>
        intro i s q n h1 h2 I hle hcl hdone
        obtain ⟨n, rfl⟩ : ∃ m, n = m + 1 := ⟨n - 1, by omega⟩
        have hi : i < (leapsL w h hs a b c).length := by omega
        have hd := (mem_leapsL.1 (getD_mem hi)).1
        have q1 : (i : Int) < ((leapsL w h hs a b c).length : Int) := by omega
        have q2 : (0 : Int) ≤ i := by omega
        have q3 : (leapsL w h hs a b c).getD i 0 < (s.length : Int) := by rw [I.len]; have := hd.2.1; omega
        have hc := I.has c (List.mem_cons_self ..)
        have q4 : c < (s.length : Int) := by rw [I.len]; have := hc.1.2.1; omega
        have q5 : (0 : Int) < ((c :: q).length : Int) := by simp only [List.length_cons]; omega
        have q6 : (c :: q).getD ((0 : Int).toNat) 0 = c := rfl
        have hcv := I.vals c.toNat (by have := hc.1.1; have := hc.1.2.1; omega)
        have e1 : IntKind.i64.wrap (s.getD c.toNat 0 + 1) = s.getD c.toNat 0 + 1 := w64 (by omega) (by omega)
        by_cases hneg : s.getD ((leapsL w h hs a b c).getD i 0).toNat 0 < 0
        · obtain ⟨I', hn, mono, self⟩ := I.mark (r := []) hd hneg
          have hcl' : ∀ x, hasP w h hs x → 0 ≤ (s.set ((leapsL w h hs a b c).getD i 0).toNat (s.getD c.toNat 0 + 1)).getD x.toNat 0 → x ∈ c :: (q ++ [(leapsL w h hs a b c).getD i 0]) ∨ ClosedF w h hs a b (s.set ((leapsL w h hs a b c).getD i 0).toNat (s.getD c.toNat 0 + 1)) x := by
            intro x hx hx0
            by_cases hxd : x = (leapsL w h hs a b c).getD i 0
            · exact .inl (by rw [hxd]; simp)
            · have hx0' : 0 ≤ s.getD x.toNat 0 := by
                rw [getD_set, if_neg (fun e => hxd (by have := hx.1; have := hd.1; omega))] at hx0
                exact hx0
              rcases hcl x hx hx0' with h3 | h3
              · exact .inl (List.mem_append_left [(leapsL w h hs a b c).getD i 0] h3)
              · exact .inr fun d hd' => mono _ (h3 d hd')
          have hdone' : ∀ j, j < i + 1 → 0 ≤ (s.set ((leapsL w h hs a b c).getD i 0).toNat (s.getD c.toNat 0 + 1)).getD ((leapsL w h hs a b c).getD j 0).toNat 0 := by
            intro j hj
            rcases Nat.lt_succ_iff_lt_or_eq.1 hj with e | e
            · exact mono _ (hdone j e)
            · rw [e]; exact self
          obtain ⟨s', q', k1, k2, k3, k4⟩ := ih (i + 1) _ (q ++ [(leapsL w h hs a b c).getD i 0]) n (by omega) (by omega) I' (by rw [List.length_append, List.length_singleton]; omega) hcl' hdone'
          refine ⟨s', q', ?_, k2, ?_, k4⟩
          · rw [← k1]
            simp only [F_impl_graph_far_2, S_impl_graph_far_2, q1, q2, q3, q4, q5, q6, hd.1, hc.1.1, e1, decide_true, cond_true, if_true, Int.toNat_natCast, decide_eq_true hneg, Int.le_refl, next64 (show i < 9223372036854775807 by omega)]
            rw [if_pos (by rw [List.length_append, List.length_singleton, List.length_cons]; omega)]
            rfl
          · rw [List.length_append, List.length_singleton] at k3; omega
        · obtain ⟨s', q', k1, k2, k3, k4⟩ := ih (i + 1) s q n (by omega) (by omega) I hle hcl (fun j hj => by
            rcases Nat.lt_succ_iff_lt_or_eq.1 hj with e | e
            · exact hdone j e
            · rw [e]; omega)
          refine ⟨s', q', ?_, k2, k3, k4⟩
          rw [← k1]
          simp only [F_impl_graph_far_2, S_impl_graph_far_2, q1, q2, q3, hd.1, decide_true, cond_true, if_true, Int.toNat_natCast, decide_eq_false hneg, cond_false, next64 (show i < 9223372036854775807 by omega)]
    exact key (leapsL w h hs a b c).length 0 s q 300 (by omega) (by omega) I hle hcl (fun j hj => by omega)
  have outer : ∀ m n (s q : List Int), q.length + negs s = m → m < n → m ≤ 64 + 1 → FarI w h hs a b c0 s q → (∀ x, hasP w h hs x → 0 ≤ s.getD x.toNat 0 → x ∈ q ∨ ClosedF w h hs a b s x) →
      ∃ r, F_impl_graph_far_1 300 (fun r => some r) n true w h hs a b (cellsL (w * h).toNat hs) (nearL w h hs a b) s q = some r ∧ FarI w h hs a b c0 r [] ∧ ∀ x, hasP w h hs x → 0 ≤ r.getD x.toNat 0 → ClosedF w h hs a b r x := by
    intro m
    induction m with
    | zero =>
      intro n s q h1 h2 _ I hcl
      obtain ⟨n, rfl⟩ : ∃ m, n = m + 1 := ⟨n - 1, by omega⟩
      have hq : q = [] := List.length_eq_zero_iff.1 (by omega)
      subst hq
      exact ⟨s, by simp [F_impl_graph_far_1, S_impl_graph_far_1], I, fun x hx hx0 => (hcl x hx hx0).resolve_left (by simp)⟩
    | succ m ih =>
      intro n s q h1 h2 h3 I hcl
      obtain ⟨n, rfl⟩ : ∃ m, n = m + 1 := ⟨n - 1, by omega⟩
      cases q with
      | nil => exact ⟨s, by simp [F_impl_graph_far_1, S_impl_graph_far_1], I, fun x hx hx0 => (hcl x hx hx0).resolve_left (by simp)⟩
      | cons c q =>
        simp only [List.length_cons] at h1
        have hc := I.has c (List.mem_cons_self ..)
        obtain ⟨s', q', k1, k2, k3, k4⟩ := inner (F_impl_graph_far_1 300 (fun r => some r) n) c s q I (by omega) hcl
        obtain ⟨r, r1, r2⟩ := ih n s' q' (by omega) (by omega) (by omega) k2 k4
        refine ⟨r, ?_, r2⟩
        rw [← r1, ← k1]
        have q1 : ((c :: q).length : Int) > 0 := by simp only [List.length_cons]; omega
        have q2 : (0 : Int) < ((c :: q).length : Int) := q1
        have q3 : (c :: q).getD ((0 : Int).toNat) 0 = c := rfl
        have q4 : c < ((nearL w h hs a b).length : Int) := by rw [near_len]; have := hc.1.2.1; omega
        simp only [F_impl_graph_far_1, S_impl_graph_far_1, q1, q2, q3, q4, hc.1.1, decide_true, cond_true, if_true, Int.le_refl, near_row hc.1]
        rfl
  have hN : (w * h).toNat ≤ 64 := by omega
  have c0l : c0.toNat < (w * h).toNat := by have := hc0.1; have := hc0.2.1; omega
  have sg : ∀ k, k < (w * h).toNat → ((List.replicate (w * h).toNat (-1 : Int)).set c0.toNat 0).getD k 0 = if k = c0.toNat then 0 else -1 := fun k hk => by
    rw [getD_set]
    by_cases e : c0.toNat = k
    · rw [if_pos ⟨e, by simpa using c0l⟩, if_pos e.symm]
    · rw [if_neg (fun q => e q.1), if_neg (fun q => e q.symm)]
      simp [List.getD_eq_getElem?_getD, hk]
  have nr : negs (List.replicate (w * h).toNat (-1 : Int)) = (w * h).toNat := by
    unfold negs
    rw [List.filter_replicate]
    simp
  have ns := negs_set (s := List.replicate (w * h).toNat (-1 : Int)) (i := c0.toNat) (x := 0) (by simpa using c0l) (by simp [List.getD_eq_getElem?_getD, c0l]) (by omega)
  obtain ⟨r, r1, r2⟩ := outer (w * h).toNat 300 ((List.replicate (w * h).toNat (-1 : Int)).set c0.toNat 0) [c0] (by simp only [List.length_singleton]; omega) (by omega) (by omega)
    ⟨by simp, fun x hx => by rw [List.mem_singleton.1 hx]; exact ⟨hc0, by rw [sg _ c0l, if_pos rfl]; omega⟩, by rw [sg _ c0l, if_pos rfl]; omega, fun k hk hk0 => by
      rw [sg k hk] at hk0
      split at hk0
      · rename_i e; rw [e, show ((c0.toNat : Nat) : Int) = c0 by have := hc0.1; omega]; exact hc0
      · omega, fun k hk => by rw [sg k hk]; split <;> omega⟩
    (fun x hx hx0 => by
      have hxl : x.toNat < (w * h).toNat := by have := hx.1; have := hx.2.1; omega
      rw [sg _ hxl] at hx0
      split at hx0
      · rename_i e; exact .inl (List.mem_singleton.2 (by have := hx.1; have := hc0.1; omega))
      · omega)
  refine ⟨r, sh_impl_graph_far_of (n := 300) ?_, r2⟩
  show S_impl_graph_far_e true w h hs a b (cellsL (w * h).toNat hs) (nearL w h hs a b) c0 _ = _
  unfold S_impl_graph_far_e
  rw [hm]
  simp only [cond_true]
  rw [if_pos (by omega), if_pos (by omega)]
  have e0 : List.replicate (w * h).toNat (0 : Int) = List.replicate 0 (-1 : Int) ++ List.replicate ((w * h).toNat - 0) 0 := by simp
  refine Eq.trans ?_ r1
  rw [show ((List.replicate (w * h).toNat (0 : Int)).length : Int) = ((w * h).toNat : Int) by simp]
  refine (loopF (F := fun n i => F_impl_graph_far_0 300 (fun r => some r) n true w h hs a b (cellsL (w * h).toNat hs) (nearL w h hs a b) c0 (List.replicate i (-1 : Int) ++ List.replicate ((w * h).toNat - i) 0) ((w * h).toNat : Int) (i : Int)) (len := (w * h).toNat) (n := 300) (R := F_impl_graph_far_1 300 (fun r => some r) 300 true w h hs a b (cellsL (w * h).toNat hs) (nearL w h hs a b) ((List.replicate (w * h).toNat (-1 : Int)).set c0.toNat 0) [c0]) (fun n i hi => ?_) (fun n => ?_) (by omega))
  · have q1 : (i : Int) < ((w * h).toNat : Int) := by omega
    have q2 : (0 : Int) ≤ i := by omega
    have q3 : (i : Int) < (((List.replicate i (-1 : Int) ++ List.replicate ((w * h).toNat - i) 0).length : Nat) : Int) := by simp; omega
    have e : (List.replicate i (-1 : Int) ++ List.replicate ((w * h).toNat - i) 0).set i (-1) = List.replicate (i + 1) (-1 : Int) ++ List.replicate ((w * h).toNat - (i + 1)) 0 := by
      refine List.ext_getElem (by simp; omega) fun k h1 h2 => ?_
      rw [List.getElem_set]
      simp only [List.getElem_append, List.length_replicate, List.getElem_replicate]
      by_cases e1 : i = k
      · rw [if_pos e1, dif_pos (by omega)]
      · rw [if_neg e1]
        by_cases e2 : k < i
        · rw [dif_pos e2, dif_pos (by omega)]
        · rw [dif_neg e2, dif_neg (by omega)]
    simp only [F_impl_graph_far_0, S_impl_graph_far_0, q1, q2, q3, decide_true, cond_true, if_true, Int.toNat_natCast, next64 (show i < 9223372036854775807 by omega), e]
  · have q : ¬ (((w * h).toNat : Int) < ((w * h).toNat : Int)) := by omega
    have q1 : c0 < (((List.replicate (w * h).toNat (-1 : Int)).length : Nat) : Int) := by have := hc0.2.1; rw [List.length_replicate]; omega
    have e2 : List.replicate (w * h).toNat (-1 : Int) ++ List.replicate ((w * h).toNat - (w * h).toNat) 0 = List.replicate (w * h).toNat (-1 : Int) := by simp
    simp only [F_impl_graph_far_0, S_impl_graph_far_0, q, decide_false, cond_false, hc0.1, q1, if_true, e2]
/-- From each cell the search reaches all cells. -/
def connL (w h : Int) (hs : List Int) (a b : Int) : Prop := ∀ c0, hasP w h hs c0 → ∀ r, FarI w h hs a b c0 r [] → (∀ x, hasP w h hs x → 0 ≤ r.getD x.toNat 0 → ClosedF w h hs a b r x) → ∀ x, hasP w h hs x → 0 ≤ r.getD x.toNat 0
theorem tour_conn {w h a b : Int} {hs p : List Int} (ht : tourL w h hs a b p) : connL w h hs a b := by
  intro c0 hc0 r I hcl x hx
  have leap : ∀ i, i + 1 < p.length → (0 ≤ r.getD (p.getD i 0).toNat 0 ↔ 0 ≤ r.getD (p.getD (i + 1) 0).toNat 0) := fun i hi => by
    have h1 := ht.1.1.2 i (by omega)
    have h2 := ht.1.1.2 (i + 1) hi
    have hl := h2.2 (by omega)
    rw [Nat.add_sub_cancel] at hl
    exact ⟨fun h0 => hcl _ h1.1 h0 _ (mem_leapsL.2 ⟨h2.1, hl⟩), fun h0 => hcl _ h2.1 h0 _ (mem_leapsL.2 ⟨h1.1, isL_comm.1 hl⟩)⟩
  have all : ∀ i j, i ≤ j → j < p.length → (0 ≤ r.getD (p.getD i 0).toNat 0 ↔ 0 ≤ r.getD (p.getD j 0).toNat 0) := by
    intro i j hij
    induction j with
    | zero => intro _; rw [show i = 0 by omega]
    | succ j ih =>
      intro hj
      rcases Nat.lt_or_ge i (j + 1) with q | q
      · exact (ih (by omega) (by omega)).trans (leap j hj)
      · rw [show i = j + 1 by omega]
  obtain ⟨i, hi, rfl⟩ := mem_getD.1 (tour_all ht hc0)
  obtain ⟨j, hj, rfl⟩ := mem_getD.1 (tour_all ht hx)
  rcases Nat.le_total i j with q | q
  · exact (all i j q hj).1 I.start
  · exact (all j i q hi).2 I.start
theorem v_impl_graph_parts {w h a b : Int} {hs : List Int} (gb : GoodB w h hs) :
    ∃ r, sh_impl_graph_parts true w h hs a b (cellsL (w * h).toNat hs) (nearL w h hs a b) = some r ∧ (connL w h hs a b → r.length ≤ 1) := by
  have ⟨m1, m64⟩ := gb.m
  have hcl := cellsL_le (w * h).toNat hs
  -- marking what the search found
  have inner : ∀ (B : Bool → Int → Int → List Int → Int → Int → List Int → List (List Int) → List (List Int) → List Bool → Int → Int → Option (List (List Int))) (out : List (List Int)) (seen : List Bool) (u v : Int) (r : List Int), r.length = (w * h).toNat → seen.length = (w * h).toNat → out.length ≤ 64 → 0 ≤ v → v ≤ 64 →
      ∃ part seen', F_impl_graph_parts_1 200 B (fun r => some r) 200 true w h hs a b (cellsL (w * h).toNat hs) (nearL w h hs a b) out seen [] u v r (r.length : Int) ((0 : Nat) : Int) = B true w h hs a b (cellsL (w * h).toNat hs) (nearL w h hs a b) (out ++ [part]) seen' u (v + 1) ∧ seen'.length = (w * h).toNat ∧ ∀ k, k < (w * h).toNat → 0 ≤ r.getD k 0 → seen'.getD k false = true := by
    intro B out seen u v r hr hsn ho v0 v64
    have key : ∀ k i (part : List Int) (seen : List Bool) n, i + k = r.length → k < n → part.length ≤ i → seen.length = (w * h).toNat → (∀ k, k < i → 0 ≤ r.getD k 0 → seen.getD k false = true) →
        ∃ part' seen', F_impl_graph_parts_1 200 B (fun r => some r) n true w h hs a b (cellsL (w * h).toNat hs) (nearL w h hs a b) out seen part u v r (r.length : Int) (i : Int) = B true w h hs a b (cellsL (w * h).toNat hs) (nearL w h hs a b) (out ++ [part']) seen' u (v + 1) ∧ seen'.length = (w * h).toNat ∧ ∀ k, k < (w * h).toNat → 0 ≤ r.getD k 0 → seen'.getD k false = true := by
      intro k
      induction k with
      | zero =>
        intro i part seen n h1 h2 h3 h4 h5
        obtain ⟨n, rfl⟩ : ∃ m, n = m + 1 := ⟨n - 1, by omega⟩
        have e : i = r.length := by omega
        subst e
        have q0 : ¬ ((r.length : Int) < (r.length : Int)) := by omega
        have e1 : IntKind.i64.wrap (v + 1) = v + 1 := w64 (by omega) (by omega)
        refine ⟨part, seen, ?_, h4, fun k hk h0 => h5 k (by omega) h0⟩
        simp only [F_impl_graph_parts_1, S_impl_graph_parts_1, q0, decide_false, cond_false, e1]
        rw [if_pos (by rw [List.length_append, List.length_singleton]; omega)]
      | succ k ih =>
        intro i part seen n h1 h2 h3 h4 h5
        obtain ⟨n, rfl⟩ : ∃ m, n = m + 1 := ⟨n - 1, by omega⟩
        have q1 : (i : Int) < (r.length : Int) := by omega
        have q2 : (0 : Int) ≤ i := by omega
        have q3 : (i : Int) < (seen.length : Int) := by omega
        by_cases hz : r.getD i 0 ≥ 0
        · obtain ⟨p', s', k1, k2, k3⟩ := ih (i + 1) (part ++ [(i : Int)]) (seen.set i true) n (by omega) (by omega) (by rw [List.length_append, List.length_singleton]; omega) (by simpa using h4) (fun k hk h0 => by
            rw [getD_set]
            split
            · rfl
            · rename_i hne
              exact h5 k (by
                rcases Nat.lt_succ_iff_lt_or_eq.1 hk with e | e
                · exact e
                · exact absurd ⟨e.symm, by omega⟩ hne) h0)
          refine ⟨p', s', ?_, k2, k3⟩
          rw [← k1]
          simp only [F_impl_graph_parts_1, S_impl_graph_parts_1, q1, q2, q3, decide_true, cond_true, if_true, Int.toNat_natCast, decide_eq_true hz, next64 (show i < 9223372036854775807 by omega)]
          rw [if_pos (by rw [List.length_append, List.length_singleton]; omega)]
        · obtain ⟨p', s', k1, k2, k3⟩ := ih (i + 1) part seen n (by omega) (by omega) (by omega) h4 (fun k hk h0 => h5 k (by
            rcases Nat.lt_succ_iff_lt_or_eq.1 hk with e | e
            · exact e
            · rw [e] at h0; omega) h0)
          refine ⟨p', s', ?_, k2, k3⟩
          rw [← k1]
          simp only [F_impl_graph_parts_1, S_impl_graph_parts_1, q1, q2, decide_true, cond_true, if_true, Int.toNat_natCast, decide_eq_false hz, cond_false, next64 (show i < 9223372036854775807 by omega)]
    exact key r.length 0 [] seen 200 (by omega) (by omega) (by simp) hsn (fun k hk => by omega)
  obtain ⟨s, i1, i2⟩ := bld (F := fun n i (s : List (List Int) × List Bool) => F_impl_graph_parts_0 200 (fun r => some r) n true w h hs a b (cellsL (w * h).toNat hs) (nearL w h hs a b) s.1 s.2 ((cellsL (w * h).toNat hs).length : Int) (i : Int)) (len := (cellsL (w * h).toNat hs).length) (out := fun s => s.1) (Inv := fun i s => s.2.length = (w * h).toNat ∧ s.1.length ≤ i ∧ (connL w h hs a b → (i = 0 ∧ s.1 = []) ∨ (0 < i ∧ s.1.length = 1 ∧ ∀ c, hasP w h hs c → s.2.getD c.toNat false = true)) ∧ (i = 0 → ∀ k, s.2.getD k false = false)) (fun n i s hi hs' => by
    obtain ⟨j1, j2, j3, j4⟩ := hs'
    have q1 : (i : Int) < ((cellsL (w * h).toNat hs).length : Int) := by omega
    have q2 : (0 : Int) ≤ i := by omega
    have hc := mem_cells.1 (getD_mem hi)
    have q3 : (cellsL (w * h).toNat hs).getD i 0 < (s.2.length : Int) := by have := hc.2.1; omega
    cases hseen : s.2.getD ((cellsL (w * h).toNat hs).getD i 0).toNat false with
    | true =>
      refine ⟨s, ⟨j1, by omega, fun hcn => ?_, fun e => by omega⟩, ?_⟩
      · rcases j3 hcn with ⟨rfl, _⟩ | ⟨k1, k2, k3⟩
        · rw [j4 rfl] at hseen; cases hseen
        · exact .inr ⟨by omega, k2, k3⟩
      · simp only [F_impl_graph_parts_0, S_impl_graph_parts_0, q1, q2, q3, hc.1, hseen, decide_true, cond_true, if_true, Int.toNat_natCast, next64 (show i < 9223372036854775807 by omega)]
    | false =>
      obtain ⟨r, r1, r2, r3⟩ := v_impl_graph_far (a := a) (b := b) gb hc
      obtain ⟨part, seen', k1, k2, k3⟩ := inner (F_impl_graph_parts_0 200 (fun r => some r) n) s.1 s.2 ((cellsL (w * h).toNat hs).length : Int) (i : Int) r r2.len j1 (by omega) q2 (by omega)
      refine ⟨(s.1 ++ [part], seen'), ⟨k2, by rw [List.length_append, List.length_singleton]; omega, fun hcn => ?_, fun e => by omega⟩, ?_⟩
      · rcases j3 hcn with ⟨rfl, e⟩ | ⟨_, _, e3⟩
        · refine .inr ⟨by omega, by rw [e]; rfl, fun c hcc => k3 _ (by have := hcc.1; have := hcc.2.1; omega) (hcn _ hc r r2 r3 c hcc)⟩
        · rw [e3 _ hc] at hseen; cases hseen
      · simp only [F_impl_graph_parts_0, S_impl_graph_parts_0, q1, q2, q3, hc.1, hseen, decide_true, cond_true, cond_false, if_true, Int.toNat_natCast, r1, Option.bind_some]
        exact k1) (fun n s _ => by
    have q : ¬ (((cellsL (w * h).toNat hs).length : Int) < ((cellsL (w * h).toNat hs).length : Int)) := by omega
    simp only [F_impl_graph_parts_0, S_impl_graph_parts_0, q, decide_false, cond_false]) (cellsL (w * h).toNat hs).length 0 ([], List.replicate (w * h).toNat false) 200 (by omega) (by omega) ⟨by simp, by simp, fun _ => .inl ⟨rfl, rfl⟩, fun _ k => by simp [List.getD_eq_getElem?_getD, List.getElem?_replicate]; split <;> rfl⟩
  refine ⟨s.1, sh_impl_graph_parts_of (n := 200) ?_, fun hcn => ?_⟩
  · show S_impl_graph_parts_e true w h hs a b (cellsL (w * h).toNat hs) (nearL w h hs a b) _ = _
    unfold S_impl_graph_parts_e
    rw [near_len]
    simp only [cond_true]
    rw [if_pos (by omega), if_pos (by omega)]
    exact i2
  · rcases i1.2.2.1 hcn with ⟨_, e⟩ | ⟨_, e, _⟩
    · rw [e]; simp
    · omega
/-! Solutions. -/
def lastP (p : List Int) : Int := p.getD (p.length - 1) 0
/-- The cells with which a beginning may go on. -/
def candL (w h : Int) (hs : List Int) (a b : Int) (p : List Int) : List Int := if p.length = 0 then cellsL (w * h).toNat hs else leapsL w h hs a b (lastP p)
def fitsP (ns : List Int) (c place : Int) : Prop := ns.getD c.toNat 0 = place ∨ (ns.getD c.toNat 0 = 0 ∧ place ∉ ns)
instance {ns : List Int} {c place : Int} : Decidable (fitsP ns c place) := by unfold fitsP; infer_instance
def goP (ns p : List Int) (c : Int) : Prop := fitsP ns c ((p.length : Int) + 1) ∧ c ∉ p
instance {ns p : List Int} {c : Int} : Decidable (goP ns p c) := by unfold goP; infer_instance
/-- All solutions that go on from a beginning by so many cells. -/
def solsL (w h : Int) (hs : List Int) (a b : Int) (ns : List Int) : Nat → List Int → List (List Int)
  | 0, p => [p]
  | k + 1, p => (candL w h hs a b p).flatMap fun c => if goP ns p c then solsL w h hs a b ns k (p ++ [c]) else []
/-- A beginning. -/
structure BegP (w h : Int) (hs : List Int) (a b : Int) (p : List Int) : Prop where
  has : ∀ c ∈ p, hasP w h hs c
  nd : p.Nodup
  leaps : ∀ i, i + 1 < p.length → isL w a b (p.getD i 0) (p.getD (i + 1) 0)
theorem getD_app_lt {p q : List Int} {i : Nat} (h : i < p.length) : (p ++ q).getD i 0 = p.getD i 0 := by
  rw [List.getD_eq_getElem?_getD, List.getElem?_append_left h, ← List.getD_eq_getElem?_getD]
theorem getD_app_self {p : List Int} {c : Int} : (p ++ [c]).getD p.length 0 = c := by simp [List.getD_eq_getElem?_getD]
theorem cand_has {w h a b c : Int} {hs p : List Int} (hc : c ∈ candL w h hs a b p) : hasP w h hs c := by
  unfold candL at hc
  split at hc
  · exact mem_cells.1 hc
  · exact (mem_leapsL.1 hc).1
theorem BegP.snoc {w h a b c : Int} {hs p : List Int} (B : BegP w h hs a b p) (hc : c ∈ candL w h hs a b p) (hn : c ∉ p) : BegP w h hs a b (p ++ [c]) := by
  refine ⟨fun x hx => ?_, ?_, fun i hi => ?_⟩
  · rcases List.mem_append.1 hx with hx | hx
    · exact B.has x hx
    · rw [List.mem_singleton.1 hx]; exact cand_has hc
  · rw [List.nodup_append]
    exact ⟨B.nd, by simp, fun x hx y hy e => hn (by rw [← List.mem_singleton.1 hy, ← e]; exact hx)⟩
  · rw [List.length_append, List.length_singleton] at hi
    by_cases hl : i + 1 < p.length
    · rw [getD_app_lt (by omega), getD_app_lt hl]; exact B.leaps i hl
    · have e : p.length = i + 1 := by omega
      rw [getD_app_lt (by omega), ← e, getD_app_self]
      unfold candL at hc
      rw [if_neg (by omega)] at hc
      have := (mem_leapsL.1 hc).2
      unfold lastP at this
      rwa [show p.length - 1 = i by omega] at this
theorem sols_beg {w h a b : Int} {hs ns : List Int} : ∀ (k : Nat) (p s : List Int), BegP w h hs a b p → s ∈ solsL w h hs a b ns k p → BegP w h hs a b s ∧ s.length = p.length + k
  | 0, p, s, B, hm => by
    rw [solsL, List.mem_singleton] at hm
    subst hm
    exact ⟨B, rfl⟩
  | k + 1, p, s, B, hm => by
    rw [solsL, List.mem_flatMap] at hm
    obtain ⟨c, hc, hm⟩ := hm
    split at hm
    · rename_i hg
      obtain ⟨h1, h2⟩ := sols_beg k (p ++ [c]) s (B.snoc hc hg.2) hm
      refine ⟨h1, ?_⟩
      rw [h2, List.length_append, List.length_singleton]; omega
    · cases hm
theorem beg_nil {w h a b : Int} {hs : List Int} : BegP w h hs a b [] := ⟨by simp, by simp, fun i hi => by simp at hi⟩
theorem GoodB.cells_pos {w h : Int} {hs : List Int} (g : GoodB w h hs) : 1 ≤ (cellsL (w * h).toNat hs).length := by have := g.count; have := g.few; omega
theorem beg_tour {w h a b : Int} {hs p : List Int} (gb : GoodB w h hs) (B : BegP w h hs a b p) (hl : p.length = (cellsL (w * h).toNat hs).length) : tourL w h hs a b p := by
  have := cellsL_le (w * h).toNat hs
  have := gb.m
  have := gb.cells_pos
  refine ⟨⟨⟨⟨by omega, by omega⟩, fun i hi => ⟨B.has _ (getD_mem hi), fun h0 => ?_⟩⟩, take_of_nodup B.nd⟩, hl⟩
  have := B.leaps (i - 1) (by omega)
  rwa [show i - 1 + 1 = i by omega] at this
theorem sols_tour {w h a b : Int} {hs ns s : List Int} (gb : GoodB w h hs) (hm : s ∈ solsL w h hs a b ns (cellsL (w * h).toNat hs).length []) : tourL w h hs a b s := by
  obtain ⟨h1, h2⟩ := sols_beg _ _ _ beg_nil hm
  exact beg_tour gb h1 (by simpa using h2)
theorem take_app {α : Type} (A B : List α) (k : Nat) : (A.take k ++ B).take k = (A ++ B).take k := by
  rw [List.take_append, List.take_append, List.take_take, Nat.min_self, List.length_take]
  congr 2
  omega
theorem fm_take_succ {β : Type} {f : Int → List β} {l : List Int} {i : Nat} (hi : i < l.length) : (l.take (i + 1)).flatMap f = (l.take i).flatMap f ++ f (l.getD i 0) := by
  rw [List.take_add_one, List.flatMap_append, getD_lt hi, List.getElem?_eq_getElem hi]
  simp
/-- What is found of solutions. -/
def allS (w h : Int) (hs : List Int) (a b : Int) (ns : List Int) : List (List Int) := solsL w h hs a b ns (cellsL (w * h).toNat hs).length []
theorem v_spec_pzFits {w h a b c place : Int} {hs ns : List Int} (hlen : (ns.length : Int) = w * h) (hn : ns.length ≤ 1099511627776) (hc : hasP w h hs c) : sh_spec_pzFits w h hs a b ns c place = some (decide (fitsP ns c place)) := by
  show S_spec_pzFits_e w h hs a b ns c place (fun r => some r) = _
  unfold S_spec_pzFits_e
  rw [if_pos hc.1, if_pos (by have := hc.2.1; omega), v_spec_l1Has (by omega)]
  by_cases h1 : ns.getD c.toNat 0 = place
  · rw [decide_eq_true h1, decide_eq_true (show fitsP ns c place from .inl h1)]; rfl
  · by_cases h2 : ns.getD c.toNat 0 = 0
    · by_cases h3 : place ∈ ns
      · rw [decide_eq_false h1, decide_eq_true h2, decide_eq_true h3, decide_eq_false (show ¬ fitsP ns c place from fun q => q.elim h1 fun q => q.2 h3)]; rfl
      · rw [decide_eq_false h1, decide_eq_true h2, decide_eq_false h3, decide_eq_true (show fitsP ns c place from .inr ⟨h2, h3⟩)]; rfl
    · rw [decide_eq_false h1, decide_eq_false h2, decide_eq_false (show ¬ fitsP ns c place from fun q => q.elim h1 fun q => h2 q.1)]; rfl
theorem look_ok {w h a b : Int} {hs ns : List Int} (pz : PZ w h hs a b ns) (hl : hs.length ≤ 1099511627776) (hn : ns.length ≤ 1099511627776) : ∀ (k n : Nat) (p : List Int) (out : List (List Int)), p.length + k = (cellsL (w * h).toNat hs).length → k < n → BegP w h hs a b p → out.length ≤ 201 →
    shn_spec_pzLook n w h hs a b ns (cellsL (w * h).toNat hs) p out = some ((out ++ solsL w h hs a b ns k p).take 201) := by
  have gb := pz.bd
  have ⟨m1, m64⟩ := gb.m
  have hcl := cellsL_le (w * h).toNat hs
  intro k
  induction k with
  | zero =>
    intro n p out h1 h2 B ho
    obtain ⟨n, rfl⟩ : ∃ m, n = m + 1 := ⟨n - 1, by omega⟩
    refine sh1_spec_pzLook_of (n := 100) ?_
    show S_spec_pzLook_e _ w h hs a b ns (cellsL (w * h).toNat hs) p out _ _ = _
    unfold S_spec_pzLook_e
    by_cases hlt : (out.length : Int) > 200
    · rw [decide_eq_true hlt, cond_true, List.take_append_of_le_length (by omega), List.take_of_length_le (by omega)]
    · rw [decide_eq_false hlt, decide_eq_true (show (p.length : Int) = ((cellsL (w * h).toNat hs).length : Int) by omega), v_spec_l1Own (by omega)]
      simp only [cond_false, cond_true, Option.bind_some]
      rw [if_pos (by rw [List.length_append, List.length_singleton]; omega), solsL, List.take_of_length_le (by rw [List.length_append, List.length_singleton]; omega)]
  | succ k ih =>
    intro n p out h1 h2 B ho
    obtain ⟨n, rfl⟩ : ∃ m, n = m + 1 := ⟨n - 1, by omega⟩
    refine sh1_spec_pzLook_of (n := 100) ?_
    show S_spec_pzLook_e _ w h hs a b ns (cellsL (w * h).toNat hs) p out _ _ = _
    unfold S_spec_pzLook_e
    by_cases hlt : (out.length : Int) > 200
    · rw [decide_eq_true hlt, cond_true, List.take_append_of_le_length (by omega), List.take_of_length_le (by omega)]
    · rw [decide_eq_false hlt, decide_eq_false (show ¬ (p.length : Int) = ((cellsL (w * h).toNat hs).length : Int) by omega)]
      simp only [cond_false]
      have loop : ∀ (l : List Int), l = candL w h hs a b p → l.length ≤ 64 → F_spec_pzLook_1 100 (shn_spec_pzLook n) (fun r => some r) (cellsL (w * h).toNat hs) p l out w h hs a b ns = some ((out ++ l.flatMap fun c => if goP ns p c then solsL w h hs a b ns k (p ++ [c]) else []).take 201) := by
        intro l hle hl64
        show F_spec_pzLook_0 100 (shn_spec_pzLook n) (fun r => some r) 100 (cellsL (w * h).toNat hs) p l (l.length : Int) ((0 : Nat) : Int) out w h hs a b ns = _
        have e0 : out = (out ++ (l.take 0).flatMap fun c => if goP ns p c then solsL w h hs a b ns k (p ++ [c]) else []).take 201 := by
          simp [List.take_of_length_le ho]
        rw [e0]
        refine (loopF (F := fun m i => F_spec_pzLook_0 100 (shn_spec_pzLook n) (fun r => some r) m (cellsL (w * h).toNat hs) p l (l.length : Int) (i : Int) ((out ++ (l.take i).flatMap fun c => if goP ns p c then solsL w h hs a b ns k (p ++ [c]) else []).take 201) w h hs a b ns) (len := l.length) (n := 100) (R := some ((out ++ l.flatMap fun c => if goP ns p c then solsL w h hs a b ns k (p ++ [c]) else []).take 201)) (fun m i hi => ?_) (fun m => ?_) (by omega)).trans ?_
        · have q1 : (i : Int) < (l.length : Int) := by omega
          have q2 : (0 : Int) ≤ i := by omega
          have hc : l.getD i 0 ∈ candL w h hs a b p := hle ▸ getD_mem hi
          have e1 : IntKind.i64.wrap ((p.length : Int) + 1) = (p.length : Int) + 1 := w64 (by omega) (by omega)
          simp only [F_spec_pzLook_0, S_spec_pzLook_0, q1, q2, decide_true, cond_true, if_true, Int.toNat_natCast, e1, v_spec_pzFits pz.len hn (cand_has hc), v_spec_l1Has (l := p) (by omega), v_spec_l1Own (l := p) (by omega), Option.bind_some, next64 (show i < 9223372036854775807 by omega), fm_take_succ hi]
          by_cases hf : fitsP ns (l.getD i 0) ((p.length : Int) + 1)
          · by_cases hm : l.getD i 0 ∈ p
            · rw [decide_eq_true hf, decide_eq_true hm, if_neg (show ¬ goP ns p (l.getD i 0) from fun q => q.2 hm), List.append_nil]; rfl
            · rw [decide_eq_true hf, decide_eq_false hm, if_pos (show goP ns p (l.getD i 0) from ⟨hf, hm⟩)]
              simp only [cond_true, Bool.not_false]
              rw [if_pos (by rw [List.length_append, List.length_singleton]; omega), ih n (p ++ [l.getD i 0]) _ (by rw [List.length_append, List.length_singleton]; omega) (by omega) (B.snoc hc hm) (by rw [List.length_take]; omega), take_app, List.append_assoc]
              rfl
          · rw [decide_eq_false hf, if_neg (show ¬ goP ns p (l.getD i 0) from fun q => hf q.1), List.append_nil]; rfl
        · have q : ¬ ((l.length : Int) < (l.length : Int)) := by omega
          simp only [F_spec_pzLook_0, S_spec_pzLook_0, q, decide_false, cond_false, List.take_length]
        · rw [List.take_zero, List.flatMap_nil, List.append_nil, take_app]
      by_cases hp0 : p.length = 0
      · rw [decide_eq_false (show ¬ (p.length : Int) > 0 by omega)]
        simp only [cond_false]
        refine (loop _ ?_ (by omega)).trans ?_
        · unfold candL; rw [if_pos hp0]
        · rw [solsL]
          have : candL w h hs a b p = cellsL (w * h).toNat hs := by unfold candL; rw [if_pos hp0]
          rw [this]
      · have e1 : IntKind.i64.wrap ((p.length : Int) - 1) = ((p.length - 1 : Nat) : Int) := by rw [w64 (by omega) (by omega)]; omega
        have hla : hasP w h hs (p.getD (p.length - 1) 0) := B.has _ (getD_mem (by omega))
        rw [decide_eq_true (show (p.length : Int) > 0 by omega), e1]
        simp only [cond_true, Int.toNat_natCast]
        rw [if_pos (by omega), if_pos (by omega), v_spec_boLeaps gb hl hla]
        simp only [Option.bind_some]
        have hlen := leapsL_len w h hs a b (p.getD (p.length - 1) 0)
        refine (loop _ ?_ (by omega)).trans ?_
        · unfold candL lastP; rw [if_neg hp0]
        · rw [solsL]
          have : candL w h hs a b p = leapsL w h hs a b (p.getD (p.length - 1) 0) := by unfold candL lastP; rw [if_neg hp0]
          rw [this]
theorem v_spec_pzAll {w h a b : Int} {hs ns : List Int} (pz : PZ w h hs a b ns) (hl : hs.length ≤ 1099511627776) (hn : ns.length ≤ 1099511627776) : sh_spec_pzAll w h hs a b ns = some ((allS w h hs a b ns).take 201, decide (((allS w h hs a b ns).length : Int) ≤ 200)) := by
  have ⟨m1, m64⟩ := pz.bd.m
  have hcl := cellsL_le (w * h).toNat hs
  show S_spec_pzAll_e w h hs a b ns (fun r1 r2 => some (r1, r2)) = _
  unfold S_spec_pzAll_e
  have := look_ok pz hl hn (cellsL (w * h).toNat hs).length 1000 [] [] (by simp) (by omega) beg_nil (by simp)
  rw [v_spec_boCells m1 m64 hl]
  simp only [Option.bind_some]
  rw [show sh_spec_pzLook w h hs a b ns (cellsL (w * h).toNat hs) [] [] = shn_spec_pzLook 1000 w h hs a b ns (cellsL (w * h).toNat hs) [] [] from rfl, this]
  simp only [Option.bind_some, List.nil_append]
  congr 2
  rw [decide_eq_decide]
  show (((List.take 201 (allS w h hs a b ns)).length : Int) ≤ 200) ↔ _
  rw [List.length_take]
  omega
/-- Where each number stands. -/
structure WhereP (ns : List Int) (N : Nat) (wh : List Int) : Prop where
  len : wh.length = N + 1
  at_ : ∀ n : Nat, 1 ≤ n → n ≤ N → (∃ c : Nat, c < ns.length ∧ ns.getD c 0 = n ∧ wh.getD n 0 = c) ∨ ((n : Int) ∉ ns ∧ wh.getD n 0 = -1)
theorem pz_inj {w h a b : Int} {hs ns : List Int} (pz : PZ w h hs a b ns) {i j : Nat} (hi : i < ns.length) (hj : j < ns.length) (h0 : ns.getD i 0 ≠ 0) (e : ns.getD i 0 = ns.getD j 0) : i = j := by
  have key : ∀ i j, i < j → j < ns.length → ns.getD j 0 ≠ 0 → ns.getD i 0 = ns.getD j 0 → False := fun i j hij hj h0 e => by
    rcases pz.nums j hj with q | ⟨_, _, _, q⟩
    · exact h0 q
    · refine q ?_
      rw [← e, getD_lt (by omega), List.mem_take_iff_getElem]
      exact ⟨i, by omega, rfl⟩
  rcases Nat.lt_trichotomy i j with q | q | q
  · exact (key i j q hj (by rw [← e]; exact h0) e).elim
  · exact q
  · exact (key j i q hi h0 e.symm).elim
theorem where_fits {w h a b c : Int} {hs ns wh : List Int} {N n : Nat} (pz : PZ w h hs a b ns) (hw : WhereP ns N wh) (h1 : 1 ≤ n) (h2 : n ≤ N) (hc : hasP w h hs c) :
    (0 ≤ wh.getD n 0 → (fitsP ns c (n : Int) ↔ c = wh.getD n 0)) ∧ (wh.getD n 0 < 0 → (fitsP ns c (n : Int) ↔ ns.getD c.toNat 0 = 0)) := by
  have hlen := pz.len
  have hcl : c.toNat < ns.length := by have := hc.1; have := hc.2.1; omega
  rcases hw.at_ n h1 h2 with ⟨k, k1, k2, k3⟩ | ⟨k1, k2⟩
  · refine ⟨fun _ => ?_, fun q => by omega⟩
    rw [k3]
    constructor
    · rintro (q | ⟨_, q⟩)
      · have := pz_inj pz hcl k1 (by omega) (q.trans k2.symm)
        have := hc.1
        omega
      · exact absurd (mem_getD.2 ⟨k, k1, k2⟩) q
    · rintro rfl
      exact .inl (by rw [Int.toNat_natCast]; exact k2)
  · refine ⟨fun q => by omega, fun _ => ⟨fun q => ?_, fun q => .inr ⟨q, k1⟩⟩⟩
    rcases q with q | q
    · exact absurd (mem_getD.2 ⟨c.toNat, hcl, q⟩) k1
    · exact q.1
theorem on_ok {w h a b : Int} {hs ns wh : List Int} {most : Nat} (pz : PZ w h hs a b ns) (hn : ns.length ≤ 1099511627776) (hm : most ≤ 1000000) (hw : WhereP ns (cellsL (w * h).toNat hs).length wh) : ∀ (k n : Nat) (p : List Int) (out : List (List Int)), p.length + k = (cellsL (w * h).toNat hs).length → k < n → BegP w h hs a b p → out.length ≤ most →
    shn_impl_Puzzle_solve_c1 n p true w h hs a b (cellsL (w * h).toNat hs) (nearL w h hs a b) out wh most w h hs a b ns = some (true, w, h, hs, a, b, cellsL (w * h).toNat hs, nearL w h hs a b, (out ++ solsL w h hs a b ns k p).take (most + 1), wh, (most : Int), w, h, hs, a, b, ns) := by
  have gb := pz.bd
  have ⟨m1, m64⟩ := gb.m
  have hcl := cellsL_le (w * h).toNat hs
  intro k
  induction k with
  | zero =>
    intro n p out h1 h2 B ho
    obtain ⟨n, rfl⟩ : ∃ m, n = m + 1 := ⟨n - 1, by omega⟩
    refine sh1_impl_Puzzle_solve_c1_of (n := 100) ?_
    show S_impl_Puzzle_solve_c1_e _ p true w h hs a b (cellsL (w * h).toNat hs) (nearL w h hs a b) out wh most w h hs a b ns _ _ = _
    unfold S_impl_Puzzle_solve_c1_e
    rw [decide_eq_true (show (p.length : Int) = ((cellsL (w * h).toNat hs).length : Int) by omega), v_clone (by omega)]
    simp only [cond_true, Option.bind_some]
    rw [if_pos (by rw [List.length_append, List.length_singleton]; omega), solsL, List.take_of_length_le (by rw [List.length_append, List.length_singleton]; omega)]
    simp
  | succ k ih =>
    intro n p out h1 h2 B ho
    obtain ⟨n, rfl⟩ : ∃ m, n = m + 1 := ⟨n - 1, by omega⟩
    refine sh1_impl_Puzzle_solve_c1_of (n := 100) ?_
    show S_impl_Puzzle_solve_c1_e _ p true w h hs a b (cellsL (w * h).toNat hs) (nearL w h hs a b) out wh most w h hs a b ns _ _ = _
    unfold S_impl_Puzzle_solve_c1_e
    rw [decide_eq_false (show ¬ (p.length : Int) = ((cellsL (w * h).toNat hs).length : Int) by omega)]
    simp only [cond_false, cond_true]
    let f : Int → List (List Int) := fun c => if goP ns p c then solsL w h hs a b ns k (p ++ [c]) else []
    have loop : ∀ (l : List Int), l = candL w h hs a b p → l.length ≤ 64 → F_impl_Puzzle_solve_c1_1 100 (shn_impl_Puzzle_solve_c1 n) p (fun r1 r2 r3 r4 r5 r6 r7 r8 r9 r10 r11 r12 r13 r14 r15 r16 r17 => some (r1, r2, r3, r4, r5, r6, r7, r8, r9, r10, r11, r12, r13, r14, r15, r16, r17)) l true w h hs a b (cellsL (w * h).toNat hs) (nearL w h hs a b) out wh most w h hs a b ns = some (true, w, h, hs, a, b, cellsL (w * h).toNat hs, nearL w h hs a b, (out ++ l.flatMap f).take (most + 1), wh, (most : Int), w, h, hs, a, b, ns) := by
      intro l hle hl64
      have e1 : IntKind.i64.wrap ((p.length : Int) + 1) = ((p.length + 1 : Nat) : Int) := by rw [w64 (by omega) (by omega)]; omega
      have hwl := hw.len
      unfold F_impl_Puzzle_solve_c1_1 S_impl_Puzzle_solve_c1_1
      rw [e1, if_pos (by omega), if_pos (by omega)]
      simp only [Int.toNat_natCast]
      generalize hv : wh.getD (p.length + 1) 0 = v
      have wf : ∀ c, hasP w h hs c → (0 ≤ v → (fitsP ns c ((p.length : Int) + 1) ↔ c = v)) ∧ (v < 0 → (fitsP ns c ((p.length : Int) + 1) ↔ ns.getD c.toNat 0 = 0)) := fun c hc => by
        have := where_fits pz hw (n := p.length + 1) (by omega) (by omega) hc
        rw [hv] at this
        rwa [show ((p.length + 1 : Nat) : Int) = (p.length : Int) + 1 by omega] at this
      have go : ∀ (j i m : Nat) (out' : List (List Int)), i + j = l.length → j < m → out' = (out ++ (l.take i).flatMap f).take (most + 1) → F_impl_Puzzle_solve_c1_0 100 (shn_impl_Puzzle_solve_c1 n) p (fun r1 r2 r3 r4 r5 r6 r7 r8 r9 r10 r11 r12 r13 r14 r15 r16 r17 => some (r1, r2, r3, r4, r5, r6, r7, r8, r9, r10, r11, r12, r13, r14, r15, r16, r17)) m v l (l.length : Int) (i : Int) true w h hs a b (cellsL (w * h).toNat hs) (nearL w h hs a b) out' wh most w h hs a b ns = some (true, w, h, hs, a, b, cellsL (w * h).toNat hs, nearL w h hs a b, (out ++ l.flatMap f).take (most + 1), wh, (most : Int), w, h, hs, a, b, ns) := by
        intro j
        induction j with
        | zero =>
          intro i m out' g1 g2 g3
          obtain ⟨m, rfl⟩ : ∃ m', m = m' + 1 := ⟨m - 1, by omega⟩
          have e : i = l.length := by omega
          subst e
          rw [List.take_length] at g3
          have q : ¬ ((l.length : Int) < (l.length : Int)) := by omega
          simp only [F_impl_Puzzle_solve_c1_0, S_impl_Puzzle_solve_c1_0, q, decide_false, decide_true, Bool.and_self, cond_true, cond_false, g3]
        | succ j jh =>
          intro i m out' g1 g2 g3
          obtain ⟨m, rfl⟩ : ∃ m', m = m' + 1 := ⟨m - 1, by omega⟩
          have hi : i < l.length := by omega
          have q1 : (i : Int) < (l.length : Int) := by omega
          have q2 : (0 : Int) ≤ i := by omega
          have hc : l.getD i 0 ∈ candL w h hs a b p := hle ▸ getD_mem hi
          have hh := cand_has hc
          have q3 : l.getD i 0 < (ns.length : Int) := by have := hh.2.1; have := pz.len; omega
          have hlen' : out'.length ≤ most + 1 := by rw [g3, List.length_take]; omega
          have hsplit : l.flatMap f = (l.take i).flatMap f ++ (f (l.getD i 0) ++ (l.drop (i + 1)).flatMap f) := by
            rw [← List.append_assoc, ← fm_take_succ hi, ← List.flatMap_append, List.take_append_drop]
          by_cases hfull : (out'.length : Int) > most
          · -- enough of them
            simp only [F_impl_Puzzle_solve_c1_0, S_impl_Puzzle_solve_c1_0, q1, q2, decide_true, cond_true, if_true, decide_eq_true hfull]
            have : (out ++ l.flatMap f).take (most + 1) = out' := by
              have hl1 : most + 1 ≤ (out ++ (l.take i).flatMap f).length := by
                rw [g3, List.length_take] at hfull; omega
              rw [g3, hsplit, ← List.append_assoc, List.take_append_of_le_length hl1]
            rw [this]
            rfl
          · have hnext : ∀ out'', out'' = (out ++ (l.take (i + 1)).flatMap f).take (most + 1) → F_impl_Puzzle_solve_c1_0 100 (shn_impl_Puzzle_solve_c1 n) p (fun r1 r2 r3 r4 r5 r6 r7 r8 r9 r10 r11 r12 r13 r14 r15 r16 r17 => some (r1, r2, r3, r4, r5, r6, r7, r8, r9, r10, r11, r12, r13, r14, r15, r16, r17)) m v l (l.length : Int) (IntKind.i64.wrap ((i : Int) + 1)) true w h hs a b (cellsL (w * h).toNat hs) (nearL w h hs a b) out'' wh most w h hs a b ns = some (true, w, h, hs, a, b, cellsL (w * h).toNat hs, nearL w h hs a b, (out ++ l.flatMap f).take (most + 1), wh, (most : Int), w, h, hs, a, b, ns) := fun out'' ho'' => by
              rw [next64 (by omega)]
              exact jh (i + 1) m out'' (by omega) (by omega) ho''
            have hskip : ¬ goP ns p (l.getD i 0) → out' = (out ++ (l.take (i + 1)).flatMap f).take (most + 1) := fun hg => by
              rw [fm_take_succ hi, show f (l.getD i 0) = [] from if_neg hg, List.append_nil]; exact g3
            have hgo : goP ns p (l.getD i 0) → F_impl_Puzzle_solve_c1_2 100 (shn_impl_Puzzle_solve_c1 n) p (F_impl_Puzzle_solve_c1_0 100 (shn_impl_Puzzle_solve_c1 n) p (fun r1 r2 r3 r4 r5 r6 r7 r8 r9 r10 r11 r12 r13 r14 r15 r16 r17 => some (r1, r2, r3, r4, r5, r6, r7, r8, r9, r10, r11, r12, r13, r14, r15, r16, r17)) m) (fun r1 r2 r3 r4 r5 r6 r7 r8 r9 r10 r11 r12 r13 r14 r15 r16 r17 => some (r1, r2, r3, r4, r5, r6, r7, r8, r9, r10, r11, r12, r13, r14, r15, r16, r17)) v (l.getD i 0) l (l.length : Int) (i : Int) true w h hs a b (cellsL (w * h).toNat hs) (nearL w h hs a b) out' wh most w h hs a b ns = some (true, w, h, hs, a, b, cellsL (w * h).toNat hs, nearL w h hs a b, (out ++ l.flatMap f).take (most + 1), wh, (most : Int), w, h, hs, a, b, ns) := fun hg => by
              unfold F_impl_Puzzle_solve_c1_2 S_impl_Puzzle_solve_c1_2
              rw [if_pos (by rw [List.length_append, List.length_singleton]; omega), ih n (p ++ [l.getD i 0]) out' (by rw [List.length_append, List.length_singleton]; omega) (by omega) (B.snoc hc hg.2) (by omega)]
              simp only [Option.bind_some]
              refine hnext _ ?_
              rw [g3, take_app, List.append_assoc, fm_take_succ hi, show f (l.getD i 0) = solsL w h hs a b ns k (p ++ [l.getD i 0]) from if_pos hg]
            simp only [F_impl_Puzzle_solve_c1_0, S_impl_Puzzle_solve_c1_0, q1, q2, q3, hh.1, decide_true, cond_true, if_true, Int.toNat_natCast, decide_eq_false hfull, cond_false, v_slices_Contains_int_int (show p.length ≤ 9223372036854775807 by omega), Option.bind_some]
            by_cases hin : l.getD i 0 ∈ p
            · rw [decide_eq_true hin]
              exact hnext _ (hskip fun q => q.2 hin)
            · rw [decide_eq_false hin]
              simp only [cond_false]
              by_cases hv0 : v ≥ 0
              · rw [decide_eq_true hv0, decide_eq_false (show ¬ v < 0 by omega)]
                simp only [cond_true, cond_false]
                by_cases he : l.getD i 0 = v
                · rw [decide_eq_true he]
                  exact hgo ⟨((wf _ hh).1 hv0).2 he, hin⟩
                · rw [decide_eq_false he]
                  exact hnext _ (hskip fun q => he (((wf _ hh).1 hv0).1 q.1))
              · rw [decide_eq_false hv0, decide_eq_true (show v < 0 by omega)]
                simp only [cond_true, cond_false]
                by_cases he : ns.getD (l.getD i 0).toNat 0 = 0
                · rw [decide_eq_true he]
                  exact hgo ⟨((wf _ hh).2 (by omega)).2 he, hin⟩
                · rw [decide_eq_false he]
                  exact hnext _ (hskip fun q => he (((wf _ hh).2 (by omega)).1 q.1))
      refine go l.length 0 100 out (by omega) (by omega) ?_
      rw [List.take_zero, List.flatMap_nil, List.append_nil, List.take_of_length_le (by omega)]
    by_cases hp0 : p.length = 0
    · rw [decide_eq_false (show ¬ (p.length : Int) > 0 by omega)]
      simp only [cond_false]
      have hcd : candL w h hs a b p = cellsL (w * h).toNat hs := by unfold candL; rw [if_pos hp0]
      refine (loop _ hcd.symm (by omega)).trans ?_
      rw [solsL, hcd]
    · have e1 : IntKind.i64.wrap ((p.length : Int) - 1) = ((p.length - 1 : Nat) : Int) := by rw [w64 (by omega) (by omega)]; omega
      have hla : hasP w h hs (p.getD (p.length - 1) 0) := B.has _ (getD_mem (by omega))
      have hcd : candL w h hs a b p = leapsL w h hs a b (p.getD (p.length - 1) 0) := by unfold candL lastP; rw [if_neg hp0]
      have hlen := leapsL_len w h hs a b (p.getD (p.length - 1) 0)
      rw [decide_eq_true (show (p.length : Int) > 0 by omega), e1]
      simp only [cond_true, Int.toNat_natCast]
      rw [if_pos (by omega), if_pos (by omega), if_pos hla.1, if_pos (by rw [near_len]; have := hla.2.1; omega), near_row hla]
      refine (loop _ hcd.symm (by omega)).trans ?_
      rw [solsL, hcd]
theorem v_impl_Puzzle_solve {w h a b : Int} {hs ns : List Int} {most : Nat} (pz : PZ w h hs a b ns) (hl : hs.length ≤ 1099511627776) (hn : ns.length ≤ 1099511627776) (hm : most ≤ 1000000) : sh_impl_Puzzle_solve w h hs a b ns most = some ((allS w h hs a b ns).take (most + 1)) := by
  have gb := pz.bd
  have ⟨m1, m64⟩ := gb.m
  have hcl := cellsL_le (w * h).toNat hs
  have hlen := pz.len
  obtain ⟨ps, p1, p2⟩ := v_impl_graph_parts (a := a) (b := b) gb
  refine sh_impl_Puzzle_solve_of (n := 200) ?_
  show S_impl_Puzzle_solve_e w h hs a b ns most _ _ = _
  unfold S_impl_Puzzle_solve_e
  rw [(v_impl_graphOf hl).1 ⟨gb, pz.lp⟩]
  simp only [Option.bind_some, p1, cond_true]
  by_cases hp : (ps.length : Int) > 1
  · rw [decide_eq_true hp, cond_true]
    have : allS w h hs a b ns = [] := by
      rw [List.eq_nil_iff_forall_not_mem]
      intro s hs'
      have := p2 (tour_conn (sols_tour gb hs'))
      omega
    rw [this]; rfl
  · rw [decide_eq_false hp, cond_false]
    have e1 : IntKind.i64.wrap (((cellsL (w * h).toNat hs).length : Int) + 1) = (((cellsL (w * h).toNat hs).length + 1 : Nat) : Int) := by rw [w64 (by omega) (by omega)]; omega
    rw [e1, if_pos (by omega), if_pos (by omega)]
    simp only [Int.toNat_natCast, List.length_replicate]
    -- no number stands anywhere yet
    let N := (cellsL (w * h).toNat hs).length
    have clear : ∀ (j i m : Nat), i + j = N + 1 → j < m → F_impl_Puzzle_solve_0 200 (fun r => some r) m ((N + 1 : Nat) : Int) (i : Int) w h hs a b ns most true w h hs a b (cellsL (w * h).toNat hs) (nearL w h hs a b) (List.replicate i (-1 : Int) ++ List.replicate (N + 1 - i) 0) = F_impl_Puzzle_solve_1 200 (fun r => some r) 200 ns (ns.length : Int) ((0 : Nat) : Int) w h hs a b most true w h hs a b (cellsL (w * h).toNat hs) (nearL w h hs a b) (List.replicate (N + 1) (-1 : Int)) := by
      intro j
      induction j with
      | zero =>
        intro i m g1 g2
        obtain ⟨m, rfl⟩ : ∃ m', m = m' + 1 := ⟨m - 1, by omega⟩
        have e : i = N + 1 := by omega
        subst e
        have q : ¬ (((N + 1 : Nat) : Int) < ((N + 1 : Nat) : Int)) := by omega
        simp only [F_impl_Puzzle_solve_0, S_impl_Puzzle_solve_0, q, decide_false, cond_false, Nat.sub_self, List.replicate_zero, List.append_nil]
        rfl
      | succ j jh =>
        intro i m g1 g2
        obtain ⟨m, rfl⟩ : ∃ m', m = m' + 1 := ⟨m - 1, by omega⟩
        have q1 : (i : Int) < ((N + 1 : Nat) : Int) := by omega
        have q2 : (0 : Int) ≤ i := by omega
        have q3 : (i : Int) < (((List.replicate i (-1 : Int) ++ List.replicate (N + 1 - i) 0).length : Nat) : Int) := by simp only [List.length_append, List.length_replicate]; omega
        have e : (List.replicate i (-1 : Int) ++ List.replicate (N + 1 - i) 0).set i (-1) = List.replicate (i + 1) (-1 : Int) ++ List.replicate (N + 1 - (i + 1)) 0 := by
          refine List.ext_getElem (by simp; omega) fun k h1 h2 => ?_
          rw [List.getElem_set]
          simp only [List.getElem_append, List.length_replicate, List.getElem_replicate]
          by_cases e1 : i = k
          · rw [if_pos e1, dif_pos (by omega)]
          · rw [if_neg e1]
            by_cases e2 : k < i
            · rw [dif_pos e2, dif_pos (by omega)]
            · rw [dif_neg e2, dif_neg (by omega)]
        simp only [F_impl_Puzzle_solve_0, S_impl_Puzzle_solve_0, q1, q2, q3, decide_true, cond_true, if_true, Int.toNat_natCast, next64 (show i < 9223372036854775807 by omega), e]
        exact jh (i + 1) m (by omega) (by omega)
    have e0 : List.replicate (N + 1) (0 : Int) = List.replicate 0 (-1 : Int) ++ List.replicate (N + 1 - 0) 0 := by simp
    show F_impl_Puzzle_solve_0 200 (fun r => some r) 200 ((N + 1 : Nat) : Int) ((0 : Nat) : Int) w h hs a b ns most true w h hs a b (cellsL (w * h).toNat hs) (nearL w h hs a b) (List.replicate (N + 1) (0 : Int)) = _
    rw [e0, clear (N + 1) 0 200 (by omega) (by omega)]
    -- the numbers that are shown
    have fill : ∀ (j i m : Nat) (wh : List Int), i + j = ns.length → j < m → wh.length = N + 1 → (∀ n : Nat, 1 ≤ n → n ≤ N → (∃ c : Nat, c < i ∧ ns.getD c 0 = n ∧ wh.getD n 0 = c) ∨ ((n : Int) ∉ ns.take i ∧ wh.getD n 0 = -1)) →
        F_impl_Puzzle_solve_1 200 (fun r => some r) m ns (ns.length : Int) (i : Int) w h hs a b most true w h hs a b (cellsL (w * h).toNat hs) (nearL w h hs a b) wh = some ((allS w h hs a b ns).take (most + 1)) := by
      intro j
      induction j with
      | zero =>
        intro i m wh g1 g2 g3 g4
        obtain ⟨m, rfl⟩ : ∃ m', m = m' + 1 := ⟨m - 1, by omega⟩
        have e : i = ns.length := by omega
        subst e
        rw [List.take_length] at g4
        have q : ¬ ((ns.length : Int) < (ns.length : Int)) := by omega
        have := on_ok pz hn hm (wh := wh) ⟨g3, fun n h1 h2 => g4 n h1 h2⟩ N 1000 [] [] (by simp; rfl) (by omega) beg_nil (by simp)
        simp only [F_impl_Puzzle_solve_1, S_impl_Puzzle_solve_1, q, decide_false, cond_false]
        rw [show sh_impl_Puzzle_solve_c1 [] true w h hs a b (cellsL (w * h).toNat hs) (nearL w h hs a b) [] wh most w h hs a b ns = shn_impl_Puzzle_solve_c1 1000 [] true w h hs a b (cellsL (w * h).toNat hs) (nearL w h hs a b) [] wh most w h hs a b ns from rfl, this]
        rfl
      | succ j jh =>
        intro i m wh g1 g2 g3 g4
        obtain ⟨m, rfl⟩ : ∃ m', m = m' + 1 := ⟨m - 1, by omega⟩
        have hi : i < ns.length := by omega
        have q1 : (i : Int) < (ns.length : Int) := by omega
        have q2 : (0 : Int) ≤ i := by omega
        have hnum := pz.num hi
        by_cases hz : ns.getD i 0 > 0
        · have hle : ns.getD i 0 ≤ (N : Int) := by
            rcases pz.nums i hi with q | ⟨_, q, _, _⟩
            · omega
            · have := gb.count; show _ ≤ (((cellsL (w * h).toNat hs).length : Nat) : Int); omega
          have q3 : ns.getD i 0 < (wh.length : Int) := by omega
          have q4 : (0 : Int) ≤ ns.getD i 0 := hnum
          simp only [F_impl_Puzzle_solve_1, S_impl_Puzzle_solve_1, q1, q2, q3, q4, decide_true, cond_true, if_true, Int.toNat_natCast, decide_eq_true hz, next64 (show i < 9223372036854775807 by omega)]
          refine jh (i + 1) m _ (by omega) (by omega) (by simpa using g3) fun n h1 h2 => ?_
          rw [getD_set]
          by_cases e : (ns.getD i 0).toNat = n
          · rw [if_pos ⟨e, by omega⟩]
            exact .inl ⟨i, by omega, by omega, rfl⟩
          · rw [if_neg (fun q => e q.1)]
            rcases g4 n h1 h2 with ⟨c, c1, c2, c3⟩ | ⟨c1, c2⟩
            · exact .inl ⟨c, by omega, c2, c3⟩
            · refine .inr ⟨fun q => ?_, c2⟩
              rcases (mem_take_succ hi).1 q with q | q
              · exact c1 q
              · omega
        · simp only [F_impl_Puzzle_solve_1, S_impl_Puzzle_solve_1, q1, q2, decide_true, cond_true, if_true, Int.toNat_natCast, decide_eq_false hz, cond_false, next64 (show i < 9223372036854775807 by omega)]
          refine jh (i + 1) m _ (by omega) (by omega) g3 fun n h1 h2 => ?_
          rcases g4 n h1 h2 with ⟨c, c1, c2, c3⟩ | ⟨c1, c2⟩
          · exact .inl ⟨c, by omega, c2, c3⟩
          · refine .inr ⟨fun q => ?_, c2⟩
            rcases (mem_take_succ hi).1 q with q | q
            · exact c1 q
            · omega
    refine fill ns.length 0 200 _ (by omega) (by omega) (by simp) fun n h1 h2 => .inr ⟨by simp, ?_⟩
    rw [List.getD_eq_getElem?_getD, List.getElem?_replicate, if_pos (by omega)]; rfl
theorem v_spec_pzAsked {w h a b : Int} {hs ns : List Int} (hl : hs.length ≤ 1099511627776) (hn : ns.length ≤ 1099511627776) :
    (PZ w h hs a b ns ∧ (allS w h hs a b ns).length ≤ 200 → sh_spec_pzAsked w h hs a b ns = some (allS w h hs a b ns, true)) ∧ (¬ (PZ w h hs a b ns ∧ (allS w h hs a b ns).length ≤ 200) → ∃ l, sh_spec_pzAsked w h hs a b ns = some (l, false)) := by
  obtain ⟨r, h1, h2⟩ := v_spec_pzGood (w := w) (h := h) (a := a) (b := b) (ns := ns) hl
  have e : sh_spec_pzAsked w h hs a b ns = S_spec_pzAsked_e w h hs a b ns (fun r1 r2 => some (r1, r2)) := rfl
  rw [e]
  unfold S_spec_pzAsked_e
  rw [h1]
  cases r with
  | false => exact ⟨fun q => absurd (h2.2 q.1) (by simp), fun _ => ⟨[], rfl⟩⟩
  | true =>
    have pz := h2.1 rfl
    rw [v_spec_pzAll pz hl hn]
    simp only [Option.bind_some, Bool.not_true, cond_false]
    by_cases hf : (allS w h hs a b ns).length ≤ 200
    · refine ⟨fun _ => ?_, fun q => absurd ⟨pz, hf⟩ q⟩
      rw [List.take_of_length_le (by omega), decide_eq_true (by omega)]
    · refine ⟨fun q => absurd q.2 hf, fun _ => ⟨(allS w h hs a b ns).take 201, ?_⟩⟩
      rw [decide_eq_false (by omega)]
def backN (N n : Int) : Int := if 0 < n then N + 1 - n else n
def BackI (N : Int) (ns : List Int) (i : Nat) (s : List Int) : Prop := s.length = ns.length ∧ ∀ j, j < ns.length → s.getD j 0 = if j < i then backN N (ns.getD j 0) else ns.getD j 0
theorem BackI.start {N : Int} {ns : List Int} : BackI N ns 0 ns := ⟨rfl, fun j _ => by simp⟩
theorem set_self {l : List Int} : l.set 0 (l.getD 0 0) = l := by cases l <;> rfl
theorem PZ.zero {w h a b : Int} {hs ns : List Int} (p : PZ w h hs a b ns) (i : Nat) : PZ w h hs a b (ns.set i 0) := by
  refine ⟨p.bd, p.lp, by simpa using p.len, p.few, fun j hj => ?_⟩
  have hj' : j < ns.length := by simpa using hj
  by_cases e : i = j
  · subst e
    left
    rw [getD_set, if_pos ⟨rfl, hj'⟩]
  · have g : (ns.set i 0).getD j 0 = ns.getD j 0 := by rw [getD_set, if_neg (fun q => e q.1)]
    unfold okN
    rw [g]
    rcases p.nums j hj' with q | ⟨q1, q2, q3, q4⟩
    · exact .inl q
    · refine .inr ⟨q1, q2, q3, fun hm => ?_⟩
      rw [List.take_set] at hm
      rcases List.mem_or_eq_of_mem_set hm with r | r
      · exact q4 r
      · omega
noncomputable def hardS (w h : Int) (hs : List Int) (a b : Int) (s : List Int) (i : Nat) : List Int := if s.getD i 0 = 0 then s else if (allS w h hs a b (s.set i 0)).length = 1 then s.set i 0 else s
noncomputable def hardL (w h : Int) (hs : List Int) (a b : Int) (s : List Int) (n : Nat) : List Int := (List.range n).foldl (hardS w h hs a b) s
theorem hardL_succ {w h a b : Int} {hs s : List Int} {n : Nat} : hardL w h hs a b s (n + 1) = hardS w h hs a b (hardL w h hs a b s n) n := by simp [hardL, List.range_succ]
theorem hardS_pz {w h a b : Int} {hs s : List Int} {i : Nat} (p : PZ w h hs a b s) : PZ w h hs a b (hardS w h hs a b s i) := by
  unfold hardS
  split
  · exact p
  · split
    · exact p.zero i
    · exact p
theorem hardL_pz {w h a b : Int} {hs s : List Int} (p : PZ w h hs a b s) : ∀ n, PZ w h hs a b (hardL w h hs a b s n)
  | 0 => p
  | n + 1 => by rw [hardL_succ]; exact hardS_pz (hardL_pz p n)
theorem hardS_len {w h a b : Int} {hs s : List Int} {i : Nat} : (hardS w h hs a b s i).length = s.length := by
  unfold hardS
  split
  · rfl
  · split
    · simp
    · rfl
theorem hardL_len {w h a b : Int} {hs s : List Int} : ∀ n, (hardL w h hs a b s n).length = s.length
  | 0 => rfl
  | n + 1 => by rw [hardL_succ, hardS_len, hardL_len n]
theorem hardL_keep {w h a b : Int} {hs s : List Int} {j : Nat} : ∀ n, n ≤ j → (hardL w h hs a b s n).getD j 0 = s.getD j 0
  | 0, _ => rfl
  | n + 1, hn => by
    have e := hardL_keep (w := w) (h := h) (a := a) (b := b) (hs := hs) (s := s) (j := j) n (by omega)
    rw [hardL_succ]
    unfold hardS
    split
    · exact e
    · split
      · rw [getD_set, if_neg (fun q => by omega)]; exact e
      · exact e
theorem hard_cells {w h a b : Int} {hs s : List Int} (p : PZ w h hs a b s) : ∀ n, n ≤ s.length → (cellsL n hs).foldl (fun v c => hardS w h hs a b v c.toNat) s = hardL w h hs a b s n
  | 0, _ => by simp [cellsL, hardL]
  | n + 1, hn => by
    have e := hard_cells p n (by omega)
    rw [cellsL_succ, List.foldl_append, e, hardL_succ]
    have hp := hardL_pz p n
    generalize hv : hardL w h hs a b s n = v at hp
    by_cases hm : (n : Int) ∈ hs
    · rw [if_pos hm]
      have hl : n < v.length := by rw [← hv, hardL_len]; omega
      have h0 : v.getD n 0 = 0 := by
        rcases hp.nums n hl with q | ⟨_, _, q, _⟩
        · exact q
        · exact absurd hm q.2.2
      rw [hardS, if_pos h0]; rfl
    · rw [if_neg hm]; rfl
theorem take_succ_ints {L : List Int} {i : Nat} (h : i < L.length) : L.take (i + 1) = L.take i ++ [L.getD i 0] := by
  rw [List.take_add_one, List.getElem?_eq_getElem h, List.getD_eq_getElem?_getD, List.getElem?_eq_getElem h]; rfl
theorem set_back {l : List Int} {i : Nat} {x : Int} (h : i < l.length) (e : l.getD i 0 = x) : (l.set i 0).set i x = l := by
  rw [List.set_set]
  refine List.ext_getElem (by simp) fun j p q => ?_
  rw [← getD_lt (d := 0) p, ← getD_lt (d := 0) q, getD_set]
  by_cases k : i = j
  · subst k; rw [if_pos ⟨rfl, h⟩, e]
  · rw [if_neg (fun r => k r.1)]
def OneP (w h : Int) (hs : List Int) (a b : Int) (ns : List Int) : Prop := PZ w h hs a b ns ∧ (allS w h hs a b ns).length = 1
theorem v_spec_HarderPuzzle {w h a b : Int} {hs ns : List Int} (hl : hs.length ≤ 1099511627776) (hn : ns.length ≤ 1099511627776) :
    (OneP w h hs a b ns → sh_spec_HarderPuzzle w h hs a b ns = some (w, h, hs, a, b, hardL w h hs a b ns ns.length, true)) ∧ (¬ OneP w h hs a b ns → sh_spec_HarderPuzzle w h hs a b ns = some (0, 0, [], 0, 0, [], false)) := by
  by_cases hc : PZ w h hs a b ns ∧ (allS w h hs a b ns).length ≤ 200
  · by_cases h1 : (allS w h hs a b ns).length = 1
    · refine ⟨fun _ => ?_, fun q => absurd ⟨hc.1, h1⟩ q⟩
      have pz := hc.1
      have gb := pz.bd
      have ⟨m1, m64⟩ := gb.m
      have hlen := pz.len
      have hcl := cellsL_le (w * h).toNat hs
      refine sh_spec_HarderPuzzle_of (n := (cellsL (w * h).toNat hs).length + 1) ?_
      show S_spec_HarderPuzzle_e w h hs a b ns (F_spec_HarderPuzzle_0 ((cellsL (w * h).toNat hs).length + 1) (fun r1 r2 r3 r4 r5 r6 r7 => some (r1, r2, r3, r4, r5, r6, r7)) ((cellsL (w * h).toNat hs).length + 1)) _ = _
      unfold S_spec_HarderPuzzle_e
      rw [(v_spec_pzAsked hl hn).1 hc, v_spec_boCells m1 m64 hl]
      simp only [Option.bind_some, Bool.not_true, cond_false]
      rw [decide_eq_true (show ((allS w h hs a b ns).length : Int) = 1 by omega)]
      simp only [Bool.not_true, cond_false]
      have hfin := hard_cells pz (w * h).toNat (by omega)
      have hall : ∀ c ∈ cellsL (w * h).toNat hs, hasP w h hs c := fun c hc => mem_cells.1 hc
      generalize cellsL (w * h).toNat hs = cs at hfin hall hcl
      have hst : ∀ i, PZ w h hs a b ((cs.take i).foldl (fun v c => hardS w h hs a b v c.toNat) ns) ∧ ((cs.take i).foldl (fun v c => hardS w h hs a b v c.toNat) ns).length = ns.length := by
        intro i
        generalize cs.take i = l
        have : ∀ (l : List Int) (s : List Int), PZ w h hs a b s → s.length = ns.length → PZ w h hs a b (l.foldl (fun v c => hardS w h hs a b v c.toNat) s) ∧ (l.foldl (fun v c => hardS w h hs a b v c.toNat) s).length = ns.length := by
          intro l
          induction l with
          | nil => exact fun s p q => ⟨p, q⟩
          | cons c l ih => exact fun s p q => ih _ (hardS_pz p) (by rw [hardS_len]; exact q)
        exact this l ns pz rfl
      refine loopF (F := fun n i => F_spec_HarderPuzzle_0 (cs.length + 1) (fun r1 r2 r3 r4 r5 r6 r7 => some (r1, r2, r3, r4, r5, r6, r7)) n cs (cs.length : Int) (i : Int) w h hs a b ((cs.take i).foldl (fun v c => hardS w h hs a b v c.toNat) ns) 0) (len := cs.length) (fun n i hi => ?_) (fun n => ?_) (Nat.lt_succ_self _)
      · obtain ⟨hp, hvl⟩ := hst i
        have hv' : (cs.take (i + 1)).foldl (fun v c => hardS w h hs a b v c.toNat) ns = hardS w h hs a b ((cs.take i).foldl (fun v c => hardS w h hs a b v c.toNat) ns) (cs.getD i 0).toNat := by
          rw [take_succ_ints hi, List.foldl_append]; rfl
        have hcm := hall (cs.getD i 0) (mem_getD.2 ⟨i, hi, rfl⟩)
        rw [hv']
        generalize (cs.take i).foldl (fun v c => hardS w h hs a b v c.toNat) ns = v at hp hvl
        have g1 : (i : Int) < (cs.length : Int) := by omega
        have g2 : (0 : Int) ≤ (i : Int) := by omega
        have g3 : 0 ≤ cs.getD i 0 := hcm.1
        have g4 : cs.getD i 0 < (v.length : Int) := by have := hcm.2.1; omega
        have hvn : v.length ≤ 1099511627776 := by omega
        simp only [F_spec_HarderPuzzle_0, S_spec_HarderPuzzle_0, g1, g2, g3, g4, decide_true, cond_true, if_true, Int.toNat_natCast, next64 (show i < 9223372036854775807 by omega)]
        unfold hardS
        by_cases k0 : v.getD (cs.getD i 0).toNat 0 = 0
        · rw [decide_eq_true k0, if_pos k0]; rfl
        · rw [decide_eq_false k0, if_neg k0, v_spec_pzWith hl hvn g3 g4]
          simp only [cond_false, Option.bind_some]
          rw [v_spec_pzAll (hp.zero _) hl (by simpa using hvn)]
          simp only [Option.bind_some]
          by_cases k1 : (allS w h hs a b (v.set (cs.getD i 0).toNat 0)).length = 1
          · rw [if_pos k1, decide_eq_true (by omega), List.take_of_length_le (by omega), decide_eq_true (show ((allS w h hs a b (v.set (cs.getD i 0).toNat 0)).length : Int) = 1 by omega)]; rfl
          · rw [if_neg k1]
            by_cases k2 : ((allS w h hs a b (v.set (cs.getD i 0).toNat 0)).length : Int) ≤ 200
            · rw [decide_eq_true k2, List.take_of_length_le (by omega), decide_eq_false (show ¬ ((allS w h hs a b (v.set (cs.getD i 0).toNat 0)).length : Int) = 1 by omega)]; rfl
            · rw [decide_eq_false k2]; rfl
      · obtain ⟨hp, hvl⟩ := hst cs.length
        rw [List.take_length] at hp hvl ⊢
        rw [show ns.length = (w * h).toNat by omega, ← hfin]
        generalize cs.foldl (fun v c => hardS w h hs a b v c.toNat) ns = v at hp hvl
        have g1 : ¬ ((cs.length : Int) < (cs.length : Int)) := by omega
        have g4 : (0 : Int) < (v.length : Int) := by omega
        have g0 : (0 : Int) ≤ 0 := by omega
        have hvn : v.length ≤ 1099511627776 := by omega
        simp only [F_spec_HarderPuzzle_0, S_spec_HarderPuzzle_0, g1, g0, g4, decide_false, cond_false, if_true, v_spec_pzWith hl hvn g0 g4, Option.bind_some]
        rw [show (0 : Int).toNat = 0 from rfl, set_self]
    · refine ⟨fun q => absurd q.2 h1, fun _ => sh_spec_HarderPuzzle_of (n := 1) ?_⟩
      show S_spec_HarderPuzzle_e w h hs a b ns _ _ = _
      unfold S_spec_HarderPuzzle_e
      rw [(v_spec_pzAsked hl hn).1 hc]
      simp only [Option.bind_some, Bool.not_true, cond_false]
      rw [decide_eq_false (show ¬ ((allS w h hs a b ns).length : Int) = 1 by omega)]
      rfl
  · obtain ⟨l, q⟩ := (v_spec_pzAsked hl hn).2 hc
    refine ⟨fun r => absurd ⟨r.1, by have := r.2; omega⟩ hc, fun _ => sh_spec_HarderPuzzle_of (n := 1) ?_⟩
    show S_spec_HarderPuzzle_e w h hs a b ns _ _ = _
    unfold S_spec_HarderPuzzle_e
    rw [q]
    rfl
theorem v_impl_HarderPuzzle {w h a b : Int} {hs ns : List Int} (hl : hs.length ≤ 1099511627776) (hn : ns.length ≤ 1099511627776) :
    (OneP w h hs a b ns → sh_impl_HarderPuzzle w h hs a b ns = some (w, h, hs, a, b, hardL w h hs a b ns ns.length, true)) ∧ (¬ OneP w h hs a b ns → sh_impl_HarderPuzzle w h hs a b ns = some (0, 0, [], 0, 0, [], false)) := by
  obtain ⟨r, e1, e2⟩ := v_impl_IsPuzzle (w := w) (h := h) (a := a) (b := b) hl hn
  have one : ∀ {s : List Int}, PZ w h hs a b s → s.length ≤ 1099511627776 → sh_impl_Puzzle_solve w h hs a b s (1 : Int) = some ((allS w h hs a b s).take 2) := fun p q => v_impl_Puzzle_solve (most := 1) p hl q (by omega)
  have two : ∀ l : List (List Int), ((l.take 2).length : Int) = 1 ↔ l.length = 1 := fun l => by rw [List.length_take]; omega
  cases r with
  | false =>
    refine ⟨fun q => absurd (e2.2 q.1) (by simp), fun _ => sh_impl_HarderPuzzle_of (n := 1) ?_⟩
    show S_impl_HarderPuzzle_e w h hs a b ns _ _ = _
    unfold S_impl_HarderPuzzle_e
    rw [e1]
    rfl
  | true =>
    have pz := e2.1 rfl
    have ⟨m1, m64⟩ := pz.bd.m
    have hlen := pz.len
    by_cases h1 : (allS w h hs a b ns).length = 1
    · refine ⟨fun _ => ?_, fun q => absurd ⟨pz, h1⟩ q⟩
      refine sh_impl_HarderPuzzle_of (n := ns.length + 1) ?_
      show S_impl_HarderPuzzle_e w h hs a b ns (F_impl_HarderPuzzle_0 (ns.length + 1) (fun r1 r2 r3 r4 r5 r6 r7 => some (r1, r2, r3, r4, r5, r6, r7)) (ns.length + 1)) _ = _
      unfold S_impl_HarderPuzzle_e
      rw [e1]
      simp only [Option.bind_some, Bool.not_true, cond_false]
      rw [one pz hn]
      simp only [Option.bind_some]
      rw [decide_eq_true ((two _).2 h1), v_impl_Puzzle_own hl hn]
      simp only [Option.bind_some, Bool.not_true, cond_false]
      refine loopF (F := fun n i => F_impl_HarderPuzzle_0 (ns.length + 1) (fun r1 r2 r3 r4 r5 r6 r7 => some (r1, r2, r3, r4, r5, r6, r7)) n ns (ns.length : Int) (i : Int) 0 w h hs a b (hardL w h hs a b ns i)) (len := ns.length) (fun n i hi => ?_) (fun n => ?_) (Nat.lt_succ_self _)
      · have hp := hardL_pz pz i
        have hvl := hardL_len (w := w) (h := h) (a := a) (b := b) (hs := hs) (s := ns) i
        have hk := hardL_keep (w := w) (h := h) (a := a) (b := b) (hs := hs) (s := ns) i (Nat.le_refl i)
        rw [hardL_succ]
        generalize hardL w h hs a b ns i = v at hp hvl hk
        have g1 : (i : Int) < (ns.length : Int) := by omega
        have g2 : (0 : Int) ≤ (i : Int) := by omega
        have g3 : (i : Int) < (v.length : Int) := by omega
        have g4 : (i : Int) < ((v.set i 0).length : Int) := by simpa using g3
        have hvn : (v.set i 0).length ≤ 1099511627776 := by simp; omega
        simp only [F_impl_HarderPuzzle_0, S_impl_HarderPuzzle_0, g1, g2, g3, g4, decide_true, cond_true, if_true, Int.toNat_natCast, next64 (show i < 9223372036854775807 by omega)]
        unfold hardS
        by_cases k0 : ns.getD i 0 = 0
        · rw [decide_eq_true k0, if_pos (hk.trans k0)]; rfl
        · rw [decide_eq_false k0, if_neg (fun q => k0 (hk.symm.trans q)), one (hp.zero i) hvn]
          simp only [cond_false, Option.bind_some]
          by_cases k1 : (allS w h hs a b (v.set i 0)).length = 1
          · rw [if_pos k1, decide_eq_true ((two _).2 k1)]; rfl
          · rw [if_neg k1, decide_eq_false (fun q => k1 ((two _).1 q)), set_back (by omega) hk]; rfl
      · have g1 : ¬ ((ns.length : Int) < (ns.length : Int)) := by omega
        simp only [F_impl_HarderPuzzle_0, S_impl_HarderPuzzle_0, g1, decide_false, cond_false]
    · refine ⟨fun q => absurd q.2 h1, fun _ => sh_impl_HarderPuzzle_of (n := 1) ?_⟩
      show S_impl_HarderPuzzle_e w h hs a b ns _ _ = _
      unfold S_impl_HarderPuzzle_e
      rw [e1]
      simp only [Option.bind_some, Bool.not_true, cond_false]
      rw [one pz hn]
      simp only [Option.bind_some]
      rw [decide_eq_false (fun q => h1 ((two _).1 q))]
      rfl
theorem hard_same {w h a b : Int} {hs ns : List Int} (hl : hs.length ≤ 1099511627776) (hn : ns.length ≤ 1099511627776) :
    ∃ W H l A B n t, sh_spec_HarderPuzzle w h hs a b ns = some (W, H, l, A, B, n, t) ∧ sh_impl_HarderPuzzle w h hs a b ns = some (W, H, l, A, B, n, t) ∧ l.length ≤ 1099511627776 ∧ n.length ≤ 1099511627776 := by
  by_cases p : OneP w h hs a b ns
  · exact ⟨_, _, _, _, _, _, _, (v_spec_HarderPuzzle hl hn).1 p, (v_impl_HarderPuzzle hl hn).1 p, hl, by rw [hardL_len]; exact hn⟩
  · exact ⟨_, _, _, _, _, _, _, (v_spec_HarderPuzzle hl hn).2 p, (v_impl_HarderPuzzle hl hn).2 p, by simp, by simp⟩
theorem law_FnExactHarderPuzzle {p0_0 : Int} {p0_1 : Int} {p0_2 : List Int} {p0_3 : Int} {p0_4 : Int} {p0_5 : List Int} (hp0 : InK .i64 p0_0 ∧ InK .i64 p0_1 ∧ (∀ z ∈ p0_2, InK .i64 z) ∧ p0_2.length ≤ maxLen ∧ InK .i64 p0_3 ∧ InK .i64 p0_4 ∧ (∀ z ∈ p0_5, InK .i64 z) ∧ p0_5.length ≤ maxLen) : sh_laws_FnExactHarderPuzzle p0_0 p0_1 p0_2 p0_3 p0_4 p0_5 = some true := by
  obtain ⟨_, _, _, h1, _, _, _, h2⟩ := hp0
  simp only [maxLen] at h1 h2
  show S_laws_FnExactHarderPuzzle_e p0_0 p0_1 p0_2 p0_3 p0_4 p0_5 (fun r => some r) = _
  unfold S_laws_FnExactHarderPuzzle_e
  rw [v_laws_szPuzzle (by omega) (by omega) (by omega) (by omega)]
  by_cases hb : (1048576 : Int) < (p0_2.length : Int) + p0_5.length
  · rw [if_pos hb]; rfl
  · simp only [if_neg hb, Option.bind_some]
    rw [decide_eq_false (by omega)]
    simp only [cond_false]
    rw [v_laws_toPuzzle (by omega) (by omega)]
    simp only [Option.bind_some]
    obtain ⟨W, H, l, A, B, n, t, q1, q2, q3, q4⟩ := hard_same (w := p0_0) (h := p0_1) (a := p0_3) (b := p0_4) (hs := p0_2) (ns := p0_5) (by omega) (by omega)
    rw [q1, q2]
    have g1 : decide ((1 : Int) + p0_2.length + p0_5.length < 0) = false := decide_eq_false (by omega)
    have g2 : decide ((1 : Int) + l.length + n.length < 0) = false := decide_eq_false (by omega)
    simp only [Option.bind_some, v_laws_eqPuzzle (show l.length ≤ 9223372036854775807 by omega) (show n.length ≤ 9223372036854775807 by omega), v_laws_eqPuzzle (show p0_2.length ≤ 9223372036854775807 by omega) (show p0_5.length ≤ 9223372036854775807 by omega), v_laws_markPuzzle (show p0_2.length ≤ 1099511627776 by omega) (show p0_5.length ≤ 1099511627776 by omega), v_laws_markPuzzle q3 q4, v_laws_heldPuzzle q3 q4, g1, g2]
    simp
end Go.Proofs.Ytdodbbhpdoiicaa

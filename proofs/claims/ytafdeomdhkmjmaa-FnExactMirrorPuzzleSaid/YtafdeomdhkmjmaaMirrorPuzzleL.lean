/-
  The plain laws: what the functions answer, in plain words.
-/
import Derived.Test.YtafdeomdhkmjmaaMirrorPuzzleV
set_option linter.unusedVariables false
set_option linter.unusedSimpArgs false
namespace Go.Proofs.Ytafdeomdhkmjmaa
open Go.BV
theorem next64 {i : Nat} (h : i < 9223372036854775807) : IntKind.i64.wrap ((i : Int) + 1) = ((i + 1 : Nat) : Int) := by rw [w64 (by omega) (by omega)]; omega
/-- A loop over the places below 'len'. -/
theorem loopF {γ : Type} {F : Nat → Nat → γ} {len : Nat} {R : γ} (hstep : ∀ n i, i < len → F (n + 1) i = F n (i + 1)) (hend : ∀ n, F (n + 1) len = R) {n : Nat} (h : len < n) : F n 0 = R := by
  have key : ∀ k i n, i + k = len → k < n → F n i = R := by
    intro k
    induction k with
    | zero =>
      intro i n h1 h2
      obtain ⟨n, rfl⟩ : ∃ m, n = m + 1 := ⟨n - 1, by omega⟩
      obtain rfl : i = len := by omega
      exact hend n
    | succ k ih =>
      intro i n h1 h2
      obtain ⟨n, rfl⟩ : ∃ m, n = m + 1 := ⟨n - 1, by omega⟩
      rw [hstep n i (by omega)]
      exact ih (i + 1) n (by omega) (by omega)
  exact key len 0 n (by omega) h
/-- A loop that ends at the first place that is not in order. -/
theorem loopX {γ : Type} {F : Nat → Nat → γ} {len : Nat} {ok : Nat → Prop} {R : γ} {X : Nat → γ} (hok : ∀ n i, i < len → (∀ j, j < i → ok j) → ok i → F (n + 1) i = F n (i + 1)) (hbad : ∀ n i, i < len → (∀ j, j < i → ok j) → ¬ ok i → F (n + 1) i = X i) (hend : (∀ j, j < len → ok j) → ∀ n, F (n + 1) len = R) {n : Nat} (h : len < n) :
    ((∀ i, i < len → ok i) ∧ F n 0 = R) ∨ (∃ i, i < len ∧ ¬ ok i ∧ (∀ j, j < i → ok j) ∧ F n 0 = X i) := by
  have key : ∀ k i n, i + k = len → k < n → (∀ j, j < i → ok j) → ((∀ i, i < len → ok i) ∧ F n i = R) ∨ (∃ j, j < len ∧ ¬ ok j ∧ (∀ j', j' < j → ok j') ∧ F n i = X j) := by
    intro k
    induction k with
    | zero =>
      intro i n h1 h2 h3
      obtain ⟨n, rfl⟩ : ∃ m, n = m + 1 := ⟨n - 1, by omega⟩
      obtain rfl : i = len := by omega
      exact .inl ⟨h3, hend h3 n⟩
    | succ k ih =>
      intro i n h1 h2 h3
      obtain ⟨n, rfl⟩ : ∃ m, n = m + 1 := ⟨n - 1, by omega⟩
      by_cases hk : ok i
      · rw [hok n i (by omega) h3 hk]
        exact ih (i + 1) n (by omega) (by omega) (fun j hj => by
          rcases Nat.lt_succ_iff_lt_or_eq.1 hj with q | q
          · exact h3 j q
          · rw [q]; exact hk)
      · exact .inr ⟨i, by omega, hk, h3, hbad n i (by omega) h3 hk⟩
  exact key len 0 n (by omega) h (fun j hj => by omega)
theorem v_spec_l1Has {l : List Int} {x : Int} (hl : l.length ≤ 9223372036854775807) : sh_spec_l1Has l x = some (decide (x ∈ l)) := by
  have h := chk (F := fun m i => F_spec_l1Has_0 (l.length + 1) (fun r => some r) m x l (l.length : Int) (i : Int)) (len := l.length) (ok := fun i => l.getD i 0 ≠ x) (good := false) (bad := fun _ => true) (fun m i hi => by
    have h1 : ((i : Int) < (l.length : Int)) := by omega
    have h2 : (0 : Int) ≤ i := by omega
    simp only [F_spec_l1Has_0, S_spec_l1Has_0, h1, h2, decide_true, cond_true, if_true, Int.toNat_natCast, next64 (show i < 9223372036854775807 by omega)]
    by_cases hx : l.getD i 0 = x
    · exact .inr ⟨fun h => h hx, by rw [decide_eq_true hx]; rfl⟩
    · exact .inl ⟨hx, by rw [decide_eq_false hx]; rfl⟩) (fun m => by simp [F_spec_l1Has_0, S_spec_l1Has_0])
  refine sh_spec_l1Has_of (n := l.length + 1) ?_
  show F_spec_l1Has_0 (l.length + 1) (fun r => some r) (l.length + 1) x l (l.length : Int) ((0 : Nat) : Int) = _
  rcases h with ⟨h1, h2⟩ | ⟨j, h1, h2, _, h3⟩
  · rw [h2]
    congr 1
    symm
    rw [decide_eq_false_iff_not, mem_getD]
    rintro ⟨i, hi, e⟩
    exact h1 i hi e
  · rw [h3]
    congr 1
    symm
    rw [decide_eq_true_eq, mem_getD]
    exact ⟨j, h1, by simpa using h2⟩
theorem v_spec_l1In {a b c : Int} : sh_spec_l1In a b c = some (decide (b ≤ a ∧ a ≤ c)) := by
  show S_spec_l1In_e a b c (fun r => some r) = _
  unfold S_spec_l1In_e
  by_cases h1 : b ≤ a
  · simp [h1]
  · simp [h1]
theorem v_slices_Index_int_int {l : List Int} {x : Int} (hl : l.length ≤ 9223372036854775807) : ∃ r, sh_slices_Index_int_int l x = some r ∧ (0 ≤ r ↔ x ∈ l) := by
  have h := chk (F := fun m i => F_slices_Index_int_int_0 (l.length + 1) (fun r => some r) m l x (l.length : Int) (i : Int)) (len := l.length) (ok := fun i => x ≠ l.getD i 0) (good := (-1 : Int)) (bad := fun i => (i : Int)) (fun m i hi => by
    have h1 : ((i : Int) < (l.length : Int)) := by omega
    have h2 : (0 : Int) ≤ i := by omega
    simp only [F_slices_Index_int_int_0, S_slices_Index_int_int_0, h1, h2, decide_true, cond_true, if_true, Int.toNat_natCast, next64 (show i < 9223372036854775807 by omega)]
    by_cases hx : x = l.getD i 0
    · exact .inr ⟨fun h => h hx, by rw [decide_eq_true hx]; rfl⟩
    · exact .inl ⟨hx, by rw [decide_eq_false hx]; rfl⟩) (fun m => by simp [F_slices_Index_int_int_0, S_slices_Index_int_int_0])
  rcases h with ⟨h1, h2⟩ | ⟨j, h1, h2, _, h3⟩
  · refine ⟨-1, sh_slices_Index_int_int_of (n := l.length + 1) h2, by simp, fun h => ?_⟩
    obtain ⟨i, hi, e⟩ := mem_getD.1 h
    exact absurd e.symm (h1 i hi)
  · refine ⟨j, sh_slices_Index_int_int_of (n := l.length + 1) h3, fun _ => ?_, fun _ => by omega⟩
    exact mem_getD.2 ⟨j, h1, by simpa using (Decidable.not_not.1 h2).symm⟩
theorem v_slices_Contains_int_int {l : List Int} {x : Int} (hl : l.length ≤ 9223372036854775807) : sh_slices_Contains_int_int l x = some (decide (x ∈ l)) := by
  obtain ⟨r, h1, h2⟩ := v_slices_Index_int_int (x := x) hl
  show S_slices_Contains_int_int_e l x (fun r => some r) = _
  unfold S_slices_Contains_int_int_e
  rw [h1]
  simp [h2]
theorem v_laws_toIntS {l : List Int} (hl : l.length ≤ 1099511627776) : sh_laws_toIntS l = some l := by
  obtain ⟨s, h1, h2⟩ := bld (F := fun m i s => F_laws_toIntS_0 (l.length + 1) (fun r => some r) m l s (i : Int)) (len := l.length) (out := id) (Inv := fun i s => s.length = l.length ∧ s.take i = l.take i) (fun m i s hi hs => by
    have h1 : ((i : Int) < (l.length : Int)) := by omega
    have h2 : (0 : Int) ≤ i := by omega
    have h3 : ((i : Int) < (s.length : Int)) := by rw [hs.1]; exact h1
    refine ⟨s.set i (l.getD i 0), ⟨by simpa using hs.1, ?_⟩, ?_⟩
    · rw [List.take_add_one, List.take_add_one, List.take_set_of_le (Nat.le_refl _), hs.2]
      simp [hs.1, hi]
    · simp only [F_laws_toIntS_0, S_laws_toIntS_0, h1, h2, h3, decide_true, cond_true, if_true, Int.toNat_natCast, next64 (show i < 9223372036854775807 by omega)]) (fun m s _ => by simp [F_laws_toIntS_0, S_laws_toIntS_0]) l.length 0 (List.replicate l.length 0) (l.length + 1) (by omega) (by omega) ⟨by simp, by simp⟩
  have he : s = l := by
    have := h1.2
    rwa [List.take_length, show l.length = s.length from h1.1.symm, List.take_length] at this
  subst he
  refine sh_laws_toIntS_of (n := s.length + 1) ?_
  show S_laws_toIntS_e s (F_laws_toIntS_0 (s.length + 1) (fun r => some r) (s.length + 1)) = _
  unfold S_laws_toIntS_e
  rw [if_pos (by omega), if_pos (by omega)]
  exact h2
/-- A board of the right size whose holes rise. -/
structure GoodB (w h : Int) (hs : List Int) : Prop where
  w1 : 1 ≤ w
  w8 : w ≤ 8
  h1 : 1 ≤ h
  h8 : h ≤ 8
  few : (hs.length : Int) < w * h
  lie : ∀ x ∈ hs, 0 ≤ x ∧ x < w * h
  rise : ∀ i, i + 1 < hs.length → hs.getD i 0 < hs.getD (i + 1) 0
def GoodL (a b : Int) : Prop := 1 ≤ b ∧ b ≤ 5 ∧ 0 ≤ a ∧ a ≤ b
instance {a b : Int} : Decidable (GoodL a b) := by unfold GoodL; infer_instance
theorem mul8 {w h : Int} (a : 1 ≤ w) (b : w ≤ 8) (c : 1 ≤ h) (d : h ≤ 8) : 1 ≤ w * h ∧ w * h ≤ 64 := by
  have h1 : w = 1 ∨ w = 2 ∨ w = 3 ∨ w = 4 ∨ w = 5 ∨ w = 6 ∨ w = 7 ∨ w = 8 := by omega
  rcases h1 with rfl | rfl | rfl | rfl | rfl | rfl | rfl | rfl <;> omega
theorem v_spec_boSize {w h : Int} : sh_spec_boSize w h = some (decide ((1 ≤ w ∧ w ≤ 8) ∧ (1 ≤ h ∧ h ≤ 8))) := by
  show S_spec_boSize_e w h (fun r => some r) = _
  unfold S_spec_boSize_e
  rw [v_spec_l1In, v_spec_l1In]
  by_cases h1 : 1 ≤ w ∧ w ≤ 8
  · simp [h1]
  · simp only [Option.bind_some, decide_eq_false h1, cond_false]
    congr 1
    symm
    rw [decide_eq_false_iff_not]
    exact fun h => h1 h.1
theorem v_spec_boLeaper {a b : Int} : sh_spec_boLeaper a b = some (decide (GoodL a b)) := by
  show S_spec_boLeaper_e a b (fun r => some r) = _
  unfold S_spec_boLeaper_e
  rw [v_spec_l1In, v_spec_l1In]
  by_cases h1 : 1 ≤ b ∧ b ≤ 5
  · simp only [Option.bind_some, decide_eq_true h1, cond_true]
    congr 1
    rw [decide_eq_decide]
    unfold GoodL
    constructor
    · intro h; exact ⟨h1.1, h1.2, h.1, h.2⟩
    · intro h; exact ⟨h.2.2.1, h.2.2.2⟩
  · simp only [Option.bind_some, decide_eq_false h1, cond_false]
    congr 1
    symm
    rw [decide_eq_false_iff_not]
    exact fun h => h1 ⟨h.1, h.2.1⟩
theorem v_impl_IsLeaper {a b : Int} : sh_impl_IsLeaper a b = some (decide (GoodL a b)) := by
  show S_impl_IsLeaper_e a b (fun r => some r) = _
  unfold S_impl_IsLeaper_e
  by_cases h1 : a ≥ 0 <;> by_cases h2 : a ≤ b <;> by_cases h3 : b ≥ 1 <;> by_cases h4 : b ≤ 5 <;> simp [GoodL, h1, h2, h3, h4] <;> omega
theorem v_impl_sized {a : Int} : sh_impl_sized a = some (decide (1 ≤ a ∧ a ≤ 8)) := by
  show S_impl_sized_e a (fun r => some r) = _
  unfold S_impl_sized_e
  by_cases h1 : 1 ≤ a
  · simp [h1]
  · simp [h1]
theorem v_spec_l1All {l : List Int} {a b : Int} (hl : l.length ≤ 9223372036854775807) : sh_spec_l1All l a b = some (decide (∀ x ∈ l, a ≤ x ∧ x ≤ b)) := by
  have h := chk (F := fun m i => F_spec_l1All_0 (l.length + 1) (fun r => some r) m a b l (l.length : Int) (i : Int)) (len := l.length) (ok := fun i => a ≤ l.getD i 0 ∧ l.getD i 0 ≤ b) (good := true) (bad := fun _ => false) (fun m i hi => by
    have h1 : ((i : Int) < (l.length : Int)) := by omega
    have h2 : (0 : Int) ≤ i := by omega
    simp only [F_spec_l1All_0, S_spec_l1All_0, h1, h2, decide_true, cond_true, if_true, Int.toNat_natCast, next64 (show i < 9223372036854775807 by omega), v_spec_l1In, Option.bind_some]
    by_cases hx : a ≤ l.getD i 0 ∧ l.getD i 0 ≤ b
    · exact .inl ⟨hx, by rw [decide_eq_true hx]; rfl⟩
    · exact .inr ⟨hx, by rw [decide_eq_false hx]; rfl⟩) (fun m => by simp [F_spec_l1All_0, S_spec_l1All_0])
  refine sh_spec_l1All_of (n := l.length + 1) ?_
  show F_spec_l1All_0 (l.length + 1) (fun r => some r) (l.length + 1) a b l (l.length : Int) ((0 : Nat) : Int) = _
  rcases h with ⟨h1, h2⟩ | ⟨j, h1, h2, _, h3⟩
  · rw [h2]
    congr 1
    symm
    rw [decide_eq_true_eq]
    intro x hx
    obtain ⟨i, hi, rfl⟩ := mem_getD.1 hx
    exact h1 i hi
  · rw [h3]
    congr 1
    symm
    rw [decide_eq_false_iff_not]
    exact fun h => h2 (h _ (getD_mem h1))
theorem v_spec_boGood {w h : Int} {hs : List Int} (hl : hs.length ≤ 1099511627776) : ∃ b, sh_spec_boGood w h hs = some b ∧ (b = true ↔ GoodB w h hs) := by
  by_cases hw : (1 ≤ w ∧ w ≤ 8) ∧ (1 ≤ h ∧ h ≤ 8)
  · obtain ⟨⟨w1, w8⟩, h1, h8⟩ := hw
    obtain ⟨m1, m64⟩ := mul8 w1 w8 h1 h8
    have hm : IntKind.i64.wrap (w * h) = w * h := w64 (by omega) (by omega)
    have hm1 : IntKind.i64.wrap (w * h - 1) = w * h - 1 := w64 (by omega) (by omega)
    have key : ∀ n, F_spec_boGood n w h hs (fun r => some r) = (bif decide ((hs.length : Int) ≥ w * h) then some false else (bif !(decide (∀ x ∈ hs, 0 ≤ x ∧ x ≤ w * h - 1)) then some false else F_spec_boGood_0 n (fun r => some r) n 1 w h hs)) := by
      intro n
      show S_spec_boGood_e w h hs _ _ = _
      unfold S_spec_boGood_e
      rw [v_spec_boSize, hm, hm1, v_spec_l1All (by omega)]
      simp only [Option.bind_some, decide_eq_true (show (1 ≤ w ∧ w ≤ 8) ∧ (1 ≤ h ∧ h ≤ 8) from ⟨⟨w1, w8⟩, h1, h8⟩), Bool.not_true, cond_false]
    by_cases hf : (hs.length : Int) ≥ w * h
    · refine ⟨false, sh_spec_boGood_of (n := 0) (by rw [key, decide_eq_true hf]; rfl), by simp, fun g => ?_⟩
      have := g.few; omega
    · by_cases hx : ∀ x ∈ hs, 0 ≤ x ∧ x ≤ w * h - 1
      · have hc := chk (F := fun m i => F_spec_boGood_0 (hs.length - 1 + 1) (fun r => some r) m ((i : Int) + 1) w h hs) (len := hs.length - 1) (ok := fun i => hs.getD i 0 < hs.getD (i + 1) 0) (good := true) (bad := fun _ => false) (fun m i hi => by
          have q1 : ((i : Int) + 1 < (hs.length : Int)) := by omega
          have q2 : (0 : Int) ≤ i := by omega
          have q3 : (i : Int) < (hs.length : Int) := by omega
          have q4 : (0 : Int) ≤ (i : Int) + 1 := by omega
          have q5 : IntKind.i64.wrap ((i : Int) + 1 - 1) = i := by rw [w64 (by omega) (by omega)]; omega
          have q6 : IntKind.i64.wrap ((i : Int) + 1 + 1) = ((i + 1 : Nat) : Int) + 1 := by rw [w64 (by omega) (by omega)]; omega
          have q7 : ((i : Int) + 1).toNat = i + 1 := by omega
          simp only [F_spec_boGood_0, S_spec_boGood_0, q1, q2, q3, q4, q5, q6, q7, decide_true, cond_true, if_true, Int.toNat_natCast]
          by_cases hx : hs.getD i 0 < hs.getD (i + 1) 0
          · exact .inl ⟨hx, by rw [decide_eq_false (by omega)]; rfl⟩
          · exact .inr ⟨hx, by rw [decide_eq_true (by omega)]; rfl⟩) (fun m => by
            have q : ¬ (((hs.length - 1 : Nat) : Int) + 1 < (hs.length : Int)) := by omega
            simp only [F_spec_boGood_0, S_spec_boGood_0, q, decide_false, cond_false])
        rcases hc with ⟨q1, q2⟩ | ⟨j, q1, q2, _, q3⟩
        · refine ⟨true, sh_spec_boGood_of (n := hs.length - 1 + 1) (by rw [key, decide_eq_false hf, decide_eq_true hx]; exact q2), fun _ => ?_, fun _ => rfl⟩
          exact ⟨w1, w8, h1, h8, by omega, fun x hm => by have := hx x hm; omega, fun i hi => q1 i (by omega)⟩
        · refine ⟨false, sh_spec_boGood_of (n := hs.length - 1 + 1) (by rw [key, decide_eq_false hf, decide_eq_true hx]; exact q3), by simp, fun g => ?_⟩
          exact absurd (g.rise j (by omega)) q2
      · refine ⟨false, sh_spec_boGood_of (n := 0) (by rw [key, decide_eq_false hf, decide_eq_false hx]; rfl), by simp, fun g => ?_⟩
        exact absurd (fun x hm => by have := g.lie x hm; omega) hx
  · refine ⟨false, sh_spec_boGood_of (n := 0) ?_, by simp, fun g => absurd ⟨⟨g.w1, g.w8⟩, g.h1, g.h8⟩ hw⟩
    show S_spec_boGood_e w h hs _ _ = _
    unfold S_spec_boGood_e
    rw [v_spec_boSize, decide_eq_false hw]
    rfl
theorem v_impl_IsBoard {w h : Int} {hs : List Int} (hl : hs.length ≤ 1099511627776) : ∃ b, sh_impl_IsBoard w h hs = some b ∧ (b = true ↔ GoodB w h hs) := by
  by_cases hw1 : 1 ≤ w ∧ w ≤ 8
  · by_cases hw2 : 1 ≤ h ∧ h ≤ 8
    · obtain ⟨w1, w8⟩ := hw1
      obtain ⟨h1, h8⟩ := hw2
      obtain ⟨m1, m64⟩ := mul8 w1 w8 h1 h8
      have hm : IntKind.i64.wrap (w * h) = w * h := w64 (by omega) (by omega)
      have key : ∀ n, F_impl_IsBoard n w h hs (fun r => some r) = (bif decide ((hs.length : Int) ≥ w * h) then some false else F_impl_IsBoard_0 n (fun r => some r) n hs (hs.length : Int) ((0 : Nat) : Int) w h) := by
        intro n
        show S_impl_IsBoard_e w h hs _ _ = _
        unfold S_impl_IsBoard_e
        rw [v_impl_sized, v_impl_sized, hm]
        simp only [Option.bind_some, decide_eq_true (show (1 ≤ w ∧ w ≤ 8) from ⟨w1, w8⟩), decide_eq_true (show (1 ≤ h ∧ h ≤ 8) from ⟨h1, h8⟩), Bool.not_true, cond_false]
        rfl
      by_cases hf : (hs.length : Int) ≥ w * h
      · refine ⟨false, sh_impl_IsBoard_of (n := 0) (by rw [key, decide_eq_true hf]; rfl), by simp, fun g => ?_⟩
        have := g.few; omega
      · have hc := chk (F := fun m i => F_impl_IsBoard_0 (hs.length + 1) (fun r => some r) m hs (hs.length : Int) (i : Int) w h) (len := hs.length) (ok := fun i => (0 ≤ hs.getD i 0 ∧ hs.getD i 0 < w * h) ∧ (0 < i → hs.getD (i - 1) 0 < hs.getD i 0)) (good := true) (bad := fun _ => false) (fun m i hi => by
          have q1 : ((i : Int) < (hs.length : Int)) := by omega
          have q2 : (0 : Int) ≤ i := by omega
          simp only [F_impl_IsBoard_0, S_impl_IsBoard_0, q1, q2, decide_true, cond_true, if_true, Int.toNat_natCast, hm, next64 (show i < 9223372036854775807 by omega)]
          by_cases r1 : hs.getD i 0 < 0
          · exact .inr ⟨fun h => by omega, by rw [decide_eq_true r1]; rfl⟩
          · rw [decide_eq_false r1]
            simp only [cond_false]
            by_cases r2 : hs.getD i 0 ≥ w * h
            · exact .inr ⟨fun h => by omega, by rw [decide_eq_true r2]; rfl⟩
            · rw [decide_eq_false r2]
              simp only [cond_false]
              by_cases r3 : 0 < i
              · have q5 : IntKind.i64.wrap ((i : Int) - 1) = ((i - 1 : Nat) : Int) := by rw [w64 (by omega) (by omega)]; omega
                have q6 : (0 : Int) ≤ ((i - 1 : Nat) : Int) := by omega
                have q7 : ((i - 1 : Nat) : Int) < (hs.length : Int) := by omega
                rw [decide_eq_true (show (i : Int) > 0 by omega)]
                simp only [cond_true, q5, q6, q7, if_true, Int.toNat_natCast]
                by_cases r4 : hs.getD (i - 1) 0 < hs.getD i 0
                · exact .inl ⟨⟨⟨by omega, by omega⟩, fun _ => r4⟩, by rw [decide_eq_false (by omega)]; rfl⟩
                · exact .inr ⟨fun h => r4 (h.2 r3), by rw [decide_eq_true (by omega)]; rfl⟩
              · rw [decide_eq_false (show ¬ (i : Int) > 0 by omega)]
                exact .inl ⟨⟨⟨by omega, by omega⟩, fun h => absurd h r3⟩, rfl⟩) (fun m => by
            have q : ¬ ((hs.length : Int) < (hs.length : Int)) := by omega
            simp only [F_impl_IsBoard_0, S_impl_IsBoard_0, q, decide_false, cond_false])
        rcases hc with ⟨q1, q2⟩ | ⟨j, q1, q2, _, q3⟩
        · refine ⟨true, sh_impl_IsBoard_of (n := hs.length + 1) (by rw [key, decide_eq_false hf]; exact q2), fun _ => ?_, fun _ => rfl⟩
          refine ⟨w1, w8, h1, h8, by omega, fun x hm => ?_, fun i hi => ?_⟩
          · obtain ⟨i, hi, rfl⟩ := mem_getD.1 hm
            exact (q1 i hi).1
          · exact (q1 (i + 1) hi).2 (by omega)
        · refine ⟨false, sh_impl_IsBoard_of (n := hs.length + 1) (by rw [key, decide_eq_false hf]; exact q3), by simp, fun g => ?_⟩
          refine absurd ⟨g.lie _ (getD_mem q1), fun hj => ?_⟩ q2
          have := g.rise (j - 1) (by omega)
          rwa [show j - 1 + 1 = j by omega] at this
    · refine ⟨false, sh_impl_IsBoard_of (n := 0) ?_, by simp, fun g => absurd ⟨g.h1, g.h8⟩ hw2⟩
      show S_impl_IsBoard_e w h hs _ _ = _
      unfold S_impl_IsBoard_e
      rw [v_impl_sized, v_impl_sized, decide_eq_true hw1, decide_eq_false hw2]
      rfl
  · refine ⟨false, sh_impl_IsBoard_of (n := 0) ?_, by simp, fun g => absurd ⟨g.w1, g.w8⟩ hw1⟩
    show S_impl_IsBoard_e w h hs _ _ = _
    unfold S_impl_IsBoard_e
    rw [v_impl_sized, decide_eq_false hw1]
    rfl
theorem GoodB.lt {w h : Int} {hs : List Int} (g : GoodB w h hs) : ∀ (j i : Nat), i < j → j < hs.length → hs.getD i 0 < hs.getD j 0 := by
  intro j
  induction j with
  | zero => intro i hi; omega
  | succ j ih =>
    intro i hi hj
    rcases Nat.eq_or_lt_of_le (Nat.le_of_lt_succ hi) with rfl | q
    · exact g.rise i hj
    · exact Int.lt_trans (ih i q (by omega)) (g.rise j hj)
theorem GoodB.nodup {w h : Int} {hs : List Int} (g : GoodB w h hs) : hs.Nodup := by
  rw [List.Nodup, List.pairwise_iff_getElem]
  intro i j hi hj hij e
  have := g.lt j i hij hj
  rw [getD_lt hi, getD_lt hj, e] at this
  omega
/-- The cells below n that are there. -/
def cellsL (n : Nat) (hs : List Int) : List Int := ((List.range n).map fun i : Nat => (i : Int)).filter fun c => decide (c ∉ hs)
theorem cellsL_succ (n : Nat) (hs : List Int) : cellsL (n + 1) hs = cellsL n hs ++ (if (n : Int) ∈ hs then [] else [(n : Int)]) := by
  unfold cellsL
  rw [List.range_succ, List.map_append, List.filter_append]
  congr 1
  by_cases h : (n : Int) ∈ hs <;> simp [h]
theorem cellsL_le (n : Nat) (hs : List Int) : (cellsL n hs).length ≤ n := by
  unfold cellsL
  refine Nat.le_trans (List.length_filter_le ..) ?_
  simp
theorem below_succ {n : Int} : ∀ {hs : List Int}, hs.Nodup → (hs.filter fun x => decide (x < n + 1)).length = (hs.filter fun x => decide (x < n)).length + (if n ∈ hs then 1 else 0)
  | [], _ => by simp
  | x :: hs, h => by
    rw [List.nodup_cons] at h
    have ih := below_succ (n := n) h.2
    by_cases e : x = n
    · subst e
      rw [if_neg h.1] at ih
      rw [List.filter_cons, List.filter_cons, if_pos (by simp; omega), if_neg (by simp), if_pos (List.mem_cons_self ..), List.length_cons, ih]
    · have hm : (n ∈ x :: hs) ↔ n ∈ hs := by
        rw [List.mem_cons]
        exact ⟨fun q => q.resolve_left fun q => e q.symm, .inr⟩
      by_cases hx : x < n
      · rw [List.filter_cons, List.filter_cons, if_pos (by simp; omega), if_pos (by simpa using hx), List.length_cons, List.length_cons, ih]
        simp only [hm]
        omega
      · rw [List.filter_cons, List.filter_cons, if_neg (by simp; omega), if_neg (by simpa using hx), ih]
        simp only [hm]
theorem cellsL_count {hs : List Int} (h : hs.Nodup) (h0 : ∀ x ∈ hs, 0 ≤ x) : ∀ n : Nat, (cellsL n hs).length + (hs.filter fun x => decide (x < (n : Int))).length = n
  | 0 => by
    have : (hs.filter fun x => decide (x < ((0 : Nat) : Int))) = [] := by
      rw [List.filter_eq_nil_iff]
      intro x hx
      have := h0 x hx
      simp; omega
    rw [this]; rfl
  | n + 1 => by
    have ih := cellsL_count h h0 n
    have hb := below_succ (n := (n : Int)) h
    rw [cellsL_succ, List.length_append, show ((n + 1 : Nat) : Int) = (n : Int) + 1 by omega, hb]
    by_cases hm : (n : Int) ∈ hs
    · rw [if_pos hm, if_pos hm, List.length_nil]; omega
    · rw [if_neg hm, if_neg hm, List.length_singleton]; omega
theorem GoodB.count {w h : Int} {hs : List Int} (g : GoodB w h hs) : ((cellsL (w * h).toNat hs).length : Int) = w * h - hs.length := by
  obtain ⟨m1, _⟩ := mul8 g.w1 g.w8 g.h1 g.h8
  have h1 := cellsL_count g.nodup (fun x hx => (g.lie x hx).1) (w * h).toNat
  have h2 : (hs.filter fun x => decide (x < (((w * h).toNat : Nat) : Int))) = hs := by
    rw [List.filter_eq_self]
    intro x hx
    have := (g.lie x hx).2
    simp; omega
  rw [h2] at h1
  omega
/-- The cell lies on the board and is there. -/
def hasP (w h : Int) (hs : List Int) (c : Int) : Prop := 0 ≤ c ∧ c < w * h ∧ c ∉ hs
instance {w h c : Int} {hs : List Int} : Decidable (hasP w h hs c) := by unfold hasP; infer_instance
theorem v_spec_boHas {w h c : Int} {hs : List Int} (m1 : 1 ≤ w * h) (m64 : w * h ≤ 64) (hl : hs.length ≤ 1099511627776) : sh_spec_boHas w h hs c = some (decide (hasP w h hs c)) := by
  show S_spec_boHas_e w h hs c (fun r => some r) = _
  unfold S_spec_boHas_e
  rw [w64 (n := w * h) (by omega) (by omega), w64 (by omega) (by omega), v_spec_l1In, v_spec_l1Has (by omega)]
  simp only [Option.bind_some]
  by_cases h1 : 0 ≤ c ∧ c ≤ w * h - 1
  · rw [decide_eq_true h1, cond_true, ← decide_not]
    congr 1
    rw [decide_eq_decide]
    exact ⟨fun h => ⟨h1.1, by omega, h⟩, fun h => h.2.2⟩
  · rw [decide_eq_false h1, cond_false]
    congr 1
    symm
    rw [decide_eq_false_iff_not]
    exact fun h => h1 ⟨h.1, by have := h.2.1; omega⟩
theorem v_impl_Board_has {w h c : Int} {hs : List Int} (m1 : 1 ≤ w * h) (m64 : w * h ≤ 64) (hl : hs.length ≤ 1099511627776) : sh_impl_Board_has w h hs c = some (decide (hasP w h hs c)) := by
  show S_impl_Board_has_e w h hs c (fun r => some r) = _
  unfold S_impl_Board_has_e
  rw [w64 (n := w * h) (by omega) (by omega), v_slices_Contains_int_int (by omega)]
  simp only [Option.bind_some]
  by_cases h1 : c ≥ 0
  · rw [decide_eq_true h1, cond_true]
    by_cases h2 : c < w * h
    · rw [decide_eq_true h2, cond_true, ← decide_not]
      congr 1
      rw [decide_eq_decide]
      exact ⟨fun h => ⟨h1, h2, h⟩, fun h => h.2.2⟩
    · rw [decide_eq_false h2, cond_false]
      congr 1
      symm
      rw [decide_eq_false_iff_not]
      exact fun h => h2 h.2.1
  · rw [decide_eq_false h1, cond_false]
    congr 1
    symm
    rw [decide_eq_false_iff_not]
    exact fun h => h1 h.1
theorem v_spec_boCells {w h : Int} {hs : List Int} (m1 : 1 ≤ w * h) (m64 : w * h ≤ 64) (hl : hs.length ≤ 1099511627776) : sh_spec_boCells w h hs = some (cellsL (w * h).toNat hs) := by
  have hm : IntKind.i64.wrap (w * h) = w * h := w64 (by omega) (by omega)
  obtain ⟨s, h1, h2⟩ := bld (F := fun m i s => F_spec_boCells_0 ((w * h).toNat + 1) (fun r => some r) m s (i : Int) w h hs) (len := (w * h).toNat) (out := id) (Inv := fun i s => s = cellsL i hs) (fun m i s hi hs' => by
    have q1 : (i : Int) < w * h := by omega
    refine ⟨cellsL (i + 1) hs, rfl, ?_⟩
    simp only [F_spec_boCells_0, S_spec_boCells_0, F_spec_boCells_1, S_spec_boCells_1, hm, q1, decide_true, cond_true, v_spec_boHas m1 m64 hl, Option.bind_some, next64 (show i < 9223372036854775807 by omega)]
    have hle := cellsL_le i hs
    by_cases hx : (i : Int) ∈ hs
    · rw [decide_eq_false (fun hh => hh.2.2 hx), cond_false, hs', cellsL_succ, if_pos hx, List.append_nil]
    · rw [decide_eq_true (show hasP w h hs i from ⟨by omega, q1, hx⟩), cond_true, hs', cellsL_succ, if_neg hx, if_pos (by simp; omega)]) (fun m s hs' => by
      have q : ¬ (((w * h).toNat : Int) < w * h) := by omega
      simp only [F_spec_boCells_0, S_spec_boCells_0, hm, q, decide_false, cond_false, id]) (w * h).toNat 0 [] ((w * h).toNat + 1) (by omega) (by omega) rfl
  rw [← h1]
  refine sh_spec_boCells_of (n := (w * h).toNat + 1) ?_
  exact h2
theorem v_spec_boTwo {w h a b : Int} {hs : List Int} (hl : hs.length ≤ 1099511627776) : ∃ r, sh_spec_boTwo w h hs a b = some r ∧ (r = true ↔ GoodB w h hs ∧ GoodL a b) := by
  obtain ⟨r1, h1, h2⟩ := v_spec_boGood (w := w) (h := h) hl
  show ∃ r, S_spec_boTwo_e w h hs a b (fun r => some r) = some r ∧ _
  unfold S_spec_boTwo_e
  rw [h1, v_spec_boLeaper]
  cases r1 with
  | true => exact ⟨_, rfl, by simp [← h2]⟩
  | false => exact ⟨_, rfl, by simp [← h2]⟩
/-- One number of a puzzle is in order. -/
def okN (w h : Int) (hs ns : List Int) (i : Nat) : Prop := ns.getD i 0 = 0 ∨ (1 ≤ ns.getD i 0 ∧ ns.getD i 0 ≤ w * h - hs.length ∧ hasP w h hs i ∧ ns.getD i 0 ∉ ns.take i)
structure PZ (w h : Int) (hs : List Int) (a b : Int) (ns : List Int) : Prop where
  bd : GoodB w h hs
  lp : GoodL a b
  len : (ns.length : Int) = w * h
  few : w * h - hs.length ≤ 16
  nums : ∀ i, i < ns.length → okN w h hs ns i
theorem v_spec_pzGood {w h a b : Int} {hs ns : List Int} (hl : hs.length ≤ 1099511627776) : ∃ r, sh_spec_pzGood w h hs a b ns = some r ∧ (r = true ↔ PZ w h hs a b ns) := by
  obtain ⟨r1, h1, h2⟩ := v_spec_boTwo (w := w) (h := h) (a := a) (b := b) hl
  cases r1 with
  | false =>
    refine ⟨false, sh_spec_pzGood_of (n := 0) ?_, by simp, fun p => absurd (h2.2 ⟨p.bd, p.lp⟩) (by simp)⟩
    show S_spec_pzGood_e w h hs a b ns _ _ = _
    unfold S_spec_pzGood_e
    rw [h1]
    rfl
  | true =>
    obtain ⟨g, gl⟩ := h2.1 rfl
    obtain ⟨m1, m64⟩ := mul8 g.w1 g.w8 g.h1 g.h8
    have hm : IntKind.i64.wrap (w * h) = w * h := w64 (by omega) (by omega)
    have hc := g.count
    have key : ∀ n, F_spec_pzGood n w h hs a b ns (fun r => some r) = (bif !decide ((ns.length : Int) = w * h) then some false else (bif decide (w * h - hs.length > 16) then some false else F_spec_pzGood_0 n (fun r => some r) n (w * h - hs.length) ns (ns.length : Int) ((0 : Nat) : Int) w h hs a b)) := by
      intro n
      show S_spec_pzGood_e w h hs a b ns _ _ = _
      unfold S_spec_pzGood_e
      rw [h1, v_spec_boCells m1 m64 hl, hm]
      simp only [Option.bind_some, Bool.not_true, cond_false, hc]
      rfl
    by_cases hlen : (ns.length : Int) = w * h
    · by_cases hfew : w * h - hs.length > 16
      · refine ⟨false, sh_spec_pzGood_of (n := 0) (by rw [key, decide_eq_true hlen, decide_eq_true hfew]; rfl), by simp, fun p => ?_⟩
        have := p.few; omega
      · have hck := chk (F := fun m i => F_spec_pzGood_0 (ns.length + 1) (fun r => some r) m (w * h - hs.length) ns (ns.length : Int) (i : Int) w h hs a b) (len := ns.length) (ok := fun i => okN w h hs ns i) (good := true) (bad := fun _ => false) (fun m i hi => by
          have q1 : ((i : Int) < (ns.length : Int)) := by omega
          have q2 : (0 : Int) ≤ i := by omega
          have q3 : (i : Int) ≤ (ns.length : Int) := by omega
          have hgf := g.few
          simp only [F_spec_pzGood_0, S_spec_pzGood_0, q1, q2, q3, decide_true, cond_true, if_true, Int.toNat_natCast, v_spec_l1In, v_spec_boHas m1 m64 hl, Option.bind_some, List.drop_zero, v_spec_l1Has (l := ns.take i) (by simp; omega), next64 (show i < 9223372036854775807 by omega)]
          by_cases r1 : 0 ≤ ns.getD i 0 ∧ ns.getD i 0 ≤ w * h - hs.length
          · rw [decide_eq_true r1]
            simp only [Bool.not_true, cond_false]
            by_cases r2 : ns.getD i 0 = 0
            · exact .inl ⟨.inl r2, by rw [decide_eq_true r2]; rfl⟩
            · rw [decide_eq_false r2]
              simp only [Bool.not_false, cond_true]
              by_cases r3 : hasP w h hs (i : Int)
              · rw [decide_eq_true r3]
                simp only [Bool.not_true, cond_false]
                by_cases r4 : ns.getD i 0 ∈ ns.take i
                · exact .inr ⟨fun o => o.elim r2 (fun o => o.2.2.2 r4), by rw [decide_eq_true r4]; rfl⟩
                · exact .inl ⟨.inr ⟨by omega, r1.2, r3, r4⟩, by rw [decide_eq_false r4]; rfl⟩
              · exact .inr ⟨fun o => o.elim r2 (fun o => r3 o.2.2.1), by rw [decide_eq_false r3]; rfl⟩
          · exact .inr ⟨fun o => o.elim (fun o => by omega) (fun o => by omega), by rw [decide_eq_false r1]; rfl⟩) (fun m => by
            have q : ¬ ((ns.length : Int) < (ns.length : Int)) := by omega
            simp only [F_spec_pzGood_0, S_spec_pzGood_0, q, decide_false, cond_false])
        rcases hck with ⟨q1, q2⟩ | ⟨j, q1, q2, _, q3⟩
        · exact ⟨true, sh_spec_pzGood_of (n := ns.length + 1) (by rw [key, decide_eq_true hlen, decide_eq_false hfew]; exact q2), fun _ => ⟨g, gl, hlen, by omega, q1⟩, fun _ => rfl⟩
        · exact ⟨false, sh_spec_pzGood_of (n := ns.length + 1) (by rw [key, decide_eq_true hlen, decide_eq_false hfew]; exact q3), by simp, fun p => absurd (p.nums j q1) q2⟩
    · exact ⟨false, sh_spec_pzGood_of (n := 0) (by rw [key, decide_eq_false hlen]; rfl), by simp, fun p => absurd p.len hlen⟩
theorem mem_take_succ {ns : List Int} {i : Nat} (hi : i < ns.length) {x : Int} : x ∈ ns.take (i + 1) ↔ x ∈ ns.take i ∨ x = ns.getD i 0 := by
  rw [List.take_add_one, List.mem_append, getD_lt hi]
  simp [hi]
theorem v_impl_IsPuzzle {w h a b : Int} {hs ns : List Int} (hl : hs.length ≤ 1099511627776) (hn : ns.length ≤ 1099511627776) : ∃ r, sh_impl_IsPuzzle w h hs a b ns = some r ∧ (r = true ↔ PZ w h hs a b ns) := by
  obtain ⟨r1, h1, h2⟩ := v_impl_IsBoard (w := w) (h := h) hl
  cases r1 with
  | false =>
    refine ⟨false, sh_impl_IsPuzzle_of (n := 0) ?_, by simp, fun p => absurd (h2.2 p.bd) (by simp)⟩
    show S_impl_IsPuzzle_e w h hs a b ns _ _ = _
    unfold S_impl_IsPuzzle_e
    rw [h1]
    rfl
  | true =>
    have g := h2.1 rfl
    obtain ⟨m1, m64⟩ := mul8 g.w1 g.w8 g.h1 g.h8
    have hm : IntKind.i64.wrap (w * h) = w * h := w64 (by omega) (by omega)
    have hfew := g.few
    by_cases gl : GoodL a b
    · by_cases hlen : (ns.length : Int) = w * h
      · have hmm : IntKind.i64.wrap ((ns.length : Int) - (hs.length : Int)) = (ns.length : Int) - hs.length := w64 (by omega) (by omega)
        have hm1 : IntKind.i64.wrap ((ns.length : Int) - (hs.length : Int) + 1) = (ns.length : Int) - hs.length + 1 := w64 (by omega) (by omega)
        by_cases hf16 : (ns.length : Int) - hs.length > 16
        · refine ⟨false, sh_impl_IsPuzzle_of (n := 0) ?_, by simp, fun p => ?_⟩
          · show S_impl_IsPuzzle_e w h hs a b ns _ _ = _
            unfold S_impl_IsPuzzle_e
            rw [h1, v_impl_IsLeaper, decide_eq_true gl, hm, hmm, decide_eq_true hf16, decide_eq_true hlen]
            rfl
          · have := p.few; omega
        · have key : ∀ n, F_impl_IsPuzzle n w h hs a b ns (fun r => some r) = F_impl_IsPuzzle_0 n (fun r => some r) n ((ns.length : Int) - hs.length) (List.replicate ((ns.length : Int) - hs.length + 1).toNat false) ns (ns.length : Int) ((0 : Nat) : Int) w h hs a b := by
            intro n
            show S_impl_IsPuzzle_e w h hs a b ns _ _ = _
            unfold S_impl_IsPuzzle_e
            rw [h1, v_impl_IsLeaper, decide_eq_true gl, hm, hmm, hm1, decide_eq_false hf16, decide_eq_true hlen]
            simp only [Option.bind_some, Bool.not_true, cond_false]
            rw [if_pos (by omega), if_pos (by omega)]
            rfl
          have hck := chkS (F := fun m i s => F_impl_IsPuzzle_0 (ns.length + 1) (fun r => some r) m ((ns.length : Int) - hs.length) s ns (ns.length : Int) (i : Int) w h hs a b) (len := ns.length) (ok := fun i => okN w h hs ns i) (good := true) (bad := fun _ => false)
            (Inv := fun i s => (s.length : Int) = (ns.length : Int) - hs.length + 1 ∧ ∀ v : Int, 1 ≤ v → v ≤ (ns.length : Int) - hs.length → (s.getD v.toNat false = true ↔ v ∈ ns.take i)) (fun m i s hi hs' => by
            obtain ⟨i1, i2⟩ := hs'
            have q1 : ((i : Int) < (ns.length : Int)) := by omega
            have q2 : (0 : Int) ≤ i := by omega
            simp only [F_impl_IsPuzzle_0, S_impl_IsPuzzle_0, q1, q2, decide_true, cond_true, if_true, Int.toNat_natCast, v_impl_Board_has m1 m64 hl, Option.bind_some, next64 (show i < 9223372036854775807 by omega)]
            by_cases r1 : ns.getD i 0 = 0
            · refine .inl ⟨.inl r1, s, ⟨i1, fun v hv1 hv2 => ?_⟩, by rw [decide_eq_true r1]; rfl⟩
              rw [i2 v hv1 hv2, mem_take_succ hi, r1]
              exact ⟨.inl, fun o => o.resolve_right (by omega)⟩
            · rw [decide_eq_false r1]
              simp only [cond_false]
              by_cases r2 : ns.getD i 0 < 0
              · exact .inr ⟨fun o => o.elim r1 (fun o => by omega), by rw [decide_eq_true r2]; rfl⟩
              · rw [decide_eq_false r2]
                simp only [cond_false]
                by_cases r3 : ns.getD i 0 > (ns.length : Int) - hs.length
                · exact .inr ⟨fun o => o.elim r1 (fun o => by omega), by rw [decide_eq_true r3]; rfl⟩
                · rw [decide_eq_false r3]
                  simp only [cond_false]
                  by_cases r4 : hasP w h hs (i : Int)
                  · rw [decide_eq_true r4]
                    simp only [Bool.not_true, cond_false]
                    have q3 : (0 : Int) ≤ ns.getD i 0 := by omega
                    have q4 : ns.getD i 0 < (s.length : Int) := by omega
                    simp only [q3, q4, if_true]
                    have i3 := i2 (ns.getD i 0) (by omega) (by omega)
                    by_cases r5 : ns.getD i 0 ∈ ns.take i
                    · exact .inr ⟨fun o => o.elim r1 (fun o => o.2.2.2 r5), by rw [i3.2 r5]; rfl⟩
                    · have r6 : s.getD (ns.getD i 0).toNat false = false := by
                        cases e : s.getD (ns.getD i 0).toNat false
                        · rfl
                        · exact absurd (i3.1 e) r5
                      refine .inl ⟨.inr ⟨by omega, by omega, r4, r5⟩, s.set (ns.getD i 0).toNat true, ⟨by simpa using i1, fun v hv1 hv2 => ?_⟩, by rw [r6]; rfl⟩
                      rw [mem_take_succ hi]
                      by_cases e : v = ns.getD i 0
                      · subst e
                        rw [getD_set, if_pos ⟨rfl, by omega⟩]
                        exact ⟨fun _ => .inr rfl, fun _ => rfl⟩
                      · have hne : (ns.getD i 0).toNat ≠ v.toNat := by omega
                        rw [getD_set, if_neg (fun q => hne q.1), i2 v hv1 hv2]
                        exact ⟨.inl, fun o => o.resolve_right e⟩
                  · exact .inr ⟨fun o => o.elim r1 (fun o => r4 o.2.2.1), by rw [decide_eq_false r4]; rfl⟩) (fun m s _ => by
              have q : ¬ ((ns.length : Int) < (ns.length : Int)) := by omega
              simp only [F_impl_IsPuzzle_0, S_impl_IsPuzzle_0, q, decide_false, cond_false]) ns.length 0 (List.replicate ((ns.length : Int) - hs.length + 1).toNat false) (ns.length + 1) (by omega) (by omega) ⟨by simp; omega, fun v _ _ => by simp [List.getElem?_replicate]; split <;> simp⟩
          rcases hck with ⟨q1, q2⟩ | ⟨j, _, q1, q2, _, q3⟩
          · exact ⟨true, sh_impl_IsPuzzle_of (n := ns.length + 1) (by rw [key]; exact q2), fun _ => ⟨g, gl, hlen, by omega, fun i hi => q1 i (by omega) hi⟩, fun _ => rfl⟩
          · exact ⟨false, sh_impl_IsPuzzle_of (n := ns.length + 1) (by rw [key]; exact q3), by simp, fun p => absurd (p.nums j q1) q2⟩
      · refine ⟨false, sh_impl_IsPuzzle_of (n := 0) ?_, by simp, fun p => absurd p.len hlen⟩
        show S_impl_IsPuzzle_e w h hs a b ns _ _ = _
        unfold S_impl_IsPuzzle_e
        rw [h1, v_impl_IsLeaper, decide_eq_true gl, hm, decide_eq_false hlen]
        rfl
    · refine ⟨false, sh_impl_IsPuzzle_of (n := 0) ?_, by simp, fun p => absurd p.lp gl⟩
      show S_impl_IsPuzzle_e w h hs a b ns _ _ = _
      unfold S_impl_IsPuzzle_e
      rw [h1, v_impl_IsLeaper, decide_eq_false gl]
      rfl
theorem v_laws_eqIntS {l m : List Int} (hl : l.length ≤ 9223372036854775807) : sh_laws_eqIntS l m = some (decide (l = m)) := by
  have key : ∀ n, F_laws_eqIntS n l m (fun r => some r) = (bif !decide ((l.length : Int) = (m.length : Int)) then some false else F_laws_eqIntS_0 n (fun r => some r) n l m ((0 : Nat) : Int)) := fun n => rfl
  by_cases he : l.length = m.length
  · have h := chk (F := fun k i => F_laws_eqIntS_0 (l.length + 1) (fun r => some r) k l m (i : Int)) (len := l.length) (ok := fun i => l.getD i 0 = m.getD i 0) (good := true) (bad := fun _ => false) (fun k i hi => by
      have h1 : ((i : Int) < (l.length : Int)) := by omega
      have h2 : (0 : Int) ≤ i := by omega
      have h3 : ((i : Int) < (m.length : Int)) := by omega
      simp only [F_laws_eqIntS_0, S_laws_eqIntS_0, h1, h2, h3, decide_true, cond_true, if_true, Int.toNat_natCast, next64 (show i < 9223372036854775807 by omega)]
      by_cases hx : l.getD i 0 = m.getD i 0
      · exact .inl ⟨hx, by rw [decide_eq_true hx]; rfl⟩
      · exact .inr ⟨hx, by rw [decide_eq_false hx]; rfl⟩) (fun k => by simp [F_laws_eqIntS_0, S_laws_eqIntS_0])
    refine sh_laws_eqIntS_of (n := l.length + 1) ?_
    rw [key, decide_eq_true (show (l.length : Int) = (m.length : Int) by omega)]
    show F_laws_eqIntS_0 (l.length + 1) (fun r => some r) (l.length + 1) l m ((0 : Nat) : Int) = _
    rcases h with ⟨h1, h2⟩ | ⟨j, h1, h2, _, h3⟩
    · rw [h2]
      congr 1
      symm
      rw [decide_eq_true_eq]
      refine List.ext_getElem he fun i hi hi' => ?_
      have := h1 i hi
      rwa [getD_lt hi, getD_lt hi'] at this
    · rw [h3]
      congr 1
      symm
      rw [decide_eq_false_iff_not]
      rintro rfl
      exact h2 rfl
  · refine sh_laws_eqIntS_of (n := 0) ?_
    rw [key, decide_eq_false (show ¬ (l.length : Int) = (m.length : Int) by omega), decide_eq_false (show ¬ l = m from fun e => he (by rw [e]))]
    rfl
theorem v_laws_eqBoard {w h w' h' : Int} {l l' : List Int} (hl : l.length ≤ 9223372036854775807) : sh_laws_eqBoard w h l w' h' l' = some (decide (w = w' ∧ h = h' ∧ l = l')) := by
  show S_laws_eqBoard_e w h l w' h' l' (fun r => some r) = _
  unfold S_laws_eqBoard_e
  rw [v_laws_eqIntS hl]
  by_cases h1 : w = w' <;> by_cases h2 : h = h' <;> by_cases h3 : l = l' <;> simp [h1, h2, h3]
theorem v_laws_eqLeaper {a b a' b' : Int} : sh_laws_eqLeaper a b a' b' = some (decide (a = a' ∧ b = b')) := by
  show S_laws_eqLeaper_e a b a' b' (fun r => some r) = _
  unfold S_laws_eqLeaper_e
  by_cases h1 : a = a' <;> by_cases h2 : b = b' <;> simp [h1, h2]
theorem v_laws_eqPuzzle {w h a b w' h' a' b' : Int} {l n l' n' : List Int} (hl : l.length ≤ 9223372036854775807) (hn : n.length ≤ 9223372036854775807) : sh_laws_eqPuzzle w h l a b n w' h' l' a' b' n' = some (decide ((w = w' ∧ h = h' ∧ l = l') ∧ (a = a' ∧ b = b') ∧ n = n')) := by
  show S_laws_eqPuzzle_e w h l a b n w' h' l' a' b' n' (fun r => some r) = _
  unfold S_laws_eqPuzzle_e
  rw [v_laws_eqBoard hl, v_laws_eqLeaper, v_laws_eqIntS hn]
  by_cases h1 : w = w' ∧ h = h' ∧ l = l' <;> by_cases h2 : a = a' ∧ b = b' <;> by_cases h3 : n = n' <;> simp only [h1, h2, h3, decide_true, decide_false, Option.bind_some, Bool.not_true, Bool.not_false, cond_true, cond_false, and_true, true_and, and_false, false_and] <;> rfl
theorem v_laws_szIntS {l : List Int} {n : Int} (hl : l.length ≤ 9223372036854775807) (h0 : 0 ≤ n) (h1 : n ≤ 1048576) : sh_laws_szIntS l n = some (if n < l.length then -1 else n - l.length) := by
  show S_laws_szIntS_e l n (fun r => some r) = _
  unfold S_laws_szIntS_e
  rw [w64 (by omega) (by omega)]
  by_cases h : n < (l.length : Int)
  · rw [if_pos h, decide_eq_true (by omega)]; rfl
  · rw [if_neg h, decide_eq_false (by omega)]; rfl
theorem v_laws_szBoard {w h : Int} {l : List Int} {n : Int} (hl : l.length ≤ 9223372036854775807) (h0 : 0 ≤ n) (h1 : n ≤ 1048576) : sh_laws_szBoard w h l n = some (if n < l.length then -1 else n - l.length) := by
  show S_laws_szBoard_e w h l n (fun r => some r) = _
  unfold S_laws_szBoard_e
  rw [v_laws_szIntS hl h0 h1]
  by_cases h : n < (l.length : Int)
  · simp [h]
  · simp only [if_neg h, Option.bind_some]
    rw [decide_eq_false (by omega)]; rfl
theorem v_laws_szPuzzle {w h a b : Int} {l m : List Int} {n : Int} (hl : l.length ≤ 9223372036854775807) (hm : m.length ≤ 9223372036854775807) (h0 : 0 ≤ n) (h1 : n ≤ 1048576) : sh_laws_szPuzzle w h l a b m n = some (if n < (l.length : Int) + m.length then -1 else n - l.length - m.length) := by
  show S_laws_szPuzzle_e w h l a b m n (fun r => some r) = _
  unfold S_laws_szPuzzle_e
  rw [v_laws_szBoard hl h0 h1]
  by_cases h : n < (l.length : Int)
  · rw [if_pos h, if_pos (show n < (l.length : Int) + m.length by omega)]; rfl
  · simp only [if_neg h, Option.bind_some]
    rw [decide_eq_false (by omega), v_laws_szIntS hm (by omega) (by omega)]
    by_cases h' : n - l.length < (m.length : Int)
    · rw [if_pos h', if_pos (show n < (l.length : Int) + m.length by omega)]; rfl
    · rw [if_neg h', if_neg (show ¬ n < (l.length : Int) + m.length by omega)]
      simp only [cond_false, Option.bind_some]
      rw [decide_eq_false (by omega)]; rfl
theorem v_laws_toBoard {w h : Int} {l : List Int} (hl : l.length ≤ 1099511627776) : sh_laws_toBoard w h l = some (w, h, l) := by
  show S_laws_toBoard_e w h l (fun r1 r2 r3 => some (r1, r2, r3)) = _
  unfold S_laws_toBoard_e
  rw [v_laws_toIntS hl]; rfl
theorem v_laws_toLeaper {a b : Int} : sh_laws_toLeaper a b = some (a, b) := rfl
theorem v_laws_toPuzzle {w h a b : Int} {l m : List Int} (hl : l.length ≤ 1099511627776) (hm : m.length ≤ 1099511627776) : sh_laws_toPuzzle w h l a b m = some (w, h, l, a, b, m) := by
  show S_laws_toPuzzle_e w h l a b m (fun r1 r2 r3 r4 r5 r6 => some (r1, r2, r3, r4, r5, r6)) = _
  unfold S_laws_toPuzzle_e
  rw [v_laws_toBoard hl, v_laws_toLeaper, v_laws_toIntS hm]; rfl
/-- Numbers that rise from one on. -/
def ramp (m : Int) (n : Nat) : List Int := (List.range n).map fun i : Nat => m + i
theorem ramp_len {m : Int} {n : Nat} : (ramp m n).length = n := by simp [ramp]
theorem ramp_succ {m : Int} {n : Nat} : ramp m (n + 1) = ramp m n ++ [m + n] := by simp [ramp, List.range_succ]
theorem ramp_get {m : Int} {n i : Nat} (h : i < n) : (ramp m n).getD i 0 = m + i := by simp [ramp, List.getD_eq_getElem?_getD, h]
theorem v_laws_markIntS {l : List Int} {m : Int} (h0 : 0 ≤ m) (h1 : m + l.length ≤ 9223372036854775807) : sh_laws_markIntS l m = some (m + l.length, ramp m l.length) := by
  obtain ⟨s, p1, p2⟩ := bld (F := fun k i s => F_laws_markIntS_0 (l.length + 1) (fun r1 r2 => some (r1, r2)) k s (m + (i : Int)) (i : Int)) (len := l.length) (out := fun s => (m + (l.length : Int), s)) (Inv := fun i s => s.length = l.length ∧ s.take i = ramp m i) (fun k i s hi hs => by
    have h1 : ((i : Int) < (s.length : Int)) := by rw [hs.1]; omega
    have h2 : (0 : Int) ≤ i := by omega
    refine ⟨s.set i (m + i), ⟨by simpa using hs.1, ?_⟩, ?_⟩
    · rw [List.take_add_one, List.take_set_of_le (Nat.le_refl _), hs.2, ramp_succ]
      simp [hs.1, hi]
    · have e : IntKind.i64.wrap (m + (i : Int) + 1) = m + ((i + 1 : Nat) : Int) := by rw [w64 (by omega) (by omega)]; omega
      simp only [F_laws_markIntS_0, S_laws_markIntS_0, h1, h2, decide_true, cond_true, if_true, Int.toNat_natCast, e, next64 (show i < 9223372036854775807 by omega)]) (fun k s hs => by simp [F_laws_markIntS_0, S_laws_markIntS_0, hs.1]) l.length 0 l (l.length + 1) (by omega) (by omega) ⟨rfl, rfl⟩
  have he : s = ramp m l.length := by
    have := p1.2
    rwa [← p1.1, List.take_length, p1.1] at this
  subst he
  refine sh_laws_markIntS_of (n := l.length + 1) ?_
  show S_laws_markIntS_e l m (F_laws_markIntS_0 (l.length + 1) (fun r1 r2 => some (r1, r2)) (l.length + 1)) = _
  unfold S_laws_markIntS_e
  simpa using p2
theorem v_laws_heldIntS {m : Int} {n : Nat} (h0 : 0 ≤ m) (h1 : m + n ≤ 9223372036854775807) : sh_laws_heldIntS (ramp m n) m = some (m + n) := by
  refine sh_laws_heldIntS_of (n := n + 1) ?_
  show S_laws_heldIntS_e (ramp m n) m (F_laws_heldIntS_0 (n + 1) (fun r1 => some r1) (n + 1)) = _
  unfold S_laws_heldIntS_e
  rcases chk (F := fun k i => F_laws_heldIntS_0 (n + 1) (fun r1 => some r1) k (ramp m n) (m + (i : Int)) (i : Int)) (len := n) (ok := fun i => True) (good := m + n) (bad := fun _ => 0) (fun k i hi => by
    have q1 : ((i : Int) < ((ramp m n).length : Int)) := by rw [ramp_len]; omega
    have q2 : (0 : Int) ≤ i := by omega
    refine .inl ⟨trivial, ?_⟩
    have e : IntKind.i64.wrap (m + (i : Int) + 1) = m + ((i + 1 : Nat) : Int) := by rw [w64 (by omega) (by omega)]; omega
    simp only [F_laws_heldIntS_0, S_laws_heldIntS_0, q1, q2, decide_true, cond_true, if_true, Int.toNat_natCast, ramp_get hi, Bool.not_true, cond_false, e, next64 (show i < 9223372036854775807 by omega)]) (fun k => by simp [F_laws_heldIntS_0, S_laws_heldIntS_0, ramp_len]) with ⟨_, h2⟩ | ⟨j, hj, h2, _⟩
  · simpa using h2
  · exact absurd trivial h2
/-- A board, a leaper and numbers: written, and found so again. -/
theorem v_laws_markPuzzle {w h a b : Int} {l n : List Int} (h1 : l.length ≤ 1099511627776) (h2 : n.length ≤ 1099511627776) : sh_laws_markPuzzle w h l a b n 1 = some ((1 : Int) + l.length + n.length, w, h, ramp 1 l.length, a, b, ramp (1 + l.length) n.length) := by
  show S_laws_markPuzzle_e w h l a b n 1 (fun r1 r2 r3 r4 r5 r6 r7 => some (r1, r2, r3, r4, r5, r6, r7)) = _
  have : sh_laws_markBoard w h l 1 = some ((1 : Int) + l.length, w, h, ramp 1 l.length) := by
    show S_laws_markBoard_e w h l 1 (fun r1 r2 r3 r4 => some (r1, r2, r3, r4)) = _
    simp [S_laws_markBoard_e, v_laws_markIntS (l := l) (m := 1) (by omega) (by omega)]
  simp [S_laws_markPuzzle_e, this, v_laws_markIntS (l := n) (m := 1 + l.length) (by omega) (by omega)]
theorem v_laws_heldPuzzle {w h a b : Int} {i j : Nat} (h1 : i ≤ 1099511627776) (h2 : j ≤ 1099511627776) : sh_laws_heldPuzzle w h (ramp 1 i) a b (ramp (1 + i) j) 1 = some ((1 : Int) + i + j) := by
  show S_laws_heldPuzzle_e w h (ramp 1 i) a b (ramp (1 + i) j) 1 (fun r => some r) = _
  have q1 : decide ((1 : Int) + i < 0) = false := decide_eq_false (by omega)
  have q2 : decide ((1 : Int) + i + j < 0) = false := decide_eq_false (by omega)
  have : sh_laws_heldBoard w h (ramp 1 i) 1 = some ((1 : Int) + i) := by
    show S_laws_heldBoard_e w h (ramp 1 i) 1 (fun r => some r) = _
    simp only [S_laws_heldBoard_e, v_laws_heldIntS (m := 1) (n := i) (by omega) (by omega), Option.bind_some, q1, cond_false]
  simp only [S_laws_heldPuzzle_e, this, Option.bind_some, q1, cond_false, v_laws_heldIntS (m := 1 + i) (n := j) (by omega) (by omega), q2]
theorem cell_dm {w c : Int} (w1 : 1 ≤ w) (c0 : 0 ≤ c) (c64 : c < 64) : 0 ≤ c % w ∧ c % w < w ∧ 0 ≤ c / w ∧ c / w < 64 ∧ c = w * (c / w) + c % w := by
  refine ⟨Int.emod_nonneg _ (by omega), Int.emod_lt_of_pos _ (by omega), Int.ediv_nonneg c0 (by omega), ?_, (Int.mul_ediv_add_emod c w).symm⟩
  exact Int.lt_of_le_of_lt (Int.ediv_le_self _ c0) c64
theorem nodup_of_lt {l : List Int} (h : l.Pairwise (· < ·)) : l.Nodup := h.imp fun h e => by omega
/-- Rising lists with the same members are one list. -/
theorem rise_ext {l m : List Int} (hl : l.Pairwise (· < ·)) (hm : m.Pairwise (· < ·)) (h : ∀ x, x ∈ l ↔ x ∈ m) : l = m := by
  refine List.Perm.eq_of_pairwise (le := fun a b : Int => a < b) (fun a b _ _ h1 h2 => by omega) hl hm ?_
  rw [List.perm_ext_iff_of_nodup (nodup_of_lt hl) (nodup_of_lt hm)]
  exact h
theorem sortL_rise {l : List Int} (h : l.Nodup) : (sortL l).Pairwise (· < ·) := by
  have h1 : (sortL l).Pairwise fun a b => decide (a ≤ b) = true := List.pairwise_mergeSort (le := fun a b : Int => decide (a ≤ b)) (fun a b c h1 h2 => by simp at *; omega) (fun a b => by simp; omega) l
  have h2 : (sortL l).Nodup := (List.mergeSort_perm l _).nodup_iff.2 h
  exact List.Pairwise.imp₂ (fun a b h1 h2 => by simp at h1; omega) h1 h2
theorem mem_sortL {l : List Int} {x : Int} : x ∈ sortL l ↔ x ∈ l := (List.mergeSort_perm l _).mem_iff
theorem sortL_eq {l m : List Int} (h : l.Nodup) (hm : m.Pairwise (· < ·)) (he : ∀ x, x ∈ l ↔ x ∈ m) : sortL l = m := rise_ext (sortL_rise h) hm fun x => mem_sortL.trans (he x)
theorem div_mod_of {w x y : Int} (hx : 0 ≤ x) (hw : x < w) : (y * w + x) % w = x ∧ (y * w + x) / w = y := by
  constructor
  · rw [Int.add_comm, Int.add_mul_emod_self_right]; exact Int.emod_eq_of_lt hx hw
  · rw [Int.add_comm, Int.add_mul_ediv_right _ _ (by omega), Int.ediv_eq_zero_of_lt hx hw]; omega
theorem row_div {w h d : Int} (w1 : 1 ≤ w) (h0 : 0 ≤ d) (h1 : d < w * h) : d / w < h := by
  refine Int.ediv_lt_of_lt_mul (by omega) ?_
  rw [Int.mul_comm]; exact h1
theorem GoodB.m {w h : Int} {hs : List Int} (g : GoodB w h hs) : 1 ≤ w * h ∧ w * h ≤ 64 := mul8 g.w1 g.w8 g.h1 g.h8
/-- A number is put into a rising list. -/
theorem v_spec_l1Put {l : List Int} {x : Int} (hl : l.length ≤ 1000000) (hr : l.Pairwise (· < ·)) : ∃ l', sh_spec_l1Put l x = some l' ∧ l'.Pairwise (· < ·) ∧ (∀ y, y ∈ l' ↔ y ∈ l ∨ y = x) ∧ l'.length ≤ l.length + 1 := by
  have hck := loopX (F := fun n i => F_spec_l1Put_0 (l.length + 1) (fun r => some r) n l x (i : Int)) (len := l.length) (ok := fun i => l.getD i 0 < x) (R := F_spec_l1Put_2 (l.length + 1) (fun r => some r) l x (l.length : Int)) (X := fun i => F_spec_l1Put_2 (l.length + 1) (fun r => some r) l x (i : Int)) (fun n i hi hj ho => by
    have q1 : (i : Int) < (l.length : Int) := by omega
    have q2 : (0 : Int) ≤ i := by omega
    simp only [F_spec_l1Put_0, S_spec_l1Put_0, q1, q2, decide_true, cond_true, if_true, Int.toNat_natCast, decide_eq_true ho, next64 (show i < 9223372036854775807 by omega)]) (fun n i hi hj ho => by
    have q1 : (i : Int) < (l.length : Int) := by omega
    have q2 : (0 : Int) ≤ i := by omega
    simp only [F_spec_l1Put_0, S_spec_l1Put_0, q1, q2, decide_true, cond_true, if_true, Int.toNat_natCast, decide_eq_false ho, cond_false]) (fun hj n => by
    have q : ¬ ((l.length : Int) < (l.length : Int)) := by omega
    simp only [F_spec_l1Put_0, S_spec_l1Put_0, q, decide_false, cond_false]) (show l.length < l.length + 1 by omega)
  have key : ∀ i : Nat, i ≤ l.length → (∀ j, j < i → l.getD j 0 < x) → (∀ h : i < l.length, ¬ l[i] < x) → ∃ l', F_spec_l1Put_2 (l.length + 1) (fun r => some r) l x (i : Int) = some l' ∧ l'.Pairwise (· < ·) ∧ (∀ y, y ∈ l' ↔ y ∈ l ∨ y = x) ∧ l'.length ≤ l.length + 1 := by
    intro i hi hj hx
    have q0 : (0 : Int) ≤ i := by omega
    have new : (∀ h : i < l.length, l[i] ≠ x) → ∃ l', F_spec_l1Put_1 (l.length + 1) (fun r => some r) l x (i : Int) = some l' ∧ l'.Pairwise (· < ·) ∧ (∀ y, y ∈ l' ↔ y ∈ l ∨ y = x) ∧ l'.length ≤ l.length + 1 := by
      intro hne
      refine ⟨l.take i ++ [x] ++ l.drop i, ?_, ?_, fun y => ?_, by simp; omega⟩
      · have q3 : (i : Int) ≤ (l.length : Int) := by omega
        simp only [F_spec_l1Put_1, S_spec_l1Put_1, q0, q3, if_true, Int.toNat_natCast, List.drop_zero, List.nil_append, List.take_length]
        rw [if_pos (by simp; omega), if_pos (by simp; omega), if_pos (by simp; omega)]
      · rw [List.append_assoc, List.pairwise_append]
        have hpi := List.pairwise_iff_getElem.1 hr
        have hd : ∀ b ∈ l.drop i, x < b := fun b hb => by
          obtain ⟨k, hk, rfl⟩ := List.getElem_of_mem hb
          simp only [List.length_drop] at hk
          rw [List.getElem_drop]
          have h1 := hx (by omega)
          have h2 := hne (by omega)
          rcases Nat.eq_zero_or_pos k with rfl | q
          · simp only [Nat.add_zero]; omega
          · have := hpi i (i + k) (by omega) (by omega) (by omega)
            omega
        have ht : ∀ a ∈ l.take i, a < x := fun a ha => by
          obtain ⟨k, hk, rfl⟩ := List.getElem_of_mem ha
          simp only [List.length_take] at hk
          rw [List.getElem_take]
          have := hj k (by omega)
          rwa [getD_lt (by omega)] at this
        refine ⟨hr.sublist (List.take_sublist ..), ?_, fun a ha b hb => ?_⟩
        · rw [List.singleton_append, List.pairwise_cons]
          exact ⟨hd, hr.sublist (List.drop_sublist ..)⟩
        · rw [List.singleton_append, List.mem_cons] at hb
          rcases hb with rfl | hb
          · exact ht a ha
          · exact Int.lt_trans (ht a ha) (hd b hb)
      · have : y ∈ l ↔ y ∈ l.take i ∨ y ∈ l.drop i := by rw [← List.mem_append, List.take_append_drop]
        rw [this]
        simp only [List.mem_append, List.mem_singleton]
        constructor
        · rintro ((h | h) | h)
          · exact .inl (.inl h)
          · exact .inr h
          · exact .inl (.inr h)
        · rintro ((h | h) | h)
          · exact .inl (.inl h)
          · exact .inr h
          · exact .inl (.inr h)
    by_cases hlt : i < l.length
    · have q1 : (i : Int) < (l.length : Int) := by omega
      simp only [F_spec_l1Put_2, S_spec_l1Put_2, q1, q0, decide_true, cond_true, if_true, Int.toNat_natCast]
      by_cases he : l.getD i 0 = x
      · rw [decide_eq_true he]
        exact ⟨l, rfl, hr, fun y => ⟨.inl, fun q => q.elim id fun q => by rw [q, ← he]; exact getD_mem hlt⟩, by omega⟩
      · rw [decide_eq_false he]
        exact new fun h => by rwa [getD_lt h] at he
    · have q1 : ¬ (i : Int) < (l.length : Int) := by omega
      simp only [F_spec_l1Put_2, S_spec_l1Put_2, q1, decide_false, cond_false]
      exact new fun h => absurd h hlt
  rcases hck with ⟨h1, h2⟩ | ⟨i, h1, h2, h3, h4⟩
  · obtain ⟨l', k1, k2⟩ := key l.length (Nat.le_refl _) h1 (fun h => by omega)
    exact ⟨l', sh_spec_l1Put_of (n := l.length + 1) (h2.trans k1), k2⟩
  · obtain ⟨l', k1, k2⟩ := key i (by omega) h3 (fun h => by rwa [getD_lt h] at h2)
    exact ⟨l', sh_spec_l1Put_of (n := l.length + 1) (h4.trans k1), k2⟩
/-- To which cell a cell comes if columns are in the other order. -/
def mirC (w c : Int) : Int := c / w * w + w - 1 - c % w
theorem mirC_dm {w c : Int} (w1 : 1 ≤ w) : mirC w c % w = w - 1 - c % w ∧ mirC w c / w = c / w := by
  have h1 := Int.emod_nonneg c (show w ≠ 0 by omega)
  have h2 := Int.emod_lt_of_pos c (show 0 < w by omega)
  have := div_mod_of (w := w) (y := c / w) (x := w - 1 - c % w) (by omega) (by omega)
  rwa [show c / w * w + (w - 1 - c % w) = mirC w c by unfold mirC; omega] at this
theorem dm_lt {w h c : Int} (w1 : 1 ≤ w) : (0 ≤ c ∧ c < w * h) ↔ (0 ≤ c / w ∧ c / w < h) := by
  have h1 := Int.emod_nonneg c (show w ≠ 0 by omega)
  have h2 := Int.emod_lt_of_pos c (show 0 < w by omega)
  constructor
  · rintro ⟨a, b⟩
    exact ⟨Int.ediv_nonneg a (by omega), row_div w1 a b⟩
  · rintro ⟨a, b⟩
    have e := Int.mul_ediv_add_emod c w
    have m1 : 0 ≤ w * (c / w) := Int.mul_nonneg (by omega) a
    have m2 : w * (c / w) ≤ w * (h - 1) := Int.mul_le_mul_of_nonneg_left (by omega) (by omega)
    rw [Int.mul_sub, Int.mul_one] at m2
    exact ⟨by omega, by omega⟩
theorem mirC_lt {w h c : Int} (w1 : 1 ≤ w) (hc : 0 ≤ c ∧ c < w * h) : 0 ≤ mirC w c ∧ mirC w c < w * h := by
  rw [dm_lt w1, (mirC_dm w1).2, ← dm_lt w1]; exact hc
theorem mirC_inv {w c : Int} (w1 : 1 ≤ w) : mirC w (mirC w c) = c := by
  obtain ⟨h1, h2⟩ := mirC_dm (c := c) w1
  show mirC w c / w * w + w - 1 - mirC w c % w = c
  rw [h1, h2]
  have e := Int.mul_ediv_add_emod c w
  rw [Int.mul_comm] at e
  omega
theorem mirC_inj {w c d : Int} (w1 : 1 ≤ w) (h : mirC w c = mirC w d) : c = d := by rw [← mirC_inv (c := c) w1, h, mirC_inv w1]
theorem v_spec_boMirror {w h c : Int} {hs : List Int} (w1 : 1 ≤ w) (w8 : w ≤ 8) (c0 : 0 ≤ c) (c64 : c < 64) : sh_spec_boMirror w h hs c = some (mirC w c) := by
  show S_spec_boMirror_e w h hs c (fun r => some r) = _
  unfold S_spec_boMirror_e
  obtain ⟨p1, p2, p3, p4, p5⟩ := cell_dm w1 c0 c64
  have hw : ¬ w = 0 := by omega
  have e := Int.mul_comm w (c / w)
  simp only [hw, if_false, Int.tmod_eq_emod_of_nonneg c0]
  rw [w64 (n := c - c % w) (by omega) (by omega), w64 (n := c - c % w + w) (by omega) (by omega), w64 (n := c - c % w + w - 1) (by omega) (by omega), w64 (by omega) (by omega)]
  congr 1
  unfold mirC
  omega
theorem v_impl_Board_mirrored {w h c : Int} {hs : List Int} (w1 : 1 ≤ w) (w8 : w ≤ 8) (c0 : 0 ≤ c) (c64 : c < 64) : sh_impl_Board_mirrored w h hs c = some (mirC w c) := by
  show S_impl_Board_mirrored_e w h hs c (fun r => some r) = _
  unfold S_impl_Board_mirrored_e
  obtain ⟨p1, p2, p3, p4, p5⟩ := cell_dm w1 c0 c64
  have hw : ¬ w = 0 := by omega
  have e := Int.mul_comm w (c / w)
  simp only [hw, if_false, Int.tmod_eq_emod_of_nonneg c0, Int.tdiv_eq_ediv_of_nonneg c0]
  rw [w64 (n := c / w) (by omega) (by omega), w64 (n := c / w * w) (by omega) (by omega), w64 (n := c / w * w + w) (by omega) (by omega), w64 (n := c / w * w + w - 1) (by omega) (by omega), w64 (by omega) (by omega)]
  rfl
def mirH (w : Int) (hs : List Int) : List Int := sortL (hs.map (mirC w))
theorem mir_nodup {w h : Int} {hs : List Int} (gb : GoodB w h hs) : (hs.map (mirC w)).Nodup := by
  rw [List.Nodup, List.pairwise_map]
  exact gb.nodup.imp fun h1 h2 => h1 (mirC_inj gb.w1 h2)
theorem GoodB.len {w h : Int} {hs : List Int} (g : GoodB w h hs) : hs.length ≤ 63 := by have := g.few; have := g.m; omega
theorem map_take_succ {α β : Type} {f : α → β} {l : List α} {i : Nat} {d : α} (hi : i < l.length) : (l.take (i + 1)).map f = (l.take i).map f ++ [f (l.getD i d)] := by
  rw [List.take_add_one, List.map_append, getD_lt hi, List.getElem?_eq_getElem hi]; rfl
theorem v_spec_boMoved {l : List Int} (hl : l.length ≤ 1000) : ∃ l', sh_spec_boMoved l = some l' ∧ l'.Pairwise (· < ·) ∧ (∀ y, y ∈ l' ↔ y ∈ l) := by
  obtain ⟨s, h1, h2⟩ := bld (F := fun n i s => F_spec_boMoved_0 (l.length + 1) (fun r => some r) n s l (l.length : Int) (i : Int)) (len := l.length) (out := id) (Inv := fun i s => s.Pairwise (· < ·) ∧ (∀ y, y ∈ s ↔ y ∈ l.take i) ∧ s.length ≤ i) (fun n i s hi hs => by
    obtain ⟨s', k1, k2, k3, k4⟩ := v_spec_l1Put (l := s) (x := l.getD i 0) (by omega) hs.1
    refine ⟨s', ⟨k2, fun y => ?_, by omega⟩, ?_⟩
    · rw [k3, hs.2.1, mem_take_succ hi]
    · have q1 : (i : Int) < (l.length : Int) := by omega
      have q2 : (0 : Int) ≤ i := by omega
      simp only [F_spec_boMoved_0, S_spec_boMoved_0, q1, q2, decide_true, cond_true, if_true, Int.toNat_natCast, k1, Option.bind_some, next64 (show i < 9223372036854775807 by omega)]) (fun n s hs => by
    have q : ¬ ((l.length : Int) < (l.length : Int)) := by omega
    simp only [F_spec_boMoved_0, S_spec_boMoved_0, q, decide_false, cond_false, id]) l.length 0 [] (l.length + 1) (by omega) (by omega) ⟨List.Pairwise.nil, by simp, by simp⟩
  exact ⟨s, sh_spec_boMoved_of (n := l.length + 1) h2, h1.1, fun y => by rw [h1.2.1, List.take_length]⟩
theorem v_spec_boMirrored {w h : Int} {hs : List Int} (gb : GoodB w h hs) : sh_spec_boMirrored w h hs = some (w, h, mirH w hs) := by
  have hl := gb.len
  have ⟨m1, m64⟩ := gb.m
  refine sh_spec_boMirrored_of (n := 100) ?_
  show F_spec_boMirrored_0 100 _ 100 [] hs (hs.length : Int) 0 w h 0 = _
  refine loopF (F := fun n i => F_spec_boMirrored_0 100 _ n ((hs.take i).map (mirC w)) hs (hs.length : Int) (i : Int) w h 0) (len := hs.length) (fun n i hi => ?_) (fun n => ?_) (by omega)
  · have q1 : (i : Int) < (hs.length : Int) := by omega
    have q2 : (0 : Int) ≤ i := by omega
    have hc := gb.lie _ (getD_mem hi)
    simp only [F_spec_boMirrored_0, S_spec_boMirrored_0, q1, q2, decide_true, cond_true, if_true, Int.toNat_natCast, v_spec_boMirror gb.w1 gb.w8 hc.1 (Int.lt_of_lt_of_le hc.2 m64), Option.bind_some, next64 (show i < 9223372036854775807 by omega)]
    rw [if_pos (by simp; omega), map_take_succ (d := 0) hi]
  · have q : ¬ ((hs.length : Int) < (hs.length : Int)) := by omega
    simp only [F_spec_boMirrored_0, S_spec_boMirrored_0, q, decide_false, cond_false, List.take_length]
    obtain ⟨l', k1, k2, k3⟩ := v_spec_boMoved (l := hs.map (mirC w)) (by simp; omega)
    simp only [F_spec_boMirrored_1, S_spec_boMirrored_1, k1, Option.bind_some]
    rw [show l' = mirH w hs from (sortL_eq (mir_nodup gb) k2 fun x => (k3 x).symm).symm]
theorem v_impl_MirrorBoard {w h : Int} {hs : List Int} (gb : GoodB w h hs) (hl : hs.length ≤ 1099511627776) : sh_impl_MirrorBoard w h hs = some (w, h, mirH w hs, true) := by
  have hl2 := gb.len
  have ⟨m1, m64⟩ := gb.m
  obtain ⟨r, h1, h2⟩ := v_impl_IsBoard (w := w) (h := h) hl
  have hr := h2.2 gb
  subst hr
  show S_impl_MirrorBoard_e w h hs (fun r1 r2 r3 r4 => some (r1, r2, r3, r4)) = _
  unfold S_impl_MirrorBoard_e
  rw [h1]
  simp only [Option.bind_some, Bool.not_true, cond_false]
  have key : sh_impl_Board_moved w h hs w h w h hs = some (w, h, mirH w hs) := by
    refine sh_impl_Board_moved_of (n := 100) ?_
    show F_impl_Board_moved_0 100 _ 100 w h hs hs (hs.length : Int) 0 0 w h [] = _
    refine loopF (F := fun n i => F_impl_Board_moved_0 100 _ n w h hs hs (hs.length : Int) (i : Int) 0 w h ((hs.take i).map (mirC w))) (len := hs.length) (fun n i hi => ?_) (fun n => ?_) (by omega)
    · have q1 : (i : Int) < (hs.length : Int) := by omega
      have q2 : (0 : Int) ≤ i := by omega
      have hc := gb.lie _ (getD_mem hi)
      simp only [F_impl_Board_moved_0, S_impl_Board_moved_0, q1, q2, decide_true, cond_true, if_true, Int.toNat_natCast, v_impl_Board_mirrored gb.w1 gb.w8 hc.1 (Int.lt_of_lt_of_le hc.2 m64), Option.bind_some, next64 (show i < 9223372036854775807 by omega)]
      rw [if_pos (by simp; omega), map_take_succ (d := 0) hi]
    · have q : ¬ ((hs.length : Int) < (hs.length : Int)) := by omega
      have k : sh_slices_Sort_int_int (hs.map (mirC w)) = some (mirH w hs) := by
        show sortS _ = _
        unfold sortS
        rw [if_pos (by simp; omega)]; rfl
      simp only [F_impl_Board_moved_0, S_impl_Board_moved_0, q, decide_false, cond_false, List.take_length, k, Option.bind_some]
  rw [key]; rfl
theorem mirH_len (w : Int) (hs : List Int) : (mirH w hs).length = hs.length := by simp [mirH, sortL_len]
def mirN (w : Int) (ns : List Int) (i : Nat) : List Int := (List.range i).foldl (fun s (k : Nat) => s.set (mirC w k).toNat (ns.getD k 0)) (List.replicate ns.length 0)
theorem mirN_succ (w : Int) (ns : List Int) (i : Nat) : mirN w ns (i + 1) = (mirN w ns i).set (mirC w i).toNat (ns.getD i 0) := by simp [mirN, List.range_succ]
theorem mirN_len (w : Int) (ns : List Int) : ∀ i, (mirN w ns i).length = ns.length
  | 0 => by simp [mirN]
  | i + 1 => by rw [mirN_succ, List.length_set, mirN_len w ns i]
theorem v_spec_MirrorPuzzle {w h a b : Int} {hs ns : List Int} (hl : hs.length ≤ 1099511627776) (hn : ns.length ≤ 1099511627776) : (PZ w h hs a b ns → sh_spec_MirrorPuzzle w h hs a b ns = some (w, h, mirH w hs, a, b, mirN w ns ns.length, true)) ∧ (¬ PZ w h hs a b ns → sh_spec_MirrorPuzzle w h hs a b ns = some (0, 0, [], 0, 0, [], false)) := by
  obtain ⟨r, h1, h2⟩ := v_spec_pzGood (w := w) (h := h) (a := a) (b := b) (ns := ns) hl
  constructor
  · intro p
    have hr : r = true := h2.2 p
    subst hr
    have ⟨m1, m64⟩ := p.bd.m
    have hlen := p.len
    refine sh_spec_MirrorPuzzle_of (n := 100) ?_
    show S_spec_MirrorPuzzle_e w h hs a b ns _ _ = _
    unfold S_spec_MirrorPuzzle_e
    rw [h1, v_spec_boMirrored p.bd]
    simp only [Option.bind_some, Bool.not_true, cond_false, Int.toNat_natCast]
    rw [if_pos (by omega), if_pos (by omega)]
    refine loopF (F := fun n i => F_spec_MirrorPuzzle_0 100 _ n ns (ns.length : Int) (i : Int) w h hs a b 0 w h (mirH w hs) (mirN w ns i)) (len := ns.length) (fun n i hi => ?_) (fun n => ?_) (by omega)
    · have q1 : (i : Int) < (ns.length : Int) := by omega
      have q2 : (0 : Int) ≤ i := by omega
      have hc := mirC_lt (c := (i : Int)) (h := h) p.bd.w1 ⟨by omega, by omega⟩
      have q3 : mirC w (i : Int) < ((mirN w ns i).length : Int) := by rw [mirN_len]; omega
      simp only [F_spec_MirrorPuzzle_0, S_spec_MirrorPuzzle_0, q1, q2, decide_true, cond_true, if_true, Int.toNat_natCast, v_spec_boMirror (c := (i : Int)) p.bd.w1 p.bd.w8 (by omega) (by omega), Option.bind_some, hc.1, q3, next64 (show i < 9223372036854775807 by omega), mirN_succ]
    · have q : ¬ ((ns.length : Int) < (ns.length : Int)) := by omega
      simp only [F_spec_MirrorPuzzle_0, S_spec_MirrorPuzzle_0, q, decide_false, cond_false]
  · intro p
    have hr : r = false := by
      cases r with
      | false => rfl
      | true => exact absurd (h2.1 rfl) p
    subst hr
    refine sh_spec_MirrorPuzzle_of (n := 0) ?_
    show S_spec_MirrorPuzzle_e w h hs a b ns _ _ = _
    unfold S_spec_MirrorPuzzle_e
    rw [h1]
    rfl
theorem v_impl_MirrorPuzzle {w h a b : Int} {hs ns : List Int} (hl : hs.length ≤ 1099511627776) (hn : ns.length ≤ 1099511627776) : (PZ w h hs a b ns → sh_impl_MirrorPuzzle w h hs a b ns = some (w, h, mirH w hs, a, b, mirN w ns ns.length, true)) ∧ (¬ PZ w h hs a b ns → sh_impl_MirrorPuzzle w h hs a b ns = some (0, 0, [], 0, 0, [], false)) := by
  obtain ⟨r, h1, h2⟩ := v_impl_IsPuzzle (w := w) (h := h) (a := a) (b := b) (ns := ns) hl hn
  constructor
  · intro p
    have hr : r = true := h2.2 p
    subst hr
    have ⟨m1, m64⟩ := p.bd.m
    have hlen := p.len
    refine sh_impl_MirrorPuzzle_of (n := 100) ?_
    show S_impl_MirrorPuzzle_e w h hs a b ns _ _ = _
    unfold S_impl_MirrorPuzzle_e
    rw [h1, v_impl_MirrorBoard p.bd hl]
    simp only [Option.bind_some, Bool.not_true, cond_false, Int.toNat_natCast]
    rw [if_pos (by omega), if_pos (by omega)]
    refine loopF (F := fun n i => F_impl_MirrorPuzzle_0 100 _ n ns (ns.length : Int) (i : Int) w h hs a b 0 w h (mirH w hs) (mirN w ns i)) (len := ns.length) (fun n i hi => ?_) (fun n => ?_) (by omega)
    · have q1 : (i : Int) < (ns.length : Int) := by omega
      have q2 : (0 : Int) ≤ i := by omega
      have hc := mirC_lt (c := (i : Int)) (h := h) p.bd.w1 ⟨by omega, by omega⟩
      have q3 : mirC w (i : Int) < ((mirN w ns i).length : Int) := by rw [mirN_len]; omega
      simp only [F_impl_MirrorPuzzle_0, S_impl_MirrorPuzzle_0, q1, q2, decide_true, cond_true, if_true, Int.toNat_natCast, v_impl_Board_mirrored (c := (i : Int)) p.bd.w1 p.bd.w8 (by omega) (by omega), Option.bind_some, hc.1, q3, next64 (show i < 9223372036854775807 by omega), mirN_succ]
    · have q : ¬ ((ns.length : Int) < (ns.length : Int)) := by omega
      simp only [F_impl_MirrorPuzzle_0, S_impl_MirrorPuzzle_0, q, decide_false, cond_false]
  · intro p
    have hr : r = false := by
      cases r with
      | false => rfl
      | true => exact absurd (h2.1 rfl) p
    subst hr
    refine sh_impl_MirrorPuzzle_of (n := 0) ?_
    show S_impl_MirrorPuzzle_e w h hs a b ns _ _ = _
    unfold S_impl_MirrorPuzzle_e
    rw [h1]
    rfl
theorem mirror_same {w h a b : Int} {hs ns : List Int} (hl : hs.length ≤ 1099511627776) (hn : ns.length ≤ 1099511627776) :
    ∃ W H l A B n t, sh_spec_MirrorPuzzle w h hs a b ns = some (W, H, l, A, B, n, t) ∧ sh_impl_MirrorPuzzle w h hs a b ns = some (W, H, l, A, B, n, t) ∧ l.length ≤ 1099511627776 ∧ n.length ≤ 1099511627776 := by
  by_cases p : PZ w h hs a b ns
  · exact ⟨_, _, _, _, _, _, _, (v_spec_MirrorPuzzle hl hn).1 p, (v_impl_MirrorPuzzle hl hn).1 p, by rw [mirH_len]; exact hl, by rw [mirN_len]; exact hn⟩
  · exact ⟨_, _, _, _, _, _, _, (v_spec_MirrorPuzzle hl hn).2 p, (v_impl_MirrorPuzzle hl hn).2 p, by simp, by simp⟩
theorem law_FnExactMirrorPuzzle {p0_0 : Int} {p0_1 : Int} {p0_2 : List Int} {p0_3 : Int} {p0_4 : Int} {p0_5 : List Int} (hp0 : InK .i64 p0_0 ∧ InK .i64 p0_1 ∧ (∀ z ∈ p0_2, InK .i64 z) ∧ p0_2.length ≤ maxLen ∧ InK .i64 p0_3 ∧ InK .i64 p0_4 ∧ (∀ z ∈ p0_5, InK .i64 z) ∧ p0_5.length ≤ maxLen) : sh_laws_FnExactMirrorPuzzle p0_0 p0_1 p0_2 p0_3 p0_4 p0_5 = some true := by
  obtain ⟨_, _, _, h1, _, _, _, h2⟩ := hp0
  simp only [maxLen] at h1 h2
  show S_laws_FnExactMirrorPuzzle_e p0_0 p0_1 p0_2 p0_3 p0_4 p0_5 (fun r => some r) = _
  unfold S_laws_FnExactMirrorPuzzle_e
  rw [v_laws_szPuzzle (by omega) (by omega) (by omega) (by omega)]
  by_cases hb : (1048576 : Int) < (p0_2.length : Int) + p0_5.length
  · rw [if_pos hb]; rfl
  · simp only [if_neg hb, Option.bind_some]
    rw [decide_eq_false (by omega)]
    simp only [cond_false]
    rw [v_laws_toPuzzle (by omega) (by omega)]
    simp only [Option.bind_some]
    obtain ⟨W, H, l, A, B, n, t, q1, q2, q3, q4⟩ := mirror_same (w := p0_0) (h := p0_1) (a := p0_3) (b := p0_4) (hs := p0_2) (ns := p0_5) (by omega) (by omega)
    rw [q1, q2]
    have g1 : decide ((1 : Int) + p0_2.length + p0_5.length < 0) = false := decide_eq_false (by omega)
    have g2 : decide ((1 : Int) + l.length + n.length < 0) = false := decide_eq_false (by omega)
    simp only [Option.bind_some, v_laws_eqPuzzle (show l.length ≤ 9223372036854775807 by omega) (show n.length ≤ 9223372036854775807 by omega), v_laws_eqPuzzle (show p0_2.length ≤ 9223372036854775807 by omega) (show p0_5.length ≤ 9223372036854775807 by omega), v_laws_markPuzzle (show p0_2.length ≤ 1099511627776 by omega) (show p0_5.length ≤ 1099511627776 by omega), v_laws_markPuzzle q3 q4, v_laws_heldPuzzle q3 q4, g1, g2]
    simp
end Go.Proofs.Ytafdeomdhkmjmaa

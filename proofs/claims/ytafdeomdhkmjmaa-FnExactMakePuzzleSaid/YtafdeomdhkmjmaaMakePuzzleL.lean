/-
  The plain laws: what the functions answer, in plain words.
-/
import Derived.Test.YtafdeomdhkmjmaaMakePuzzleV
set_option linter.unusedVariables false
set_option linter.unusedSimpArgs false
namespace Go.Proofs.Ytafdeomdhkmjmaa
open Go.BV
theorem next64 {i : Nat} (h : i < 9223372036854775807) : IntKind.i64.wrap ((i : Int) + 1) = ((i + 1 : Nat) : Int) := by rw [w64 (by omega) (by omega)]; omega
/-- A loop over the places below 'len'. -/
theorem loopF {γ : Type} {F : Nat → Nat → γ} {len : Nat} {R : γ} (hstep : ∀ n i, i < len → F (n + 1) i = F n (i + 1)) (hend : ∀ n, F (n + 1) len = R) {n : Nat} (h : len < n) : F n 0 = R := by
  have key : ∀ k i n, i + k = len → k < n → F n i = R := by
    intro k
    induction k with
    | zero =>
      intro i n h1 h2
      obtain ⟨n, rfl⟩ : ∃ m, n = m + 1 := ⟨n - 1, by omega⟩
      obtain rfl : i = len := by omega
      exact hend n
    | succ k ih =>
      intro i n h1 h2
      obtain ⟨n, rfl⟩ : ∃ m, n = m + 1 := ⟨n - 1, by omega⟩
      rw [hstep n i (by omega)]
      exact ih (i + 1) n (by omega) (by omega)
  exact key len 0 n (by omega) h
/-- A loop that ends at the first place that is not in order. -/
theorem loopX {γ : Type} {F : Nat → Nat → γ} {len : Nat} {ok : Nat → Prop} {R : γ} {X : Nat → γ} (hok : ∀ n i, i < len → (∀ j, j < i → ok j) → ok i → F (n + 1) i = F n (i + 1)) (hbad : ∀ n i, i < len → (∀ j, j < i → ok j) → ¬ ok i → F (n + 1) i = X i) (hend : (∀ j, j < len → ok j) → ∀ n, F (n + 1) len = R) {n : Nat} (h : len < n) :
    ((∀ i, i < len → ok i) ∧ F n 0 = R) ∨ (∃ i, i < len ∧ ¬ ok i ∧ (∀ j, j < i → ok j) ∧ F n 0 = X i) := by
  have key : ∀ k i n, i + k = len → k < n → (∀ j, j < i → ok j) → ((∀ i, i < len → ok i) ∧ F n i = R) ∨ (∃ j, j < len ∧ ¬ ok j ∧ (∀ j', j' < j → ok j') ∧ F n i = X j) := by
    intro k
    induction k with
    | zero =>
      intro i n h1 h2 h3
      obtain ⟨n, rfl⟩ : ∃ m, n = m + 1 := ⟨n - 1, by omega⟩
      obtain rfl : i = len := by omega
      exact .inl ⟨h3, hend h3 n⟩
    | succ k ih =>
      intro i n h1 h2 h3
      obtain ⟨n, rfl⟩ : ∃ m, n = m + 1 := ⟨n - 1, by omega⟩
      by_cases hk : ok i
      · rw [hok n i (by omega) h3 hk]
        exact ih (i + 1) n (by omega) (by omega) (fun j hj => by
          rcases Nat.lt_succ_iff_lt_or_eq.1 hj with q | q
          · exact h3 j q
          · rw [q]; exact hk)
      · exact .inr ⟨i, by omega, hk, h3, hbad n i (by omega) h3 hk⟩
  exact key len 0 n (by omega) h (fun j hj => by omega)
/-- A loop that tells whether all is in order. -/
theorem loopB {F : Nat → Nat → Option Bool} {len : Nat} {ok : Nat → Prop} (hok : ∀ n i, i < len → (∀ j, j < i → ok j) → ok i → F (n + 1) i = F n (i + 1)) (hbad : ∀ n i, i < len → (∀ j, j < i → ok j) → ¬ ok i → F (n + 1) i = some false) (hend : (∀ j, j < len → ok j) → ∀ n, F (n + 1) len = some true) {n : Nat} (h : len < n) {p : Prop} [Decidable p] (hp : p ↔ ∀ i, i < len → ok i) : F n 0 = some (decide p) := by
  rcases loopX hok hbad hend h with ⟨h1, h2⟩ | ⟨i, h1, h2, _, h3⟩
  · rw [h2, decide_eq_true (hp.2 h1)]
  · rw [h3, decide_eq_false (fun q => h2 (hp.1 q i h1))]
theorem v_spec_l1Has {l : List Int} {x : Int} (hl : l.length ≤ 9223372036854775807) : sh_spec_l1Has l x = some (decide (x ∈ l)) := by
  have h := chk (F := fun m i => F_spec_l1Has_0 (l.length + 1) (fun r => some r) m x l (l.length : Int) (i : Int)) (len := l.length) (ok := fun i => l.getD i 0 ≠ x) (good := false) (bad := fun _ => true) (fun m i hi => by
    have h1 : ((i : Int) < (l.length : Int)) := by omega
    have h2 : (0 : Int) ≤ i := by omega
    simp only [F_spec_l1Has_0, S_spec_l1Has_0, h1, h2, decide_true, cond_true, if_true, Int.toNat_natCast, next64 (show i < 9223372036854775807 by omega)]
    by_cases hx : l.getD i 0 = x
    · exact .inr ⟨fun h => h hx, by rw [decide_eq_true hx]; rfl⟩
    · exact .inl ⟨hx, by rw [decide_eq_false hx]; rfl⟩) (fun m => by simp [F_spec_l1Has_0, S_spec_l1Has_0])
  refine sh_spec_l1Has_of (n := l.length + 1) ?_
  show F_spec_l1Has_0 (l.length + 1) (fun r => some r) (l.length + 1) x l (l.length : Int) ((0 : Nat) : Int) = _
  rcases h with ⟨h1, h2⟩ | ⟨j, h1, h2, _, h3⟩
  · rw [h2]
    congr 1
    symm
    rw [decide_eq_false_iff_not, mem_getD]
    rintro ⟨i, hi, e⟩
    exact h1 i hi e
  · rw [h3]
    congr 1
    symm
    rw [decide_eq_true_eq, mem_getD]
    exact ⟨j, h1, by simpa using h2⟩
theorem v_spec_l1In {a b c : Int} : sh_spec_l1In a b c = some (decide (b ≤ a ∧ a ≤ c)) := by
  show S_spec_l1In_e a b c (fun r => some r) = _
  unfold S_spec_l1In_e
  by_cases h1 : b ≤ a
  · simp [h1]
  · simp [h1]
theorem v_slices_Index_int_int {l : List Int} {x : Int} (hl : l.length ≤ 9223372036854775807) : ∃ r, sh_slices_Index_int_int l x = some r ∧ (0 ≤ r ↔ x ∈ l) := by
  have h := chk (F := fun m i => F_slices_Index_int_int_0 (l.length + 1) (fun r => some r) m l x (l.length : Int) (i : Int)) (len := l.length) (ok := fun i => x ≠ l.getD i 0) (good := (-1 : Int)) (bad := fun i => (i : Int)) (fun m i hi => by
    have h1 : ((i : Int) < (l.length : Int)) := by omega
    have h2 : (0 : Int) ≤ i := by omega
    simp only [F_slices_Index_int_int_0, S_slices_Index_int_int_0, h1, h2, decide_true, cond_true, if_true, Int.toNat_natCast, next64 (show i < 9223372036854775807 by omega)]
    by_cases hx : x = l.getD i 0
    · exact .inr ⟨fun h => h hx, by rw [decide_eq_true hx]; rfl⟩
    · exact .inl ⟨hx, by rw [decide_eq_false hx]; rfl⟩) (fun m => by simp [F_slices_Index_int_int_0, S_slices_Index_int_int_0])
  rcases h with ⟨h1, h2⟩ | ⟨j, h1, h2, _, h3⟩
  · refine ⟨-1, sh_slices_Index_int_int_of (n := l.length + 1) h2, by simp, fun h => ?_⟩
    obtain ⟨i, hi, e⟩ := mem_getD.1 h
    exact absurd e.symm (h1 i hi)
  · refine ⟨j, sh_slices_Index_int_int_of (n := l.length + 1) h3, fun _ => ?_, fun _ => by omega⟩
    exact mem_getD.2 ⟨j, h1, by simpa using (Decidable.not_not.1 h2).symm⟩
theorem v_slices_Contains_int_int {l : List Int} {x : Int} (hl : l.length ≤ 9223372036854775807) : sh_slices_Contains_int_int l x = some (decide (x ∈ l)) := by
  obtain ⟨r, h1, h2⟩ := v_slices_Index_int_int (x := x) hl
  show S_slices_Contains_int_int_e l x (fun r => some r) = _
  unfold S_slices_Contains_int_int_e
  rw [h1]
  simp [h2]
theorem v_laws_toIntS {l : List Int} (hl : l.length ≤ 1099511627776) : sh_laws_toIntS l = some l := by
  obtain ⟨s, h1, h2⟩ := bld (F := fun m i s => F_laws_toIntS_0 (l.length + 1) (fun r => some r) m l s (i : Int)) (len := l.length) (out := id) (Inv := fun i s => s.length = l.length ∧ s.take i = l.take i) (fun m i s hi hs => by
    have h1 : ((i : Int) < (l.length : Int)) := by omega
    have h2 : (0 : Int) ≤ i := by omega
    have h3 : ((i : Int) < (s.length : Int)) := by rw [hs.1]; exact h1
    refine ⟨s.set i (l.getD i 0), ⟨by simpa using hs.1, ?_⟩, ?_⟩
    · rw [List.take_add_one, List.take_add_one, List.take_set_of_le (Nat.le_refl _), hs.2]
      simp [hs.1, hi]
    · simp only [F_laws_toIntS_0, S_laws_toIntS_0, h1, h2, h3, decide_true, cond_true, if_true, Int.toNat_natCast, next64 (show i < 9223372036854775807 by omega)]) (fun m s _ => by simp [F_laws_toIntS_0, S_laws_toIntS_0]) l.length 0 (List.replicate l.length 0) (l.length + 1) (by omega) (by omega) ⟨by simp, by simp⟩
  have he : s = l := by
    have := h1.2
    rwa [List.take_length, show l.length = s.length from h1.1.symm, List.take_length] at this
  subst he
  refine sh_laws_toIntS_of (n := s.length + 1) ?_
  show S_laws_toIntS_e s (F_laws_toIntS_0 (s.length + 1) (fun r => some r) (s.length + 1)) = _
  unfold S_laws_toIntS_e
  rw [if_pos (by omega), if_pos (by omega)]
  exact h2
/-- A board of the right size whose holes rise. -/
structure GoodB (w h : Int) (hs : List Int) : Prop where
  w1 : 1 ≤ w
  w8 : w ≤ 8
  h1 : 1 ≤ h
  h8 : h ≤ 8
  few : (hs.length : Int) < w * h
  lie : ∀ x ∈ hs, 0 ≤ x ∧ x < w * h
  rise : ∀ i, i + 1 < hs.length → hs.getD i 0 < hs.getD (i + 1) 0
def GoodL (a b : Int) : Prop := 1 ≤ b ∧ b ≤ 5 ∧ 0 ≤ a ∧ a ≤ b
instance {a b : Int} : Decidable (GoodL a b) := by unfold GoodL; infer_instance
theorem mul8 {w h : Int} (a : 1 ≤ w) (b : w ≤ 8) (c : 1 ≤ h) (d : h ≤ 8) : 1 ≤ w * h ∧ w * h ≤ 64 := by
  have h1 : w = 1 ∨ w = 2 ∨ w = 3 ∨ w = 4 ∨ w = 5 ∨ w = 6 ∨ w = 7 ∨ w = 8 := by omega
  rcases h1 with rfl | rfl | rfl | rfl | rfl | rfl | rfl | rfl <;> omega
theorem v_spec_boSize {w h : Int} : sh_spec_boSize w h = some (decide ((1 ≤ w ∧ w ≤ 8) ∧ (1 ≤ h ∧ h ≤ 8))) := by
  show S_spec_boSize_e w h (fun r => some r) = _
  unfold S_spec_boSize_e
  rw [v_spec_l1In, v_spec_l1In]
  by_cases h1 : 1 ≤ w ∧ w ≤ 8
  · simp [h1]
  · simp only [Option.bind_some, decide_eq_false h1, cond_false]
    congr 1
    symm
    rw [decide_eq_false_iff_not]
    exact fun h => h1 h.1
theorem v_spec_boLeaper {a b : Int} : sh_spec_boLeaper a b = some (decide (GoodL a b)) := by
  show S_spec_boLeaper_e a b (fun r => some r) = _
  unfold S_spec_boLeaper_e
  rw [v_spec_l1In, v_spec_l1In]
  by_cases h1 : 1 ≤ b ∧ b ≤ 5
  · simp only [Option.bind_some, decide_eq_true h1, cond_true]
    congr 1
    rw [decide_eq_decide]
    unfold GoodL
    constructor
    · intro h; exact ⟨h1.1, h1.2, h.1, h.2⟩
    · intro h; exact ⟨h.2.2.1, h.2.2.2⟩
  · simp only [Option.bind_some, decide_eq_false h1, cond_false]
    congr 1
    symm
    rw [decide_eq_false_iff_not]
    exact fun h => h1 ⟨h.1, h.2.1⟩
theorem v_impl_IsLeaper {a b : Int} : sh_impl_IsLeaper a b = some (decide (GoodL a b)) := by
  show S_impl_IsLeaper_e a b (fun r => some r) = _
  unfold S_impl_IsLeaper_e
  by_cases h1 : a ≥ 0 <;> by_cases h2 : a ≤ b <;> by_cases h3 : b ≥ 1 <;> by_cases h4 : b ≤ 5 <;> simp [GoodL, h1, h2, h3, h4] <;> omega
theorem v_impl_sized {a : Int} : sh_impl_sized a = some (decide (1 ≤ a ∧ a ≤ 8)) := by
  show S_impl_sized_e a (fun r => some r) = _
  unfold S_impl_sized_e
  by_cases h1 : 1 ≤ a
  · simp [h1]
  · simp [h1]
theorem v_spec_l1All {l : List Int} {a b : Int} (hl : l.length ≤ 9223372036854775807) : sh_spec_l1All l a b = some (decide (∀ x ∈ l, a ≤ x ∧ x ≤ b)) := by
  have h := chk (F := fun m i => F_spec_l1All_0 (l.length + 1) (fun r => some r) m a b l (l.length : Int) (i : Int)) (len := l.length) (ok := fun i => a ≤ l.getD i 0 ∧ l.getD i 0 ≤ b) (good := true) (bad := fun _ => false) (fun m i hi => by
    have h1 : ((i : Int) < (l.length : Int)) := by omega
    have h2 : (0 : Int) ≤ i := by omega
    simp only [F_spec_l1All_0, S_spec_l1All_0, h1, h2, decide_true, cond_true, if_true, Int.toNat_natCast, next64 (show i < 9223372036854775807 by omega), v_spec_l1In, Option.bind_some]
    by_cases hx : a ≤ l.getD i 0 ∧ l.getD i 0 ≤ b
    · exact .inl ⟨hx, by rw [decide_eq_true hx]; rfl⟩
    · exact .inr ⟨hx, by rw [decide_eq_false hx]; rfl⟩) (fun m => by simp [F_spec_l1All_0, S_spec_l1All_0])
  refine sh_spec_l1All_of (n := l.length + 1) ?_
  show F_spec_l1All_0 (l.length + 1) (fun r => some r) (l.length + 1) a b l (l.length : Int) ((0 : Nat) : Int) = _
  rcases h with ⟨h1, h2⟩ | ⟨j, h1, h2, _, h3⟩
  · rw [h2]
    congr 1
    symm
    rw [decide_eq_true_eq]
    intro x hx
    obtain ⟨i, hi, rfl⟩ := mem_getD.1 hx
    exact h1 i hi
  · rw [h3]
    congr 1
    symm
    rw [decide_eq_false_iff_not]
    exact fun h => h2 (h _ (getD_mem h1))
theorem v_spec_boGood {w h : Int} {hs : List Int} (hl : hs.length ≤ 1099511627776) : ∃ b, sh_spec_boGood w h hs = some b ∧ (b = true ↔ GoodB w h hs) := by
  by_cases hw : (1 ≤ w ∧ w ≤ 8) ∧ (1 ≤ h ∧ h ≤ 8)
  · obtain ⟨⟨w1, w8⟩, h1, h8⟩ := hw
    obtain ⟨m1, m64⟩ := mul8 w1 w8 h1 h8
    have hm : IntKind.i64.wrap (w * h) = w * h := w64 (by omega) (by omega)
    have hm1 : IntKind.i64.wrap (w * h - 1) = w * h - 1 := w64 (by omega) (by omega)
    have key : ∀ n, F_spec_boGood n w h hs (fun r => some r) = (bif decide ((hs.length : Int) ≥ w * h) then some false else (bif !(decide (∀ x ∈ hs, 0 ≤ x ∧ x ≤ w * h - 1)) then some false else F_spec_boGood_0 n (fun r => some r) n 1 w h hs)) := by
      intro n
      show S_spec_boGood_e w h hs _ _ = _
      unfold S_spec_boGood_e
      rw [v_spec_boSize, hm, hm1, v_spec_l1All (by omega)]
      simp only [Option.bind_some, decide_eq_true (show (1 ≤ w ∧ w ≤ 8) ∧ (1 ≤ h ∧ h ≤ 8) from ⟨⟨w1, w8⟩, h1, h8⟩), Bool.not_true, cond_false]
    by_cases hf : (hs.length : Int) ≥ w * h
    · refine ⟨false, sh_spec_boGood_of (n := 0) (by rw [key, decide_eq_true hf]; rfl), by simp, fun g => ?_⟩
      have := g.few; omega
    · by_cases hx : ∀ x ∈ hs, 0 ≤ x ∧ x ≤ w * h - 1
      · have hc := chk (F := fun m i => F_spec_boGood_0 (hs.length - 1 + 1) (fun r => some r) m ((i : Int) + 1) w h hs) (len := hs.length - 1) (ok := fun i => hs.getD i 0 < hs.getD (i + 1) 0) (good := true) (bad := fun _ => false) (fun m i hi => by
          have q1 : ((i : Int) + 1 < (hs.length : Int)) := by omega
          have q2 : (0 : Int) ≤ i := by omega
          have q3 : (i : Int) < (hs.length : Int) := by omega
          have q4 : (0 : Int) ≤ (i : Int) + 1 := by omega
          have q5 : IntKind.i64.wrap ((i : Int) + 1 - 1) = i := by rw [w64 (by omega) (by omega)]; omega
          have q6 : IntKind.i64.wrap ((i : Int) + 1 + 1) = ((i + 1 : Nat) : Int) + 1 := by rw [w64 (by omega) (by omega)]; omega
          have q7 : ((i : Int) + 1).toNat = i + 1 := by omega
          simp only [F_spec_boGood_0, S_spec_boGood_0, q1, q2, q3, q4, q5, q6, q7, decide_true, cond_true, if_true, Int.toNat_natCast]
          by_cases hx : hs.getD i 0 < hs.getD (i + 1) 0
          · exact .inl ⟨hx, by rw [decide_eq_false (by omega)]; rfl⟩
          · exact .inr ⟨hx, by rw [decide_eq_true (by omega)]; rfl⟩) (fun m => by
            have q : ¬ (((hs.length - 1 : Nat) : Int) + 1 < (hs.length : Int)) := by omega
            simp only [F_spec_boGood_0, S_spec_boGood_0, q, decide_false, cond_false])
        rcases hc with ⟨q1, q2⟩ | ⟨j, q1, q2, _, q3⟩
        · refine ⟨true, sh_spec_boGood_of (n := hs.length - 1 + 1) (by rw [key, decide_eq_false hf, decide_eq_true hx]; exact q2), fun _ => ?_, fun _ => rfl⟩
          exact ⟨w1, w8, h1, h8, by omega, fun x hm => by have := hx x hm; omega, fun i hi => q1 i (by omega)⟩
        · refine ⟨false, sh_spec_boGood_of (n := hs.length - 1 + 1) (by rw [key, decide_eq_false hf, decide_eq_true hx]; exact q3), by simp, fun g => ?_⟩
          exact absurd (g.rise j (by omega)) q2
      · refine ⟨false, sh_spec_boGood_of (n := 0) (by rw [key, decide_eq_false hf, decide_eq_false hx]; rfl), by simp, fun g => ?_⟩
        exact absurd (fun x hm => by have := g.lie x hm; omega) hx
  · refine ⟨false, sh_spec_boGood_of (n := 0) ?_, by simp, fun g => absurd ⟨⟨g.w1, g.w8⟩, g.h1, g.h8⟩ hw⟩
    show S_spec_boGood_e w h hs _ _ = _
    unfold S_spec_boGood_e
    rw [v_spec_boSize, decide_eq_false hw]
    rfl
theorem v_impl_IsBoard {w h : Int} {hs : List Int} (hl : hs.length ≤ 1099511627776) : ∃ b, sh_impl_IsBoard w h hs = some b ∧ (b = true ↔ GoodB w h hs) := by
  by_cases hw1 : 1 ≤ w ∧ w ≤ 8
  · by_cases hw2 : 1 ≤ h ∧ h ≤ 8
    · obtain ⟨w1, w8⟩ := hw1
      obtain ⟨h1, h8⟩ := hw2
      obtain ⟨m1, m64⟩ := mul8 w1 w8 h1 h8
      have hm : IntKind.i64.wrap (w * h) = w * h := w64 (by omega) (by omega)
      have key : ∀ n, F_impl_IsBoard n w h hs (fun r => some r) = (bif decide ((hs.length : Int) ≥ w * h) then some false else F_impl_IsBoard_0 n (fun r => some r) n hs (hs.length : Int) ((0 : Nat) : Int) w h) := by
        intro n
        show S_impl_IsBoard_e w h hs _ _ = _
        unfold S_impl_IsBoard_e
        rw [v_impl_sized, v_impl_sized, hm]
        simp only [Option.bind_some, decide_eq_true (show (1 ≤ w ∧ w ≤ 8) from ⟨w1, w8⟩), decide_eq_true (show (1 ≤ h ∧ h ≤ 8) from ⟨h1, h8⟩), Bool.not_true, cond_false]
        rfl
      by_cases hf : (hs.length : Int) ≥ w * h
      · refine ⟨false, sh_impl_IsBoard_of (n := 0) (by rw [key, decide_eq_true hf]; rfl), by simp, fun g => ?_⟩
        have := g.few; omega
      · have hc := chk (F := fun m i => F_impl_IsBoard_0 (hs.length + 1) (fun r => some r) m hs (hs.length : Int) (i : Int) w h) (len := hs.length) (ok := fun i => (0 ≤ hs.getD i 0 ∧ hs.getD i 0 < w * h) ∧ (0 < i → hs.getD (i - 1) 0 < hs.getD i 0)) (good := true) (bad := fun _ => false) (fun m i hi => by
          have q1 : ((i : Int) < (hs.length : Int)) := by omega
          have q2 : (0 : Int) ≤ i := by omega
          simp only [F_impl_IsBoard_0, S_impl_IsBoard_0, q1, q2, decide_true, cond_true, if_true, Int.toNat_natCast, hm, next64 (show i < 9223372036854775807 by omega)]
          by_cases r1 : hs.getD i 0 < 0
          · exact .inr ⟨fun h => by omega, by rw [decide_eq_true r1]; rfl⟩
          · rw [decide_eq_false r1]
            simp only [cond_false]
            by_cases r2 : hs.getD i 0 ≥ w * h
            · exact .inr ⟨fun h => by omega, by rw [decide_eq_true r2]; rfl⟩
            · rw [decide_eq_false r2]
              simp only [cond_false]
              by_cases r3 : 0 < i
              · have q5 : IntKind.i64.wrap ((i : Int) - 1) = ((i - 1 : Nat) : Int) := by rw [w64 (by omega) (by omega)]; omega
                have q6 : (0 : Int) ≤ ((i - 1 : Nat) : Int) := by omega
                have q7 : ((i - 1 : Nat) : Int) < (hs.length : Int) := by omega
                rw [decide_eq_true (show (i : Int) > 0 by omega)]
                simp only [cond_true, q5, q6, q7, if_true, Int.toNat_natCast]
                by_cases r4 : hs.getD (i - 1) 0 < hs.getD i 0
                · exact .inl ⟨⟨⟨by omega, by omega⟩, fun _ => r4⟩, by rw [decide_eq_false (by omega)]; rfl⟩
                · exact .inr ⟨fun h => r4 (h.2 r3), by rw [decide_eq_true (by omega)]; rfl⟩
              · rw [decide_eq_false (show ¬ (i : Int) > 0 by omega)]
                exact .inl ⟨⟨⟨by omega, by omega⟩, fun h => absurd h r3⟩, rfl⟩) (fun m => by
            have q : ¬ ((hs.length : Int) < (hs.length : Int)) := by omega
            simp only [F_impl_IsBoard_0, S_impl_IsBoard_0, q, decide_false, cond_false])
        rcases hc with ⟨q1, q2⟩ | ⟨j, q1, q2, _, q3⟩
        · refine ⟨true, sh_impl_IsBoard_of (n := hs.length + 1) (by rw [key, decide_eq_false hf]; exact q2), fun _ => ?_, fun _ => rfl⟩
          refine ⟨w1, w8, h1, h8, by omega, fun x hm => ?_, fun i hi => ?_⟩
          · obtain ⟨i, hi, rfl⟩ := mem_getD.1 hm
            exact (q1 i hi).1
          · exact (q1 (i + 1) hi).2 (by omega)
        · refine ⟨false, sh_impl_IsBoard_of (n := hs.length + 1) (by rw [key, decide_eq_false hf]; exact q3), by simp, fun g => ?_⟩
          refine absurd ⟨g.lie _ (getD_mem q1), fun hj => ?_⟩ q2
          have := g.rise (j - 1) (by omega)
          rwa [show j - 1 + 1 = j by omega] at this
    · refine ⟨false, sh_impl_IsBoard_of (n := 0) ?_, by simp, fun g => absurd ⟨g.h1, g.h8⟩ hw2⟩
      show S_impl_IsBoard_e w h hs _ _ = _
      unfold S_impl_IsBoard_e
      rw [v_impl_sized, v_impl_sized, decide_eq_true hw1, decide_eq_false hw2]
      rfl
  · refine ⟨false, sh_impl_IsBoard_of (n := 0) ?_, by simp, fun g => absurd ⟨g.w1, g.w8⟩ hw1⟩
    show S_impl_IsBoard_e w h hs _ _ = _
    unfold S_impl_IsBoard_e
    rw [v_impl_sized, decide_eq_false hw1]
    rfl
/-- The cells below n that are there. -/
def cellsL (n : Nat) (hs : List Int) : List Int := ((List.range n).map fun i : Nat => (i : Int)).filter fun c => decide (c ∉ hs)
theorem cellsL_succ (n : Nat) (hs : List Int) : cellsL (n + 1) hs = cellsL n hs ++ (if (n : Int) ∈ hs then [] else [(n : Int)]) := by
  unfold cellsL
  rw [List.range_succ, List.map_append, List.filter_append]
  congr 1
  by_cases h : (n : Int) ∈ hs <;> simp [h]
theorem cellsL_le (n : Nat) (hs : List Int) : (cellsL n hs).length ≤ n := by
  unfold cellsL
  refine Nat.le_trans (List.length_filter_le ..) ?_
  simp
/-- The cell lies on the board and is there. -/
def hasP (w h : Int) (hs : List Int) (c : Int) : Prop := 0 ≤ c ∧ c < w * h ∧ c ∉ hs
instance {w h c : Int} {hs : List Int} : Decidable (hasP w h hs c) := by unfold hasP; infer_instance
theorem v_spec_boHas {w h c : Int} {hs : List Int} (m1 : 1 ≤ w * h) (m64 : w * h ≤ 64) (hl : hs.length ≤ 1099511627776) : sh_spec_boHas w h hs c = some (decide (hasP w h hs c)) := by
  show S_spec_boHas_e w h hs c (fun r => some r) = _
  unfold S_spec_boHas_e
  rw [w64 (n := w * h) (by omega) (by omega), w64 (by omega) (by omega), v_spec_l1In, v_spec_l1Has (by omega)]
  simp only [Option.bind_some]
  by_cases h1 : 0 ≤ c ∧ c ≤ w * h - 1
  · rw [decide_eq_true h1, cond_true, ← decide_not]
    congr 1
    rw [decide_eq_decide]
    exact ⟨fun h => ⟨h1.1, by omega, h⟩, fun h => h.2.2⟩
  · rw [decide_eq_false h1, cond_false]
    congr 1
    symm
    rw [decide_eq_false_iff_not]
    exact fun h => h1 ⟨h.1, by have := h.2.1; omega⟩
theorem v_impl_Board_has {w h c : Int} {hs : List Int} (m1 : 1 ≤ w * h) (m64 : w * h ≤ 64) (hl : hs.length ≤ 1099511627776) : sh_impl_Board_has w h hs c = some (decide (hasP w h hs c)) := by
  show S_impl_Board_has_e w h hs c (fun r => some r) = _
  unfold S_impl_Board_has_e
  rw [w64 (n := w * h) (by omega) (by omega), v_slices_Contains_int_int (by omega)]
  simp only [Option.bind_some]
  by_cases h1 : c ≥ 0
  · rw [decide_eq_true h1, cond_true]
    by_cases h2 : c < w * h
    · rw [decide_eq_true h2, cond_true, ← decide_not]
      congr 1
      rw [decide_eq_decide]
      exact ⟨fun h => ⟨h1, h2, h⟩, fun h => h.2.2⟩
    · rw [decide_eq_false h2, cond_false]
      congr 1
      symm
      rw [decide_eq_false_iff_not]
      exact fun h => h2 h.2.1
  · rw [decide_eq_false h1, cond_false]
    congr 1
    symm
    rw [decide_eq_false_iff_not]
    exact fun h => h1 h.1
theorem v_spec_boCells {w h : Int} {hs : List Int} (m1 : 1 ≤ w * h) (m64 : w * h ≤ 64) (hl : hs.length ≤ 1099511627776) : sh_spec_boCells w h hs = some (cellsL (w * h).toNat hs) := by
  have hm : IntKind.i64.wrap (w * h) = w * h := w64 (by omega) (by omega)
  obtain ⟨s, h1, h2⟩ := bld (F := fun m i s => F_spec_boCells_0 ((w * h).toNat + 1) (fun r => some r) m s (i : Int) w h hs) (len := (w * h).toNat) (out := id) (Inv := fun i s => s = cellsL i hs) (fun m i s hi hs' => by
    have q1 : (i : Int) < w * h := by omega
    refine ⟨cellsL (i + 1) hs, rfl, ?_⟩
    simp only [F_spec_boCells_0, S_spec_boCells_0, F_spec_boCells_1, S_spec_boCells_1, hm, q1, decide_true, cond_true, v_spec_boHas m1 m64 hl, Option.bind_some, next64 (show i < 9223372036854775807 by omega)]
    have hle := cellsL_le i hs
    by_cases hx : (i : Int) ∈ hs
    · rw [decide_eq_false (fun hh => hh.2.2 hx), cond_false, hs', cellsL_succ, if_pos hx, List.append_nil]
    · rw [decide_eq_true (show hasP w h hs i from ⟨by omega, q1, hx⟩), cond_true, hs', cellsL_succ, if_neg hx, if_pos (by simp; omega)]) (fun m s hs' => by
      have q : ¬ (((w * h).toNat : Int) < w * h) := by omega
      simp only [F_spec_boCells_0, S_spec_boCells_0, hm, q, decide_false, cond_false, id]) (w * h).toNat 0 [] ((w * h).toNat + 1) (by omega) (by omega) rfl
  rw [← h1]
  refine sh_spec_boCells_of (n := (w * h).toNat + 1) ?_
  exact h2
theorem v_spec_boTwo {w h a b : Int} {hs : List Int} (hl : hs.length ≤ 1099511627776) : ∃ r, sh_spec_boTwo w h hs a b = some r ∧ (r = true ↔ GoodB w h hs ∧ GoodL a b) := by
  obtain ⟨r1, h1, h2⟩ := v_spec_boGood (w := w) (h := h) hl
  show ∃ r, S_spec_boTwo_e w h hs a b (fun r => some r) = some r ∧ _
  unfold S_spec_boTwo_e
  rw [h1, v_spec_boLeaper]
  cases r1 with
  | true => exact ⟨_, rfl, by simp [← h2]⟩
  | false => exact ⟨_, rfl, by simp [← h2]⟩
theorem mem_take_succ {ns : List Int} {i : Nat} (hi : i < ns.length) {x : Int} : x ∈ ns.take (i + 1) ↔ x ∈ ns.take i ∨ x = ns.getD i 0 := by
  rw [List.take_add_one, List.mem_append, getD_lt hi]
  simp [hi]
theorem v_laws_eqIntS {l m : List Int} (hl : l.length ≤ 9223372036854775807) : sh_laws_eqIntS l m = some (decide (l = m)) := by
  have key : ∀ n, F_laws_eqIntS n l m (fun r => some r) = (bif !decide ((l.length : Int) = (m.length : Int)) then some false else F_laws_eqIntS_0 n (fun r => some r) n l m ((0 : Nat) : Int)) := fun n => rfl
  by_cases he : l.length = m.length
  · have h := chk (F := fun k i => F_laws_eqIntS_0 (l.length + 1) (fun r => some r) k l m (i : Int)) (len := l.length) (ok := fun i => l.getD i 0 = m.getD i 0) (good := true) (bad := fun _ => false) (fun k i hi => by
      have h1 : ((i : Int) < (l.length : Int)) := by omega
      have h2 : (0 : Int) ≤ i := by omega
      have h3 : ((i : Int) < (m.length : Int)) := by omega
      simp only [F_laws_eqIntS_0, S_laws_eqIntS_0, h1, h2, h3, decide_true, cond_true, if_true, Int.toNat_natCast, next64 (show i < 9223372036854775807 by omega)]
      by_cases hx : l.getD i 0 = m.getD i 0
      · exact .inl ⟨hx, by rw [decide_eq_true hx]; rfl⟩
      · exact .inr ⟨hx, by rw [decide_eq_false hx]; rfl⟩) (fun k => by simp [F_laws_eqIntS_0, S_laws_eqIntS_0])
    refine sh_laws_eqIntS_of (n := l.length + 1) ?_
    rw [key, decide_eq_true (show (l.length : Int) = (m.length : Int) by omega)]
    show F_laws_eqIntS_0 (l.length + 1) (fun r => some r) (l.length + 1) l m ((0 : Nat) : Int) = _
    rcases h with ⟨h1, h2⟩ | ⟨j, h1, h2, _, h3⟩
    · rw [h2]
      congr 1
      symm
      rw [decide_eq_true_eq]
      refine List.ext_getElem he fun i hi hi' => ?_
      have := h1 i hi
      rwa [getD_lt hi, getD_lt hi'] at this
    · rw [h3]
      congr 1
      symm
      rw [decide_eq_false_iff_not]
      rintro rfl
      exact h2 rfl
  · refine sh_laws_eqIntS_of (n := 0) ?_
    rw [key, decide_eq_false (show ¬ (l.length : Int) = (m.length : Int) by omega), decide_eq_false (show ¬ l = m from fun e => he (by rw [e]))]
    rfl
theorem v_laws_eqBoard {w h w' h' : Int} {l l' : List Int} (hl : l.length ≤ 9223372036854775807) : sh_laws_eqBoard w h l w' h' l' = some (decide (w = w' ∧ h = h' ∧ l = l')) := by
  show S_laws_eqBoard_e w h l w' h' l' (fun r => some r) = _
  unfold S_laws_eqBoard_e
  rw [v_laws_eqIntS hl]
  by_cases h1 : w = w' <;> by_cases h2 : h = h' <;> by_cases h3 : l = l' <;> simp [h1, h2, h3]
theorem v_laws_eqLeaper {a b a' b' : Int} : sh_laws_eqLeaper a b a' b' = some (decide (a = a' ∧ b = b')) := by
  show S_laws_eqLeaper_e a b a' b' (fun r => some r) = _
  unfold S_laws_eqLeaper_e
  by_cases h1 : a = a' <;> by_cases h2 : b = b' <;> simp [h1, h2]
theorem v_laws_eqPuzzle {w h a b w' h' a' b' : Int} {l n l' n' : List Int} (hl : l.length ≤ 9223372036854775807) (hn : n.length ≤ 9223372036854775807) : sh_laws_eqPuzzle w h l a b n w' h' l' a' b' n' = some (decide ((w = w' ∧ h = h' ∧ l = l') ∧ (a = a' ∧ b = b') ∧ n = n')) := by
  show S_laws_eqPuzzle_e w h l a b n w' h' l' a' b' n' (fun r => some r) = _
  unfold S_laws_eqPuzzle_e
  rw [v_laws_eqBoard hl, v_laws_eqLeaper, v_laws_eqIntS hn]
  by_cases h1 : w = w' ∧ h = h' ∧ l = l' <;> by_cases h2 : a = a' ∧ b = b' <;> by_cases h3 : n = n' <;> simp only [h1, h2, h3, decide_true, decide_false, Option.bind_some, Bool.not_true, Bool.not_false, cond_true, cond_false, and_true, true_and, and_false, false_and] <;> rfl
theorem v_laws_szIntS {l : List Int} {n : Int} (hl : l.length ≤ 9223372036854775807) (h0 : 0 ≤ n) (h1 : n ≤ 1048576) : sh_laws_szIntS l n = some (if n < l.length then -1 else n - l.length) := by
  show S_laws_szIntS_e l n (fun r => some r) = _
  unfold S_laws_szIntS_e
  rw [w64 (by omega) (by omega)]
  by_cases h : n < (l.length : Int)
  · rw [if_pos h, decide_eq_true (by omega)]; rfl
  · rw [if_neg h, decide_eq_false (by omega)]; rfl
theorem v_laws_szBoard {w h : Int} {l : List Int} {n : Int} (hl : l.length ≤ 9223372036854775807) (h0 : 0 ≤ n) (h1 : n ≤ 1048576) : sh_laws_szBoard w h l n = some (if n < l.length then -1 else n - l.length) := by
  show S_laws_szBoard_e w h l n (fun r => some r) = _
  unfold S_laws_szBoard_e
  rw [v_laws_szIntS hl h0 h1]
  by_cases h : n < (l.length : Int)
  · simp [h]
  · simp only [if_neg h, Option.bind_some]
    rw [decide_eq_false (by omega)]; rfl
theorem v_laws_toBoard {w h : Int} {l : List Int} (hl : l.length ≤ 1099511627776) : sh_laws_toBoard w h l = some (w, h, l) := by
  show S_laws_toBoard_e w h l (fun r1 r2 r3 => some (r1, r2, r3)) = _
  unfold S_laws_toBoard_e
  rw [v_laws_toIntS hl]; rfl
theorem v_laws_toLeaper {a b : Int} : sh_laws_toLeaper a b = some (a, b) := rfl
/-- Numbers that rise from one on. -/
def ramp (m : Int) (n : Nat) : List Int := (List.range n).map fun i : Nat => m + i
theorem ramp_len {m : Int} {n : Nat} : (ramp m n).length = n := by simp [ramp]
theorem ramp_succ {m : Int} {n : Nat} : ramp m (n + 1) = ramp m n ++ [m + n] := by simp [ramp, List.range_succ]
theorem ramp_get {m : Int} {n i : Nat} (h : i < n) : (ramp m n).getD i 0 = m + i := by simp [ramp, List.getD_eq_getElem?_getD, h]
theorem v_laws_markIntS {l : List Int} {m : Int} (h0 : 0 ≤ m) (h1 : m + l.length ≤ 9223372036854775807) : sh_laws_markIntS l m = some (m + l.length, ramp m l.length) := by
  obtain ⟨s, p1, p2⟩ := bld (F := fun k i s => F_laws_markIntS_0 (l.length + 1) (fun r1 r2 => some (r1, r2)) k s (m + (i : Int)) (i : Int)) (len := l.length) (out := fun s => (m + (l.length : Int), s)) (Inv := fun i s => s.length = l.length ∧ s.take i = ramp m i) (fun k i s hi hs => by
    have h1 : ((i : Int) < (s.length : Int)) := by rw [hs.1]; omega
    have h2 : (0 : Int) ≤ i := by omega
    refine ⟨s.set i (m + i), ⟨by simpa using hs.1, ?_⟩, ?_⟩
    · rw [List.take_add_one, List.take_set_of_le (Nat.le_refl _), hs.2, ramp_succ]
      simp [hs.1, hi]
    · have e : IntKind.i64.wrap (m + (i : Int) + 1) = m + ((i + 1 : Nat) : Int) := by rw [w64 (by omega) (by omega)]; omega
      simp only [F_laws_markIntS_0, S_laws_markIntS_0, h1, h2, decide_true, cond_true, if_true, Int.toNat_natCast, e, next64 (show i < 9223372036854775807 by omega)]) (fun k s hs => by simp [F_laws_markIntS_0, S_laws_markIntS_0, hs.1]) l.length 0 l (l.length + 1) (by omega) (by omega) ⟨rfl, rfl⟩
  have he : s = ramp m l.length := by
    have := p1.2
    rwa [← p1.1, List.take_length, p1.1] at this
  subst he
  refine sh_laws_markIntS_of (n := l.length + 1) ?_
  show S_laws_markIntS_e l m (F_laws_markIntS_0 (l.length + 1) (fun r1 r2 => some (r1, r2)) (l.length + 1)) = _
  unfold S_laws_markIntS_e
  simpa using p2
theorem v_laws_heldIntS {m : Int} {n : Nat} (h0 : 0 ≤ m) (h1 : m + n ≤ 9223372036854775807) : sh_laws_heldIntS (ramp m n) m = some (m + n) := by
  refine sh_laws_heldIntS_of (n := n + 1) ?_
  show S_laws_heldIntS_e (ramp m n) m (F_laws_heldIntS_0 (n + 1) (fun r1 => some r1) (n + 1)) = _
  unfold S_laws_heldIntS_e
  rcases chk (F := fun k i => F_laws_heldIntS_0 (n + 1) (fun r1 => some r1) k (ramp m n) (m + (i : Int)) (i : Int)) (len := n) (ok := fun i => True) (good := m + n) (bad := fun _ => 0) (fun k i hi => by
    have q1 : ((i : Int) < ((ramp m n).length : Int)) := by rw [ramp_len]; omega
    have q2 : (0 : Int) ≤ i := by omega
    refine .inl ⟨trivial, ?_⟩
    have e : IntKind.i64.wrap (m + (i : Int) + 1) = m + ((i + 1 : Nat) : Int) := by rw [w64 (by omega) (by omega)]; omega
    simp only [F_laws_heldIntS_0, S_laws_heldIntS_0, q1, q2, decide_true, cond_true, if_true, Int.toNat_natCast, ramp_get hi, Bool.not_true, cond_false, e, next64 (show i < 9223372036854775807 by omega)]) (fun k => by simp [F_laws_heldIntS_0, S_laws_heldIntS_0, ramp_len]) with ⟨_, h2⟩ | ⟨j, hj, h2, _⟩
  · simpa using h2
  · exact absurd trivial h2
/-- A board, a leaper and numbers: written, and found so again. -/
theorem v_laws_markPuzzle {w h a b : Int} {l n : List Int} (h1 : l.length ≤ 1099511627776) (h2 : n.length ≤ 1099511627776) : sh_laws_markPuzzle w h l a b n 1 = some ((1 : Int) + l.length + n.length, w, h, ramp 1 l.length, a, b, ramp (1 + l.length) n.length) := by
  show S_laws_markPuzzle_e w h l a b n 1 (fun r1 r2 r3 r4 r5 r6 r7 => some (r1, r2, r3, r4, r5, r6, r7)) = _
  have : sh_laws_markBoard w h l 1 = some ((1 : Int) + l.length, w, h, ramp 1 l.length) := by
    show S_laws_markBoard_e w h l 1 (fun r1 r2 r3 r4 => some (r1, r2, r3, r4)) = _
    simp [S_laws_markBoard_e, v_laws_markIntS (l := l) (m := 1) (by omega) (by omega)]
  simp [S_laws_markPuzzle_e, this, v_laws_markIntS (l := n) (m := 1 + l.length) (by omega) (by omega)]
theorem v_laws_heldPuzzle {w h a b : Int} {i j : Nat} (h1 : i ≤ 1099511627776) (h2 : j ≤ 1099511627776) : sh_laws_heldPuzzle w h (ramp 1 i) a b (ramp (1 + i) j) 1 = some ((1 : Int) + i + j) := by
  show S_laws_heldPuzzle_e w h (ramp 1 i) a b (ramp (1 + i) j) 1 (fun r => some r) = _
  have q1 : decide ((1 : Int) + i < 0) = false := decide_eq_false (by omega)
  have q2 : decide ((1 : Int) + i + j < 0) = false := decide_eq_false (by omega)
  have : sh_laws_heldBoard w h (ramp 1 i) 1 = some ((1 : Int) + i) := by
    show S_laws_heldBoard_e w h (ramp 1 i) 1 (fun r => some r) = _
    simp only [S_laws_heldBoard_e, v_laws_heldIntS (m := 1) (n := i) (by omega) (by omega), Option.bind_some, q1, cond_false]
  simp only [S_laws_heldPuzzle_e, this, Option.bind_some, q1, cond_false, v_laws_heldIntS (m := 1 + i) (n := j) (by omega) (by omega), q2]
theorem v_laws_markBoard {w h : Int} {l : List Int} (h1 : l.length ≤ 1099511627776) : sh_laws_markBoard w h l 1 = some ((1 : Int) + l.length, w, h, ramp 1 l.length) := by
  show S_laws_markBoard_e w h l 1 (fun r1 r2 r3 r4 => some (r1, r2, r3, r4)) = _
  unfold S_laws_markBoard_e
  rw [v_laws_markIntS (by omega) (by omega)]; rfl
theorem v_clone {l : List Int} (h : l.length ≤ 1099511627776) : sh_slices_Clone_int_int l = some l := by
  show (if _ then _ else _) = _
  rw [if_pos h]
theorem v_spec_l1Own {l : List Int} (h : l.length ≤ 1099511627776) : sh_spec_l1Own l = some l := by
  show S_spec_l1Own_e l (fun r => some r) = _
  unfold S_spec_l1Own_e
  rw [List.nil_append, if_pos h]
theorem v_impl_Puzzle_own {w h a b : Int} {hs ns : List Int} (hl : hs.length ≤ 1099511627776) (hn : ns.length ≤ 1099511627776) : sh_impl_Puzzle_own w h hs a b ns = some (w, h, hs, a, b, ns) := by
  show S_impl_Puzzle_own_e w h hs a b ns (fun r1 r2 r3 r4 r5 r6 => some (r1, r2, r3, r4, r5, r6)) = _
  simp only [S_impl_Puzzle_own_e, v_clone hn, v_clone hl, Option.bind_some]
theorem mem_cellsL {n : Nat} {hs : List Int} {c : Int} : c ∈ cellsL n hs ↔ 0 ≤ c ∧ c < n ∧ c ∉ hs := by
  unfold cellsL
  rw [List.mem_filter, List.mem_map]
  constructor
  · rintro ⟨⟨i, hi, rfl⟩, h⟩
    have := List.mem_range.1 hi
    exact ⟨by omega, by omega, by simpa using h⟩
  · rintro ⟨h1, h2, h3⟩
    exact ⟨⟨c.toNat, List.mem_range.2 (by omega), by omega⟩, by simpa using h3⟩
/-- How far two numbers are from each other. -/
def dist (x y : Int) : Int := ((x - y).natAbs : Int)
/-- A leaper leaps from one cell to another one. -/
def isL (w a b c d : Int) : Prop := (dist (c % w) (d % w) = a ∧ dist (c / w) (d / w) = b) ∨ (dist (c % w) (d % w) = b ∧ dist (c / w) (d / w) = a)
instance {w a b c d : Int} : Decidable (isL w a b c d) := by unfold isL; infer_instance
theorem cell_dm {w c : Int} (w1 : 1 ≤ w) (c0 : 0 ≤ c) (c64 : c < 64) : 0 ≤ c % w ∧ c % w < w ∧ 0 ≤ c / w ∧ c / w < 64 ∧ c = w * (c / w) + c % w := by
  refine ⟨Int.emod_nonneg _ (by omega), Int.emod_lt_of_pos _ (by omega), Int.ediv_nonneg c0 (by omega), ?_, (Int.mul_ediv_add_emod c w).symm⟩
  exact Int.lt_of_le_of_lt (Int.ediv_le_self _ c0) c64
theorem v_spec_l1Most {a b : Int} : sh_spec_l1Most a b = some (max a b) := by
  show S_spec_l1Most_e a b (fun r => some r) = _
  unfold S_spec_l1Most_e
  by_cases h : a > b
  · rw [decide_eq_true h]; show some a = _; congr 1; omega
  · rw [decide_eq_false h]; show some b = _; congr 1; omega
theorem v_spec_l1Abs {a : Int} (h0 : -9223372036854775808 < a) (h1 : a ≤ 9223372036854775807) : sh_spec_l1Abs a = some (a.natAbs : Int) := by
  show S_spec_l1Abs_e a (fun r => some r) = _
  unfold S_spec_l1Abs_e
  rw [w64 (by omega) (by omega), v_spec_l1Most]
  show some (max a (0 - a)) = _
  congr 1
  omega
theorem v_spec_boIs {w h a b c d : Int} {hs : List Int} (w1 : 1 ≤ w) (w8 : w ≤ 8) (c0 : 0 ≤ c) (c64 : c < 64) (d0 : 0 ≤ d) (d64 : d < 64) : sh_spec_boIs w h hs a b c d = some (decide (isL w a b c d)) := by
  show S_spec_boIs_e w h hs a b c d (fun r => some r) = _
  unfold S_spec_boIs_e
  obtain ⟨p1, p2, p3, p4, _⟩ := cell_dm w1 c0 c64
  obtain ⟨q1, q2, q3, q4, _⟩ := cell_dm w1 d0 d64
  have hw : ¬ w = 0 := by omega
  simp only [hw, if_false, Int.tmod_eq_emod_of_nonneg c0, Int.tmod_eq_emod_of_nonneg d0, Int.tdiv_eq_ediv_of_nonneg c0, Int.tdiv_eq_ediv_of_nonneg d0]
  rw [w64 (n := c % w - d % w) (by omega) (by omega), v_spec_l1Abs (by omega) (by omega), w64 (n := c / w) (by omega) (by omega), w64 (n := d / w) (by omega) (by omega), w64 (n := c / w - d / w) (by omega) (by omega), v_spec_l1Abs (by omega) (by omega)]
  simp only [Option.bind_some]
  have key : ∀ (P Q R S : Prop) [Decidable P] [Decidable Q] [Decidable R] [Decidable S], (bif decide P then (bif decide Q then some true else (bif decide R then some (decide S) else some false)) else (bif decide R then some (decide S) else some false)) = some (decide ((P ∧ Q) ∨ (R ∧ S))) := by
    intro P Q R S _ _ _ _
    by_cases h1 : P <;> by_cases h2 : Q <;> by_cases h3 : R <;> by_cases h4 : S <;> simp [h1, h2, h3, h4]
  exact key _ _ _ _
/-- The cells to which a leaper leaps. -/
def leapsL (w h : Int) (hs : List Int) (a b c : Int) : List Int := (cellsL (w * h).toNat hs).filter fun d => decide (isL w a b c d)
def nearL (w h : Int) (hs : List Int) (a b : Int) : List (List Int) := (List.range (w * h).toNat).map fun c : Nat => if (c : Int) ∈ hs then [] else leapsL w h hs a b c
theorem mem_cells {w h : Int} {hs : List Int} {c : Int} : c ∈ cellsL (w * h).toNat hs ↔ hasP w h hs c := by
  rw [mem_cellsL]
  unfold hasP
  constructor <;> rintro ⟨h1, h2, h3⟩ <;> exact ⟨h1, by omega, h3⟩
theorem cellsL_sorted (n : Nat) (hs : List Int) : (cellsL n hs).Pairwise (· < ·) := by
  unfold cellsL
  refine List.Pairwise.filter _ ?_
  rw [List.pairwise_map]
  exact List.pairwise_lt_range.imp fun h => by omega
theorem mem_leapsL {w h a b c d : Int} {hs : List Int} : d ∈ leapsL w h hs a b c ↔ hasP w h hs d ∧ isL w a b c d := by
  unfold leapsL
  simp [mem_cells]
theorem leapsL_sorted (w h : Int) (hs : List Int) (a b c : Int) : (leapsL w h hs a b c).Pairwise (· < ·) := (cellsL_sorted _ _).filter _
theorem nodup_of_lt {l : List Int} (h : l.Pairwise (· < ·)) : l.Nodup := h.imp fun h e => by omega
/-- Rising lists with the same members are one list. -/
theorem rise_ext {l m : List Int} (hl : l.Pairwise (· < ·)) (hm : m.Pairwise (· < ·)) (h : ∀ x, x ∈ l ↔ x ∈ m) : l = m := by
  refine List.Perm.eq_of_pairwise (le := fun a b : Int => a < b) (fun a b _ _ h1 h2 => by omega) hl hm ?_
  rw [List.perm_ext_iff_of_nodup (nodup_of_lt hl) (nodup_of_lt hm)]
  exact h
theorem sortL_rise {l : List Int} (h : l.Nodup) : (sortL l).Pairwise (· < ·) := by
  have h1 : (sortL l).Pairwise fun a b => decide (a ≤ b) = true := List.pairwise_mergeSort (le := fun a b : Int => decide (a ≤ b)) (fun a b c h1 h2 => by simp at *; omega) (fun a b => by simp; omega) l
  have h2 : (sortL l).Nodup := (List.mergeSort_perm l _).nodup_iff.2 h
  exact List.Pairwise.imp₂ (fun a b h1 h2 => by simp at h1; omega) h1 h2
theorem mem_sortL {l : List Int} {x : Int} : x ∈ sortL l ↔ x ∈ l := (List.mergeSort_perm l _).mem_iff
theorem sortL_eq {l m : List Int} (h : l.Nodup) (hm : m.Pairwise (· < ·)) (he : ∀ x, x ∈ l ↔ x ∈ m) : sortL l = m := rise_ext (sortL_rise h) hm fun x => mem_sortL.trans (he x)
/-! The steps of a leaper. -/
def rowS (k : Nat) : List Int := [((k / 11 : Nat) : Int) - 5, ((k % 11 : Nat) : Int) - 5]
def okS (a b : Int) (s : List Int) : Prop := ((min (s.getD 0 0).natAbs (s.getD 1 0).natAbs : Nat) : Int) = a ∧ ((max (s.getD 0 0).natAbs (s.getD 1 0).natAbs : Nat) : Int) = b
instance {a b : Int} {s : List Int} : Decidable (okS a b s) := by unfold okS; infer_instance
def stepsTo (a b : Int) (k : Nat) : List (List Int) := ((List.range k).map rowS).filter fun s => decide (okS a b s)
theorem stepsTo_succ (a b : Int) (k : Nat) : stepsTo a b (k + 1) = stepsTo a b k ++ (if okS a b (rowS k) then [rowS k] else []) := by
  unfold stepsTo
  rw [List.range_succ, List.map_append, List.filter_append]
  congr 1
  by_cases h : okS a b (rowS k) <;> simp [h]
theorem stepsTo_len (a b : Int) (k : Nat) : (stepsTo a b k).length ≤ k := by
  unfold stepsTo
  refine Nat.le_trans (List.length_filter_le ..) ?_
  simp
theorem v_impl_Leaper_steps {a b : Int} : sh_impl_Leaper_steps a b = some (stepsTo a b 121) := by
  have inner : ∀ (b0 : List (List Int) → Int → Int → Int → Option (List (List Int))) (x : Nat), x < 11 → F_impl_Leaper_steps_1 100 b0 (fun r => some r) 100 (stepsTo a b (11 * x)) ((x : Int) - 5) (-5 : Int) a b = b0 (stepsTo a b (11 * (x + 1))) (((x + 1 : Nat) : Int) - 5) a b := by
    intro b0 x hx
    refine loopF (F := fun n i => F_impl_Leaper_steps_1 100 b0 (fun r => some r) n (stepsTo a b (11 * x + i)) ((x : Int) - 5) ((i : Int) - 5) a b) (len := 11) (n := 100) (fun n i hi => ?_) (fun n => ?_) (by omega)
    · have h1 : ((i : Int) - 5 ≤ 5) := by omega
      have e1 : IntKind.i64.wrap (0 - ((i : Int) - 5)) = 0 - ((i : Int) - 5) := w64 (by omega) (by omega)
      have e2 : IntKind.i64.wrap (0 - ((x : Int) - 5)) = 0 - ((x : Int) - 5) := w64 (by omega) (by omega)
      have e3 : IntKind.i64.wrap ((i : Int) - 5 + 1) = ((i + 1 : Nat) : Int) - 5 := by rw [w64 (by omega) (by omega)]; omega
      have e4 : rowS (11 * x + i) = [(x : Int) - 5, (i : Int) - 5] := by unfold rowS; rw [show (11 * x + i) / 11 = x by omega, show (11 * x + i) % 11 = i by omega]
      have e5 := stepsTo_succ a b (11 * x + i)
      have e6 := stepsTo_len a b (11 * x + i)
      simp only [F_impl_Leaper_steps_1, S_impl_Leaper_steps_1, F_impl_Leaper_steps_2, S_impl_Leaper_steps_2, h1, e1, e2, e3, decide_true, cond_true]
      rw [e4] at e5
      have c1 : (if (if 0 - ((i : Int) - 5) > (i : Int) - 5 then 0 - ((i : Int) - 5) else (i : Int) - 5) < (if 0 - ((x : Int) - 5) > (x : Int) - 5 then 0 - ((x : Int) - 5) else (x : Int) - 5) then (if 0 - ((i : Int) - 5) > (i : Int) - 5 then 0 - ((i : Int) - 5) else (i : Int) - 5) else (if 0 - ((x : Int) - 5) > (x : Int) - 5 then 0 - ((x : Int) - 5) else (x : Int) - 5)) = ((min ((x : Int) - 5).natAbs ((i : Int) - 5).natAbs : Nat) : Int) := by omega
      have c2 : (if (if 0 - ((i : Int) - 5) > (i : Int) - 5 then 0 - ((i : Int) - 5) else (i : Int) - 5) > (if 0 - ((x : Int) - 5) > (x : Int) - 5 then 0 - ((x : Int) - 5) else (x : Int) - 5) then (if 0 - ((i : Int) - 5) > (i : Int) - 5 then 0 - ((i : Int) - 5) else (i : Int) - 5) else (if 0 - ((x : Int) - 5) > (x : Int) - 5 then 0 - ((x : Int) - 5) else (x : Int) - 5)) = ((max ((x : Int) - 5).natAbs ((i : Int) - 5).natAbs : Nat) : Int) := by omega
      rw [c1, c2]
      by_cases hk : okS a b [(x : Int) - 5, (i : Int) - 5]
      · rw [if_pos hk] at e5
        have hk' : ((min ((x : Int) - 5).natAbs ((i : Int) - 5).natAbs : Nat) : Int) = a ∧ ((max ((x : Int) - 5).natAbs ((i : Int) - 5).natAbs : Nat) : Int) = b := hk
        rw [decide_eq_true hk'.1, decide_eq_true hk'.2]
        simp only [cond_true]
        rw [if_pos (by simp; omega), ← e5]; rfl
      · rw [if_neg hk, List.append_nil] at e5
        rw [show 11 * x + (i + 1) = 11 * x + i + 1 from rfl, e5]
        by_cases h1 : ((min ((x : Int) - 5).natAbs ((i : Int) - 5).natAbs : Nat) : Int) = a
        · have h2 : ¬ ((max ((x : Int) - 5).natAbs ((i : Int) - 5).natAbs : Nat) : Int) = b := fun h2 => hk ⟨h1, h2⟩
          rw [decide_eq_true h1, decide_eq_false h2]; rfl
        · rw [decide_eq_false h1]; rfl
    · have e2 : IntKind.i64.wrap ((x : Int) - 5 + 1) = ((x + 1 : Nat) : Int) - 5 := by rw [w64 (by omega) (by omega)]; omega
      have h1 : ¬ (((11 : Nat) : Int) - 5 ≤ 5) := by omega
      simp only [F_impl_Leaper_steps_1, S_impl_Leaper_steps_1, h1, decide_false, cond_false, e2]
      rfl
  refine sh_impl_Leaper_steps_of (n := 100) ?_
  show F_impl_Leaper_steps_0 100 (fun r => some r) 100 [] (-5) a b = _
  refine loopF (F := fun n i => F_impl_Leaper_steps_0 100 (fun r => some r) n (stepsTo a b (11 * i)) ((i : Int) - 5) a b) (len := 11) (n := 100) (fun n i hi => ?_) (fun n => ?_) (by omega)
  · have h1 : ((i : Int) - 5 ≤ 5) := by omega
    simp only [F_impl_Leaper_steps_0, S_impl_Leaper_steps_0, h1, decide_true, cond_true]
    exact inner _ i hi
  · have h1 : ¬ (((11 : Nat) : Int) - 5 ≤ 5) := by omega
    simp only [F_impl_Leaper_steps_0, S_impl_Leaper_steps_0, h1, decide_false, cond_false]
/-- Where a step leads to. -/
def tgt (w h : Int) (hs : List Int) (c : Int) (s : List Int) : Option Int :=
  if 0 ≤ c % w + s.getD 0 0 ∧ c % w + s.getD 0 0 < w ∧ 0 ≤ c / w + s.getD 1 0 ∧ c / w + s.getD 1 0 < h ∧ hasP w h hs ((c / w + s.getD 1 0) * w + (c % w + s.getD 0 0)) then some ((c / w + s.getD 1 0) * w + (c % w + s.getD 0 0)) else none
theorem mem_steps {a b : Int} {s : List Int} : s ∈ stepsTo a b 121 ↔ okS a b s ∧ ∃ x y : Int, s = [x, y] ∧ -5 ≤ x ∧ x ≤ 5 ∧ -5 ≤ y ∧ y ≤ 5 := by
  unfold stepsTo
  simp only [List.mem_filter, List.mem_map, List.mem_range, decide_eq_true_eq]
  constructor
  · rintro ⟨⟨k, hk, rfl⟩, h⟩
    exact ⟨h, _, _, rfl, by omega, by omega, by omega, by omega⟩
  · rintro ⟨h, x, y, rfl, h1, h2, h3, h4⟩
    refine ⟨⟨(11 * (x + 5) + (y + 5)).toNat, by omega, ?_⟩, h⟩
    unfold rowS
    rw [show ((11 * (x + 5) + (y + 5)).toNat / 11 : Nat) = (x + 5).toNat by omega, show ((11 * (x + 5) + (y + 5)).toNat % 11 : Nat) = (y + 5).toNat by omega]
    simp only [List.cons.injEq, and_true]
    exact ⟨by omega, by omega⟩
theorem div_mod_of {w x y : Int} (hx : 0 ≤ x) (hw : x < w) : (y * w + x) % w = x ∧ (y * w + x) / w = y := by
  constructor
  · rw [Int.add_comm, Int.add_mul_emod_self_right]; exact Int.emod_eq_of_lt hx hw
  · rw [Int.add_comm, Int.add_mul_ediv_right _ _ (by omega), Int.ediv_eq_zero_of_lt hx hw]; omega
theorem tgt_some {w h c d : Int} {hs s : List Int} (h1 : tgt w h hs c s = some d) : hasP w h hs d ∧ d % w = c % w + s.getD 0 0 ∧ d / w = c / w + s.getD 1 0 := by
  unfold tgt at h1
  split at h1
  · rename_i hh
    injection h1 with h1
    subst h1
    obtain ⟨q1, q2, _, _, q3⟩ := hh
    exact ⟨q3, div_mod_of q1 q2⟩
  · cases h1
theorem row_div {w h d : Int} (w1 : 1 ≤ w) (h0 : 0 ≤ d) (h1 : d < w * h) : d / w < h := by
  refine Int.ediv_lt_of_lt_mul (by omega) ?_
  rw [Int.mul_comm]; exact h1
theorem tgt_of {w h c d x y : Int} {hs : List Int} (w1 : 1 ≤ w) (hd : hasP w h hs d) (hx : d % w = c % w + x) (hy : d / w = c / w + y) : tgt w h hs c [x, y] = some d := by
  have e : (c / w + y) * w + (c % w + x) = d := by rw [← hx, ← hy, Int.mul_comm]; exact Int.mul_ediv_add_emod d w
  unfold tgt
  show (if 0 ≤ c % w + x ∧ c % w + x < w ∧ 0 ≤ c / w + y ∧ c / w + y < h ∧ hasP w h hs ((c / w + y) * w + (c % w + x)) then some ((c / w + y) * w + (c % w + x)) else none) = _
  rw [e, if_pos]
  refine ⟨by rw [← hx]; exact Int.emod_nonneg _ (by omega), by rw [← hx]; exact Int.emod_lt_of_pos _ (by omega), by rw [← hy]; exact Int.ediv_nonneg hd.1 (by omega), by rw [← hy]; exact row_div w1 hd.1 hd.2.1, hd⟩
theorem mem_tgts {w h a b c d : Int} {hs : List Int} (w1 : 1 ≤ w) (gl : GoodL a b) : d ∈ (stepsTo a b 121).filterMap (tgt w h hs c) ↔ d ∈ leapsL w h hs a b c := by
  rw [mem_leapsL, List.mem_filterMap]
  obtain ⟨g1, g2, g3, g4⟩ := gl
  constructor
  · rintro ⟨s, h1, h2⟩
    obtain ⟨⟨k1, k2⟩, x, y, rfl, _⟩ := mem_steps.1 h1
    obtain ⟨q1, q2, q3⟩ := tgt_some h2
    refine ⟨q1, ?_⟩
    have k1 : ((min x.natAbs y.natAbs : Nat) : Int) = a := k1
    have k2 : ((max x.natAbs y.natAbs : Nat) : Int) = b := k2
    have q2 : d % w = c % w + x := q2
    have q3 : d / w = c / w + y := q3
    unfold isL dist
    rw [q2, q3]
    omega
  · rintro ⟨h1, h2⟩
    unfold isL dist at h2
    refine ⟨[d % w - c % w, d / w - c / w], mem_steps.2 ⟨?_, _, _, rfl, by omega, by omega, by omega, by omega⟩, tgt_of w1 h1 (by omega) (by omega)⟩
    show ((min (d % w - c % w).natAbs (d / w - c / w).natAbs : Nat) : Int) = a ∧ ((max (d % w - c % w).natAbs (d / w - c / w).natAbs : Nat) : Int) = b
    omega
theorem tgts_nodup {w h a b c : Int} {hs : List Int} : ((stepsTo a b 121).filterMap (tgt w h hs c)).Nodup := by
  rw [List.Nodup, List.pairwise_filterMap]
  unfold stepsTo
  refine List.Pairwise.filter _ ?_
  rw [List.pairwise_map]
  refine List.pairwise_lt_range.imp ?_
  intro i j hij d h1 d' h2 e
  subst e
  obtain ⟨_, q2, q3⟩ := tgt_some h1
  obtain ⟨_, r2, r3⟩ := tgt_some h2
  have q2 : d % w = c % w + (((i / 11 : Nat) : Int) - 5) := q2
  have q3 : d / w = c / w + (((i % 11 : Nat) : Int) - 5) := q3
  have r2 : d % w = c % w + (((j / 11 : Nat) : Int) - 5) := r2
  have r3 : d / w = c / w + (((j % 11 : Nat) : Int) - 5) := r3
  omega
theorem sort_tgts {w h a b c : Int} {hs : List Int} (w1 : 1 ≤ w) (gl : GoodL a b) : sortL ((stepsTo a b 121).filterMap (tgt w h hs c)) = leapsL w h hs a b c := sortL_eq tgts_nodup (leapsL_sorted ..) fun _ => mem_tgts w1 gl
theorem v_impl_Board_present {w h : Int} {hs : List Int} (m1 : 1 ≤ w * h) (m64 : w * h ≤ 64) (hl : hs.length ≤ 1099511627776) : sh_impl_Board_present w h hs = some (cellsL (w * h).toNat hs) := by
  have hm : IntKind.i64.wrap (w * h) = w * h := w64 (by omega) (by omega)
  refine sh_impl_Board_present_of (n := 100) ?_
  show F_impl_Board_present_0 100 (fun r => some r) 100 [] (IntKind.i64.wrap (w * h)) 0 w h hs = _
  rw [hm]
  refine loopF (F := fun n i => F_impl_Board_present_0 100 (fun r => some r) n (cellsL i hs) (w * h) (i : Int) w h hs) (len := (w * h).toNat) (fun n i hi => ?_) (fun n => ?_) (by omega)
  · have q1 : (i : Int) < w * h := by omega
    have hle := cellsL_le i hs
    simp only [F_impl_Board_present_0, S_impl_Board_present_0, q1, decide_true, cond_true, v_slices_Contains_int_int (show hs.length ≤ 9223372036854775807 by omega), Option.bind_some, next64 (show i < 9223372036854775807 by omega), cellsL_succ]
    by_cases hx : (i : Int) ∈ hs
    · simp [hx]
    · simp only [hx, decide_false, Bool.not_false, cond_true, if_false]
      rw [if_pos (by simp; omega)]
  · have q : ¬ (((w * h).toNat : Int) < w * h) := by omega
    simp only [F_impl_Board_present_0, S_impl_Board_present_0, q, decide_false, cond_false]
/-- The rows of the cells that are done. -/
def nearTo (w h : Int) (hs : List Int) (a b : Int) (i : Nat) : List (List Int) := (List.range (w * h).toNat).map fun c : Nat => if (c : Int) ∈ (cellsL (w * h).toNat hs).take i then leapsL w h hs a b c else []
theorem nearTo_len {w h a b : Int} {hs : List Int} {i : Nat} : (nearTo w h hs a b i).length = (w * h).toNat := by simp [nearTo]
theorem nearTo_zero {w h a b : Int} {hs : List Int} : nearTo w h hs a b 0 = List.replicate (w * h).toNat [] := by
  refine List.ext_getElem (by simp [nearTo]) fun k h1 h2 => ?_
  simp [nearTo]
theorem nearTo_all {w h a b : Int} {hs : List Int} : nearTo w h hs a b (cellsL (w * h).toNat hs).length = nearL w h hs a b := by
  unfold nearTo nearL
  rw [List.take_length]
  refine List.map_congr_left fun k hk => ?_
  have hk : k < (w * h).toNat := List.mem_range.1 hk
  have : ((k : Int) ∈ cellsL (w * h).toNat hs) ↔ ¬ (k : Int) ∈ hs := by rw [mem_cellsL]; exact ⟨fun q => q.2.2, fun q => ⟨by omega, by omega, q⟩⟩
  by_cases h1 : (k : Int) ∈ hs
  · rw [if_pos h1, if_neg (by rw [this]; exact fun q => q h1)]
  · rw [if_neg h1, if_pos (this.2 h1)]
theorem cells_get {n : Nat} {hs : List Int} {i : Nat} (hi : i < (cellsL n hs).length) : 0 ≤ (cellsL n hs).getD i 0 ∧ (cellsL n hs).getD i 0 < n ∧ (cellsL n hs).getD i 0 ∉ hs := mem_cellsL.1 (getD_mem hi)
theorem cells_take {n : Nat} {hs : List Int} {i : Nat} (hi : i < (cellsL n hs).length) : (cellsL n hs).getD i 0 ∉ (cellsL n hs).take i := by
  intro h
  obtain ⟨j, hj, e⟩ := mem_getD.1 h
  simp only [List.length_take] at hj
  have h1 := (List.pairwise_iff_getElem.1 (cellsL_sorted n hs)) j i (by omega) hi (by omega)
  have e1 : ((cellsL n hs).take i).getD j 0 = (cellsL n hs)[j]'(by omega) := by
    rw [getD_lt (by simp; omega)]; simp
  rw [e1, getD_lt hi] at e
  omega
theorem nearTo_succ {w h a b : Int} {hs : List Int} {i : Nat} (hi : i < (cellsL (w * h).toNat hs).length) :
    (nearTo w h hs a b i).set ((cellsL (w * h).toNat hs).getD i 0).toNat (leapsL w h hs a b ((cellsL (w * h).toNat hs).getD i 0)) = nearTo w h hs a b (i + 1) := by
  obtain ⟨c0, c1, _⟩ := cells_get hi
  refine List.ext_getElem (by simp [nearTo]) fun k h1 h2 => ?_
  have hk : k < (w * h).toNat := by simpa [nearTo] using h2
  rw [List.getElem_set]
  simp only [nearTo, List.getElem_map, List.getElem_range]
  have hm : ((k : Int) ∈ (cellsL (w * h).toNat hs).take (i + 1)) ↔ (k : Int) ∈ (cellsL (w * h).toNat hs).take i ∨ (k : Int) = (cellsL (w * h).toNat hs).getD i 0 := mem_take_succ hi
  by_cases e : ((cellsL (w * h).toNat hs).getD i 0).toNat = k
  · have e' : (k : Int) = (cellsL (w * h).toNat hs).getD i 0 := by omega
    rw [if_pos e, if_pos (hm.2 (.inr e')), e']
  · rw [if_neg e]
    have e' : ¬ (k : Int) = (cellsL (w * h).toNat hs).getD i 0 := by omega
    by_cases h3 : (k : Int) ∈ (cellsL (w * h).toNat hs).take i
    · rw [if_pos h3, if_pos (hm.2 (.inl h3))]
    · rw [if_neg h3, if_neg (fun q => (hm.1 q).elim h3 e')]
theorem nearTo_start {w h a b : Int} {hs : List Int} {i : Nat} (hi : i < (cellsL (w * h).toNat hs).length) :
    (nearTo w h hs a b i).set ((cellsL (w * h).toNat hs).getD i 0).toNat [] = nearTo w h hs a b i := by
  obtain ⟨c0, c1, _⟩ := cells_get hi
  refine List.ext_getElem (by simp) fun k h1 h2 => ?_
  rw [List.getElem_set]
  split
  · rename_i e
    have e' : (k : Int) = (cellsL (w * h).toNat hs).getD i 0 := by omega
    simp only [nearTo, List.getElem_map, List.getElem_range]
    rw [if_neg (by rw [e']; exact cells_take hi)]
  · rfl
theorem row_ok {a b : Int} {j : Nat} (hj : j < (stepsTo a b 121).length) : ∃ x y : Int, (stepsTo a b 121).getD j [] = [x, y] ∧ -5 ≤ x ∧ x ≤ 5 ∧ -5 ≤ y ∧ y ≤ 5 := by
  rw [getD_lt hj]
  exact (mem_steps.1 (List.getElem_mem hj)).2
theorem fm_succ {α β : Type} {f : α → Option β} {l : List α} {j : Nat} {d : α} (hj : j < l.length) : (l.take (j + 1)).filterMap f = (l.take j).filterMap f ++ (f (l.getD j d)).toList := by
  rw [List.take_add_one, List.filterMap_append, getD_lt hj, List.getElem?_eq_getElem hj]
  cases hf : f l[j] <;> simp [hf]
theorem v_impl_graphOf {w h a b : Int} {hs : List Int} (hl : hs.length ≤ 1099511627776) :
    (GoodB w h hs ∧ GoodL a b → sh_impl_graphOf w h hs a b = some (true, w, h, hs, a, b, cellsL (w * h).toNat hs, nearL w h hs a b, true)) ∧
    (¬ (GoodB w h hs ∧ GoodL a b) → sh_impl_graphOf w h hs a b = some (false, 0, 0, [], 0, 0, [], [], false)) := by
  obtain ⟨r, h1, h2⟩ := v_impl_IsBoard (w := w) (h := h) hl
  constructor
  · rintro ⟨gb, gl⟩
    have hr : r = true := h2.2 gb
    subst hr
    obtain ⟨m1, m64⟩ := mul8 gb.w1 gb.w8 gb.h1 gb.h8
    have w1 := gb.w1
    have w8 := gb.w8
    have hh8 := gb.h8
    have hm : IntKind.i64.wrap (w * h) = w * h := w64 (by omega) (by omega)
    have hcl := cellsL_le (w * h).toNat hs
    refine sh_impl_graphOf_of (n := 200) ?_
    show S_impl_graphOf_e w h hs a b _ _ = _
    unfold S_impl_graphOf_e
    rw [h1, v_impl_IsLeaper, decide_eq_true gl, v_impl_Board_present m1 m64 hl, hm]
    simp only [Option.bind_some, Bool.not_true, cond_false]
    rw [if_pos (by omega), if_pos (by omega), ← nearTo_zero (a := a) (b := b)]
    refine loopF (F := fun n i => F_impl_graphOf_0 200 _ n (cellsL (w * h).toNat hs) ((cellsL (w * h).toNat hs).length : Int) (i : Int) w h hs a b (nearTo w h hs a b i)) (len := (cellsL (w * h).toNat hs).length) (fun n i hi => ?_) (fun n => ?_) (by omega)
    · obtain ⟨c0, c1, c2⟩ := cells_get hi
      have q1 : (i : Int) < ((cellsL (w * h).toNat hs).length : Int) := by omega
      have q2 : (0 : Int) ≤ i := by omega
      simp only [F_impl_graphOf_0, S_impl_graphOf_0, q1, q2, decide_true, cond_true, if_true, Int.toNat_natCast, v_impl_Leaper_steps, Option.bind_some]
      generalize hc : (cellsL (w * h).toNat hs).getD i 0 = c at c0 c1 c2
      obtain ⟨d1, d2, d3, d4, d5⟩ := cell_dm (w := w) (c := c) w1 c0 (by omega)
      have hdh : c / w < h := row_div w1 c0 (by omega)
      have hsl := stepsTo_len a b 121
      have hst := nearTo_start (a := a) (b := b) hi
      rw [hc] at hst
      have hsu := nearTo_succ (a := a) (b := b) hi
      rw [hc] at hsu
      have hcl2 : c.toNat < (nearTo w h hs a b i).length := by rw [nearTo_len]; omega
      have hcl3 : c < ((nearTo w h hs a b i).length : Int) := by omega
      rw [← hst]
      refine (loopF (F := fun n' j => F_impl_graphOf_1 200 (F_impl_graphOf_0 200 _ n) _ n' c (cellsL (w * h).toNat hs) ((cellsL (w * h).toNat hs).length : Int) (i : Int) (stepsTo a b 121) ((stepsTo a b 121).length : Int) (j : Int) w h hs a b ((nearTo w h hs a b i).set c.toNat (((stepsTo a b 121).take j).filterMap (tgt w h hs c)))) (len := (stepsTo a b 121).length) (R := F_impl_graphOf_0 200 _ n (cellsL (w * h).toNat hs) ((cellsL (w * h).toNat hs).length : Int) ((i + 1 : Nat) : Int) w h hs a b (nearTo w h hs a b (i + 1))) (fun n' j hj => ?_) (fun n' => ?_) (by omega))
      · have q3 : (j : Int) < ((stepsTo a b 121).length : Int) := by omega
        have q4 : (0 : Int) ≤ j := by omega
        obtain ⟨x, y, hrow, x0, x5, y0, y5⟩ := row_ok hj
        have hfm := fm_succ (f := tgt w h hs c) (d := []) hj
        rw [hrow] at hfm
        have hw : ¬ w = 0 := by omega
        have hlen : (((stepsTo a b 121).take j).filterMap (tgt w h hs c)).length ≤ 121 := Nat.le_trans (List.length_filterMap_le ..) (by simp; omega)
        have e1 : IntKind.i64.wrap (c / w) = c / w := w64 (by omega) (by omega)
        have e2 : IntKind.i64.wrap (c % w + x) = c % w + x := w64 (by omega) (by omega)
        have e3 : IntKind.i64.wrap (c / w + y) = c / w + y := w64 (by omega) (by omega)
        have g0 : (0 : Int) < (([x, y] : List Int).length : Int) := by simp
        have g1 : (1 : Int) < (([x, y] : List Int).length : Int) := by simp
        have g2 : (0 : Int) ≤ 1 := by omega
        have g3 : (0 : Int).toNat = 0 := rfl
        have g4 : (1 : Int).toNat = 1 := rfl
        have g5 : ([x, y] : List Int).getD 0 0 = x := rfl
        have g6 : ([x, y] : List Int).getD 1 0 = y := rfl
        have t0 : tgt w h hs c [x, y] = if 0 ≤ c % w + x ∧ c % w + x < w ∧ 0 ≤ c / w + y ∧ c / w + y < h ∧ hasP w h hs ((c / w + y) * w + (c % w + x)) then some ((c / w + y) * w + (c % w + x)) else none := rfl
        simp only [F_impl_graphOf_1, S_impl_graphOf_1, q3, q4, decide_true, cond_true, if_true, Int.toNat_natCast, hrow, hw, if_false, g0, g1, g2, g3, g4, g5, g6, Int.le_refl, Int.tmod_eq_emod_of_nonneg c0, Int.tdiv_eq_ediv_of_nonneg c0, e1, e2, e3, next64 (show j < 9223372036854775807 by omega), ge_iff_le]
        by_cases r1 : 0 ≤ c % w + x
        · by_cases r2 : c % w + x < w
          · by_cases r3 : 0 ≤ c / w + y
            · by_cases r4 : c / w + y < h
              · have b1 : (c / w + y) * w ≤ 7 * w := Int.mul_le_mul_of_nonneg_right (by omega) (by omega)
                have b2 : 0 ≤ (c / w + y) * w := Int.mul_nonneg r3 (by omega)
                have e4 : IntKind.i64.wrap ((c / w + y) * w) = (c / w + y) * w := w64 (by omega) (by omega)
                have e5 : IntKind.i64.wrap ((c / w + y) * w + (c % w + x)) = (c / w + y) * w + (c % w + x) := w64 (by omega) (by omega)
                simp only [decide_eq_true r1, decide_eq_true r2, decide_eq_true r3, decide_eq_true r4, cond_true, e4, e5, v_impl_Board_has m1 m64 hl, Option.bind_some]
                by_cases r5 : hasP w h hs ((c / w + y) * w + (c % w + x))
                · rw [if_pos ⟨r1, r2, r3, r4, r5⟩] at t0
                  rw [t0] at hfm
                  simp only [decide_eq_true r5, cond_true]
                  have k1 : c < ((((nearTo w h hs a b i).set c.toNat (((stepsTo a b 121).take j).filterMap (tgt w h hs c))).length : Nat) : Int) := by simp; omega
                  have k2 : ((nearTo w h hs a b i).set c.toNat (((stepsTo a b 121).take j).filterMap (tgt w h hs c))).getD c.toNat [] = ((stepsTo a b 121).take j).filterMap (tgt w h hs c) := by rw [getD_set, if_pos ⟨rfl, hcl2⟩]
                  simp only [c0, k1, k2, if_true]
                  rw [if_pos (by simp; omega), List.set_set, hfm]
                  rfl
                · rw [if_neg (fun q => r5 q.2.2.2.2)] at t0
                  rw [t0, Option.toList_none, List.append_nil] at hfm
                  rw [decide_eq_false r5, hfm]; rfl
              · rw [if_neg (fun q => r4 q.2.2.2.1)] at t0
                rw [t0, Option.toList_none, List.append_nil] at hfm
                rw [decide_eq_true r1, decide_eq_true r2, decide_eq_true r3, decide_eq_false r4, hfm]; rfl
            · rw [if_neg (fun q => r3 q.2.2.1)] at t0
              rw [t0, Option.toList_none, List.append_nil] at hfm
              rw [decide_eq_true r1, decide_eq_true r2, decide_eq_false r3, hfm]; rfl
          · rw [if_neg (fun q => r2 q.2.1)] at t0
            rw [t0, Option.toList_none, List.append_nil] at hfm
            rw [decide_eq_true r1, decide_eq_false r2, hfm]; rfl
        · rw [if_neg (fun q => r1 q.1)] at t0
          rw [t0, Option.toList_none, List.append_nil] at hfm
          rw [decide_eq_false r1, hfm]; rfl
      · have q3 : ¬ (((stepsTo a b 121).length : Int) < ((stepsTo a b 121).length : Int)) := by omega
        have k1 : c < ((((nearTo w h hs a b i).set c.toNat (((stepsTo a b 121).take (stepsTo a b 121).length).filterMap (tgt w h hs c))).length : Nat) : Int) := by simp; omega
        have k2 : ((nearTo w h hs a b i).set c.toNat (((stepsTo a b 121).take (stepsTo a b 121).length).filterMap (tgt w h hs c))).getD c.toNat [] = (stepsTo a b 121).filterMap (tgt w h hs c) := by rw [getD_set, if_pos ⟨rfl, hcl2⟩, List.take_length]
        have k3 : sh_slices_Sort_int_int ((stepsTo a b 121).filterMap (tgt w h hs c)) = some (leapsL w h hs a b c) := by
          show sortS _ = _
          unfold sortS
          rw [if_pos (Nat.le_trans (List.length_filterMap_le ..) (by omega)), sort_tgts w1 gl]
        simp only [F_impl_graphOf_1, S_impl_graphOf_1, q3, decide_false, cond_false, c0, k1, k2, k3, if_true, Option.bind_some, List.set_set, hsu, next64 (show i < 9223372036854775807 by omega)]
    · have q : ¬ (((cellsL (w * h).toNat hs).length : Int) < ((cellsL (w * h).toNat hs).length : Int)) := by omega
      simp only [F_impl_graphOf_0, S_impl_graphOf_0, q, decide_false, cond_false, nearTo_all]
  · intro hn
    refine sh_impl_graphOf_of (n := 0) ?_
    show S_impl_graphOf_e w h hs a b _ _ = _
    unfold S_impl_graphOf_e
    rw [h1, v_impl_IsLeaper]
    cases r with
    | false => rfl
    | true =>
      rw [decide_eq_false (fun gl => hn ⟨h2.1 rfl, gl⟩)]
      rfl
/-- A list is a path; a walk. -/
def pathL (w h : Int) (hs : List Int) (a b : Int) (p : List Int) : Prop := (1 ≤ p.length ∧ p.length ≤ 64) ∧ ∀ i, i < p.length → hasP w h hs (p.getD i 0) ∧ (0 < i → isL w a b (p.getD (i - 1) 0) (p.getD i 0))
def walkL (w h : Int) (hs : List Int) (a b : Int) (p : List Int) : Prop := pathL w h hs a b p ∧ ∀ i, i < p.length → p.getD i 0 ∉ p.take i
instance {w h a b : Int} {hs p : List Int} : Decidable (pathL w h hs a b p) := by unfold pathL; infer_instance
instance {w h a b : Int} {hs p : List Int} : Decidable (walkL w h hs a b p) := by unfold walkL; infer_instance
theorem GoodB.m {w h : Int} {hs : List Int} (g : GoodB w h hs) : 1 ≤ w * h ∧ w * h ≤ 64 := mul8 g.w1 g.w8 g.h1 g.h8
theorem v_spec_boPath {w h a b : Int} {hs p : List Int} (gb : GoodB w h hs) (hl : hs.length ≤ 1099511627776) (hp : p.length ≤ 1099511627776) : sh_spec_boPath w h hs a b p = some (decide (pathL w h hs a b p)) := by
  obtain ⟨m1, m64⟩ := gb.m
  refine sh_spec_boPath_of (n := p.length + 1) ?_
  show S_spec_boPath_e w h hs a b p _ _ = _
  unfold S_spec_boPath_e
  rw [v_spec_l1In]
  by_cases hb : (1 : Int) ≤ (p.length : Int) ∧ (p.length : Int) ≤ 64
  · rw [decide_eq_true hb]
    simp only [Option.bind_some, Bool.not_true, cond_false]
    refine loopB (F := fun n i => F_spec_boPath_0 (p.length + 1) (fun r => some r) n p (p.length : Int) (i : Int) w h hs a b) (len := p.length) (ok := fun i => hasP w h hs (p.getD i 0) ∧ (0 < i → isL w a b (p.getD (i - 1) 0) (p.getD i 0))) (fun n i hi hj ho => ?_) (fun n i hi hj ho => ?_) (fun hj n => ?_) (by omega) ?_
    · have q1 : (i : Int) < (p.length : Int) := by omega
      have q2 : (0 : Int) ≤ i := by omega
      have hh := ho.1
      simp only [F_spec_boPath_0, S_spec_boPath_0, q1, q2, decide_true, cond_true, if_true, Int.toNat_natCast, v_spec_boHas m1 m64 hl, Option.bind_some, decide_eq_true hh, Bool.not_true, cond_false, next64 (show i < 9223372036854775807 by omega)]
      by_cases h0 : 0 < i
      · have e1 : IntKind.i64.wrap ((i : Int) - 1) = ((i - 1 : Nat) : Int) := by rw [w64 (by omega) (by omega)]; omega
        have q3 : (0 : Int) ≤ ((i - 1 : Nat) : Int) := by omega
        have q4 : ((i - 1 : Nat) : Int) < (p.length : Int) := by omega
        have hq := (hj (i - 1) (by omega)).1
        rw [decide_eq_true (show (i : Int) > 0 by omega)]
        simp only [cond_true, e1, q3, q4, if_true, Int.toNat_natCast, v_spec_boIs gb.w1 gb.w8 hq.1 (Int.lt_of_lt_of_le hq.2.1 m64) hh.1 (Int.lt_of_lt_of_le hh.2.1 m64), Option.bind_some, decide_eq_true (ho.2 h0), Bool.not_true, cond_false]
      · rw [decide_eq_false (show ¬ (i : Int) > 0 by omega)]
        rfl
    · have q1 : (i : Int) < (p.length : Int) := by omega
      have q2 : (0 : Int) ≤ i := by omega
      simp only [F_spec_boPath_0, S_spec_boPath_0, q1, q2, decide_true, cond_true, if_true, Int.toNat_natCast, v_spec_boHas m1 m64 hl, Option.bind_some, next64 (show i < 9223372036854775807 by omega)]
      by_cases hh : hasP w h hs (p.getD i 0)
      · by_cases h0 : 0 < i
        · have e1 : IntKind.i64.wrap ((i : Int) - 1) = ((i - 1 : Nat) : Int) := by rw [w64 (by omega) (by omega)]; omega
          have q3 : (0 : Int) ≤ ((i - 1 : Nat) : Int) := by omega
          have q4 : ((i - 1 : Nat) : Int) < (p.length : Int) := by omega
          have hq := (hj (i - 1) (by omega)).1
          rw [decide_eq_true hh, decide_eq_true (show (i : Int) > 0 by omega)]
          simp only [Bool.not_true, cond_false, cond_true, e1, q3, q4, if_true, Int.toNat_natCast, v_spec_boIs gb.w1 gb.w8 hq.1 (Int.lt_of_lt_of_le hq.2.1 m64) hh.1 (Int.lt_of_lt_of_le hh.2.1 m64), Option.bind_some]
          rw [decide_eq_false (fun q => ho ⟨hh, fun _ => q⟩)]
          rfl
        · exact absurd ⟨hh, fun q => absurd q h0⟩ ho
      · rw [decide_eq_false hh]; rfl
    · have q : ¬ ((p.length : Int) < (p.length : Int)) := by omega
      simp only [F_spec_boPath_0, S_spec_boPath_0, q, decide_false, cond_false]
    · unfold pathL
      exact ⟨fun q => q.2, fun q => ⟨by omega, q⟩⟩
  · rw [decide_eq_false hb]
    show some false = _
    congr 1
    symm
    rw [decide_eq_false_iff_not]
    exact fun q => hb ⟨by have := q.1.1; omega, by have := q.1.2; omega⟩
theorem v_spec_toWalk {w h a b : Int} {hs p : List Int} (gb : GoodB w h hs) (hl : hs.length ≤ 1099511627776) (hp : p.length ≤ 1099511627776) : sh_spec_toWalk w h hs a b p = some (decide (walkL w h hs a b p)) := by
  refine sh_spec_toWalk_of (n := p.length + 1) ?_
  show S_spec_toWalk_e w h hs a b p _ _ = _
  unfold S_spec_toWalk_e
  rw [v_spec_boPath gb hl hp]
  by_cases hb : pathL w h hs a b p
  · rw [decide_eq_true hb]
    simp only [Option.bind_some, Bool.not_true, cond_false]
    refine loopB (F := fun n i => F_spec_toWalk_0 (p.length + 1) (fun r => some r) n p (p.length : Int) (i : Int)) (len := p.length) (ok := fun i => p.getD i 0 ∉ p.take i) (fun n i hi hj ho => ?_) (fun n i hi hj ho => ?_) (fun hj n => ?_) (by omega) ?_
    · have q1 : (i : Int) < (p.length : Int) := by omega
      have q2 : (0 : Int) ≤ i := by omega
      have q3 : (i : Int) ≤ (p.length : Int) := by omega
      simp only [F_spec_toWalk_0, S_spec_toWalk_0, q1, q2, q3, decide_true, cond_true, if_true, Int.toNat_natCast, List.drop_zero, v_spec_l1Has (l := p.take i) (by simp; omega), Option.bind_some, decide_eq_false ho, cond_false, next64 (show i < 9223372036854775807 by omega)]
    · have q1 : (i : Int) < (p.length : Int) := by omega
      have q2 : (0 : Int) ≤ i := by omega
      have q3 : (i : Int) ≤ (p.length : Int) := by omega
      simp only [F_spec_toWalk_0, S_spec_toWalk_0, q1, q2, q3, decide_true, cond_true, if_true, Int.toNat_natCast, List.drop_zero, v_spec_l1Has (l := p.take i) (by simp; omega), Option.bind_some, decide_eq_true (Decidable.not_not.1 ho)]
    · have q : ¬ ((p.length : Int) < (p.length : Int)) := by omega
      simp only [F_spec_toWalk_0, S_spec_toWalk_0, q, decide_false, cond_false]
    · exact ⟨fun q => q.2, fun q => ⟨hb, q⟩⟩
  · rw [decide_eq_false hb, decide_eq_false (fun q => hb q.1)]
    rfl
theorem near_len {w h a b : Int} {hs : List Int} : (nearL w h hs a b).length = (w * h).toNat := by simp [nearL]
theorem near_row {w h a b c : Int} {hs : List Int} (hc : hasP w h hs c) : (nearL w h hs a b).getD c.toNat [] = leapsL w h hs a b c := by
  obtain ⟨c0, c1, c2⟩ := hc
  rw [getD_lt (by rw [near_len]; omega)]
  simp only [nearL, List.getElem_map, List.getElem_range]
  rw [show ((c.toNat : Nat) : Int) = c by omega, if_neg c2]
theorem leapsL_len (w h : Int) (hs : List Int) (a b c : Int) : (leapsL w h hs a b c).length ≤ (w * h).toNat := Nat.le_trans (List.length_filter_le ..) (cellsL_le _ _)
theorem v_impl_graph_leaps {w h a b c d : Int} {hs cs : List Int} (gb : GoodB w h hs) (hc : hasP w h hs c) (hd : hasP w h hs d) : sh_impl_graph_leaps true w h hs a b cs (nearL w h hs a b) c d = some (decide (isL w a b c d)) := by
  obtain ⟨m1, m64⟩ := gb.m
  show S_impl_graph_leaps_e true w h hs a b cs (nearL w h hs a b) c d (fun r => some r) = _
  unfold S_impl_graph_leaps_e
  have hlen := leapsL_len w h hs a b c
  simp only [cond_true]
  rw [if_pos hc.1, if_pos (by rw [near_len]; have := hc.2.1; omega), near_row hc, v_slices_Contains_int_int (by omega)]
  simp [mem_leapsL, hd]
theorem v_impl_graph_isPath {w h a b : Int} {hs cs p : List Int} (gb : GoodB w h hs) (hl : hs.length ≤ 1099511627776) (hp : p.length ≤ 1099511627776) : sh_impl_graph_isPath true w h hs a b cs (nearL w h hs a b) p = some (decide (pathL w h hs a b p)) := by
  obtain ⟨m1, m64⟩ := gb.m
  refine sh_impl_graph_isPath_of (n := p.length + 1) ?_
  show S_impl_graph_isPath_e true w h hs a b cs (nearL w h hs a b) p _ _ = _
  unfold S_impl_graph_isPath_e
  by_cases h1 : (p.length : Int) < 1
  · rw [decide_eq_true h1, decide_eq_false (show ¬ pathL w h hs a b p from fun q => by have := q.1.1; omega)]; rfl
  · by_cases h2 : (p.length : Int) > 64
    · rw [decide_eq_false h1, decide_eq_true h2, decide_eq_false (show ¬ pathL w h hs a b p from fun q => by have := q.1.2; omega)]; rfl
    · rw [decide_eq_false h1, decide_eq_false h2]
      simp only [cond_false]
      refine loopB (F := fun n i => F_impl_graph_isPath_0 (p.length + 1) (fun r => some r) n true w h hs a b cs (nearL w h hs a b) p (p.length : Int) (i : Int)) (len := p.length) (ok := fun i => hasP w h hs (p.getD i 0) ∧ (0 < i → isL w a b (p.getD (i - 1) 0) (p.getD i 0))) (fun n i hi hj ho => ?_) (fun n i hi hj ho => ?_) (fun hj n => ?_) (by omega) ?_
      · have q1 : (i : Int) < (p.length : Int) := by omega
        have q2 : (0 : Int) ≤ i := by omega
        have hh := ho.1
        simp only [F_impl_graph_isPath_0, S_impl_graph_isPath_0, q1, q2, decide_true, cond_true, if_true, Int.toNat_natCast, v_impl_Board_has m1 m64 hl, Option.bind_some, decide_eq_true hh, Bool.not_true, cond_false, next64 (show i < 9223372036854775807 by omega)]
        by_cases h0 : 0 < i
        · have e1 : IntKind.i64.wrap ((i : Int) - 1) = ((i - 1 : Nat) : Int) := by rw [w64 (by omega) (by omega)]; omega
          have q3 : (0 : Int) ≤ ((i - 1 : Nat) : Int) := by omega
          have q4 : ((i - 1 : Nat) : Int) < (p.length : Int) := by omega
          have hq := (hj (i - 1) (by omega)).1
          rw [decide_eq_true (show (i : Int) > 0 by omega)]
          simp only [cond_true, e1, q3, q4, if_true, Int.toNat_natCast, v_impl_graph_leaps gb hq hh, Option.bind_some, decide_eq_true (ho.2 h0), Bool.not_true, cond_false]
        · rw [decide_eq_false (show ¬ (i : Int) > 0 by omega)]
          rfl
      · have q1 : (i : Int) < (p.length : Int) := by omega
        have q2 : (0 : Int) ≤ i := by omega
        simp only [F_impl_graph_isPath_0, S_impl_graph_isPath_0, q1, q2, decide_true, cond_true, if_true, Int.toNat_natCast, v_impl_Board_has m1 m64 hl, Option.bind_some, next64 (show i < 9223372036854775807 by omega)]
        by_cases hh : hasP w h hs (p.getD i 0)
        · by_cases h0 : 0 < i
          · have e1 : IntKind.i64.wrap ((i : Int) - 1) = ((i - 1 : Nat) : Int) := by rw [w64 (by omega) (by omega)]; omega
            have q3 : (0 : Int) ≤ ((i - 1 : Nat) : Int) := by omega
            have q4 : ((i - 1 : Nat) : Int) < (p.length : Int) := by omega
            have hq := (hj (i - 1) (by omega)).1
            rw [decide_eq_true hh, decide_eq_true (show (i : Int) > 0 by omega)]
            simp only [Bool.not_true, cond_false, cond_true, e1, q3, q4, if_true, Int.toNat_natCast, v_impl_graph_leaps gb hq hh, Option.bind_some]
            rw [decide_eq_false (fun q => ho ⟨hh, fun _ => q⟩)]
            rfl
          · exact absurd ⟨hh, fun q => absurd q h0⟩ ho
        · rw [decide_eq_false hh]; rfl
      · have q : ¬ ((p.length : Int) < (p.length : Int)) := by omega
        simp only [F_impl_graph_isPath_0, S_impl_graph_isPath_0, q, decide_false, cond_false]
      · unfold pathL
        exact ⟨fun q => q.2, fun q => ⟨by omega, q⟩⟩
theorem v_impl_graph_isWalk {w h a b : Int} {hs cs p : List Int} (gb : GoodB w h hs) (hl : hs.length ≤ 1099511627776) (hp : p.length ≤ 1099511627776) : sh_impl_graph_isWalk true w h hs a b cs (nearL w h hs a b) p = some (decide (walkL w h hs a b p)) := by
  refine sh_impl_graph_isWalk_of (n := p.length + 1) ?_
  show S_impl_graph_isWalk_e true w h hs a b cs (nearL w h hs a b) p _ _ = _
  unfold S_impl_graph_isWalk_e
  rw [v_impl_graph_isPath gb hl hp]
  by_cases hb : pathL w h hs a b p
  · rw [decide_eq_true hb]
    simp only [Option.bind_some, Bool.not_true, cond_false]
    refine loopB (F := fun n i => F_impl_graph_isWalk_0 (p.length + 1) (fun r => some r) n p (p.length : Int) (i : Int)) (len := p.length) (ok := fun i => p.getD i 0 ∉ p.take i) (fun n i hi hj ho => ?_) (fun n i hi hj ho => ?_) (fun hj n => ?_) (by omega) ?_
    · have q1 : (i : Int) < (p.length : Int) := by omega
      have q2 : (0 : Int) ≤ i := by omega
      have q3 : (i : Int) ≤ (p.length : Int) := by omega
      simp only [F_impl_graph_isWalk_0, S_impl_graph_isWalk_0, q1, q2, q3, decide_true, cond_true, if_true, Int.toNat_natCast, List.drop_zero, v_slices_Contains_int_int (l := p.take i) (by simp; omega), Option.bind_some, decide_eq_false ho, cond_false, next64 (show i < 9223372036854775807 by omega)]
    · have q1 : (i : Int) < (p.length : Int) := by omega
      have q2 : (0 : Int) ≤ i := by omega
      have q3 : (i : Int) ≤ (p.length : Int) := by omega
      simp only [F_impl_graph_isWalk_0, S_impl_graph_isWalk_0, q1, q2, q3, decide_true, cond_true, if_true, Int.toNat_natCast, List.drop_zero, v_slices_Contains_int_int (l := p.take i) (by simp; omega), Option.bind_some, decide_eq_true (Decidable.not_not.1 ho)]
    · have q : ¬ ((p.length : Int) < (p.length : Int)) := by omega
      simp only [F_impl_graph_isWalk_0, S_impl_graph_isWalk_0, q, decide_false, cond_false]
    · exact ⟨fun q => q.2, fun q => ⟨hb, q⟩⟩
  · rw [decide_eq_false hb, decide_eq_false (fun q => hb q.1)]
    rfl
theorem nodup_of_take {p : List Int} (h : ∀ i, i < p.length → p.getD i 0 ∉ p.take i) : p.Nodup := by
  rw [List.Nodup, List.pairwise_iff_getElem]
  intro i j hi hj hij e
  refine h j hj ?_
  rw [getD_lt hj, ← e, List.mem_take_iff_getElem]
  exact ⟨i, by omega, rfl⟩
/-- A list is a tour. -/
def tourL (w h : Int) (hs : List Int) (a b : Int) (p : List Int) : Prop := walkL w h hs a b p ∧ p.length = (cellsL (w * h).toNat hs).length
instance {w h a b : Int} {hs p : List Int} : Decidable (tourL w h hs a b p) := by unfold tourL; infer_instance
theorem v_spec_toTour {w h a b : Int} {hs p : List Int} (gb : GoodB w h hs) (hl : hs.length ≤ 1099511627776) (hp : p.length ≤ 1099511627776) : sh_spec_toTour w h hs a b p = some (decide (tourL w h hs a b p)) := by
  have ⟨m1, m64⟩ := gb.m
  show S_spec_toTour_e w h hs a b p (fun r => some r) = _
  unfold S_spec_toTour_e
  rw [v_spec_toWalk gb hl hp, v_spec_boCells m1 m64 hl]
  by_cases hw : walkL w h hs a b p
  · rw [decide_eq_true hw]
    simp only [Option.bind_some, cond_true]
    congr 1
    rw [decide_eq_decide]
    exact ⟨fun q => ⟨hw, by omega⟩, fun q => by have := q.2; omega⟩
  · rw [decide_eq_false hw, decide_eq_false (show ¬ tourL w h hs a b p from fun q => hw q.1)]
    rfl
theorem v_impl_graph_isTour {w h a b : Int} {hs p : List Int} (gb : GoodB w h hs) (hl : hs.length ≤ 1099511627776) (hp : p.length ≤ 1099511627776) : sh_impl_graph_isTour true w h hs a b (cellsL (w * h).toNat hs) (nearL w h hs a b) p = some (decide (tourL w h hs a b p)) := by
  show S_impl_graph_isTour_e true w h hs a b (cellsL (w * h).toNat hs) (nearL w h hs a b) p (fun r => some r) = _
  unfold S_impl_graph_isTour_e
  rw [v_impl_graph_isWalk gb hl hp]
  by_cases hw : walkL w h hs a b p
  · rw [decide_eq_true hw]
    simp only [Option.bind_some, cond_true]
    congr 1
    rw [decide_eq_decide]
    exact ⟨fun q => ⟨hw, by omega⟩, fun q => by have := q.2; omega⟩
  · rw [decide_eq_false hw, decide_eq_false (show ¬ tourL w h hs a b p from fun q => hw q.1)]
    rfl
theorem GoodB.len {w h : Int} {hs : List Int} (g : GoodB w h hs) : hs.length ≤ 63 := by have := g.few; have := g.m; omega
/-- The numbers of a tour of which some are shown. -/
structure MadeN (N : Nat) (p : List Int) (e : Int) (s : List Int) : Prop where
  len : s.length = N
  on : ∀ k, k < p.length → s.getD (p.getD k 0).toNat 0 = if (k : Int) % e = 0 then (k : Int) + 1 else 0
  off : ∀ c, c < N → (∀ k, k < p.length → (p.getD k 0).toNat ≠ c) → s.getD c 0 = 0
theorem MadeN.uniq {N : Nat} {p s t : List Int} {e : Int} (h : MadeN N p e s) (k : MadeN N p e t) : s = t := by
  refine List.ext_getElem (h.len.trans k.len.symm) fun c h1 h2 => ?_
  rw [← getD_lt (d := 0) h1, ← getD_lt (d := 0) h2]
  by_cases hx : ∃ j, j < p.length ∧ (p.getD j 0).toNat = c
  · obtain ⟨j, hj, rfl⟩ := hx
    rw [h.on j hj, k.on j hj]
  · have : ∀ j, j < p.length → (p.getD j 0).toNat ≠ c := fun j hj e => hx ⟨j, hj, e⟩
    rw [h.off c (by have := h.len; omega) this, k.off c (by have := h.len; omega) this]
theorem made_set {N : Nat} {p s : List Int} {i : Nat} {f : Nat → Int} (hnd : ∀ j k, j < p.length → k < p.length → (p.getD j 0).toNat = (p.getD k 0).toNat → j = k) (hi : i < p.length) (hr : (p.getD i 0).toNat < N) (h1 : s.length = N) (h2 : ∀ k, k < i → s.getD (p.getD k 0).toNat 0 = f k) (h3 : ∀ c, c < N → (∀ k, k < i → (p.getD k 0).toNat ≠ c) → s.getD c 0 = 0) :
    (s.set (p.getD i 0).toNat (f i)).length = N ∧ (∀ k, k < i + 1 → (s.set (p.getD i 0).toNat (f i)).getD (p.getD k 0).toNat 0 = f k) ∧ (∀ c, c < N → (∀ k, k < i + 1 → (p.getD k 0).toNat ≠ c) → (s.set (p.getD i 0).toNat (f i)).getD c 0 = 0) := by
  refine ⟨by simpa using h1, fun k hk => ?_, fun c hc hne => ?_⟩
  · rw [getD_set]
    by_cases e : (p.getD i 0).toNat = (p.getD k 0).toNat
    · have := hnd i k hi (by omega) e
      subst this
      rw [if_pos ⟨rfl, by omega⟩]
    · rw [if_neg (fun q => e q.1)]
      exact h2 k (by
        rcases Nat.lt_succ_iff_lt_or_eq.1 hk with q | q
        · exact q
        · exact absurd (by rw [q]) e)
  · rw [getD_set, if_neg (fun q => hne i (by omega) q.1)]
    exact h3 c hc fun k hk => hne k (by omega)
theorem tour_inj {w h a b : Int} {hs p : List Int} (ht : tourL w h hs a b p) : ∀ j k, j < p.length → k < p.length → (p.getD j 0).toNat = (p.getD k 0).toNat → j = k := by
  intro j k hj hk e
  have hj0 := (ht.1.1.2 j hj).1.1
  have hk0 := (ht.1.1.2 k hk).1.1
  have e : p.getD j 0 = p.getD k 0 := by omega
  have hn := nodup_of_take ht.1.2
  rw [getD_lt hj, getD_lt hk] at e
  have := List.pairwise_iff_getElem.1 hn
  rcases Nat.lt_trichotomy j k with q | q | q
  · exact absurd e (this j k hj hk q)
  · exact q
  · exact absurd e.symm (this k j hk hj q)
/-- What is made of it. -/
def MakeP (w h : Int) (hs : List Int) (a b : Int) (p : List Int) (e : Int) : Prop := GoodB w h hs ∧ GoodL a b ∧ ((cellsL (w * h).toNat hs).length : Int) ≤ 16 ∧ tourL w h hs a b p ∧ 1 ≤ e ∧ e ≤ 20
theorem v_spec_pzNumbers {w h a b : Int} {hs p : List Int} (gb : GoodB w h hs) (ht : tourL w h hs a b p) : ∃ s, sh_spec_pzNumbers w h hs p = some s ∧ MadeN (w * h).toNat p 1 s := by
  have ⟨m1, m64⟩ := gb.m
  have hm : IntKind.i64.wrap (w * h) = w * h := w64 (by omega) (by omega)
  have hp64 := ht.1.1.1.2
  obtain ⟨s, h1, h2⟩ := bld (F := fun n i s => F_spec_pzNumbers_0 100 (fun r => some r) n s p (p.length : Int) (i : Int)) (len := p.length) (out := id) (Inv := fun i s => s.length = (w * h).toNat ∧ (∀ k, k < i → s.getD (p.getD k 0).toNat 0 = (k : Int) + 1) ∧ (∀ c, c < (w * h).toNat → (∀ k, k < i → (p.getD k 0).toNat ≠ c) → s.getD c 0 = 0)) (fun n i s hi hs' => by
    obtain ⟨k1, k2, k3⟩ := hs'
    have hc := (ht.1.1.2 i hi).1
    have q1 : (i : Int) < (p.length : Int) := by omega
    have q2 : (0 : Int) ≤ i := by omega
    have q3 : p.getD i 0 < (s.length : Int) := by have := hc.2.1; omega
    have e1 : IntKind.i64.wrap ((i : Int) + 1) = (i : Int) + 1 := w64 (by omega) (by omega)
    refine ⟨_, made_set (f := fun k => (k : Int) + 1) (tour_inj ht) hi (by have := hc.2.1; omega) k1 k2 k3, ?_⟩
    simp only [F_spec_pzNumbers_0, S_spec_pzNumbers_0, q1, q2, q3, hc.1, decide_true, cond_true, if_true, Int.toNat_natCast, e1]
    rfl) (fun n s hs' => by
    have q : ¬ ((p.length : Int) < (p.length : Int)) := by omega
    simp only [F_spec_pzNumbers_0, S_spec_pzNumbers_0, q, decide_false, cond_false, id]) p.length 0 (List.replicate (w * h).toNat 0) 100 (by omega) (by omega) ⟨by simp, fun k hk => by omega, fun c hc _ => by simp [List.getD_eq_getElem?_getD, hc]⟩
  refine ⟨s, sh_spec_pzNumbers_of (n := 100) ?_, h1.1, fun k hk => ?_, h1.2.2⟩
  · show S_spec_pzNumbers_e w h hs p _ = _
    unfold S_spec_pzNumbers_e
    rw [hm, if_pos (by omega), if_pos (by omega)]
    exact h2
  · rw [h1.2.1 k hk, if_pos (Int.emod_one _)]
theorem v_spec_MakePuzzle {w h a b e : Int} {hs p : List Int} (hl : hs.length ≤ 1099511627776) (hp : p.length ≤ 1099511627776) (he : InK .i64 e) : (MakeP w h hs a b p e → ∃ s, sh_spec_MakePuzzle w h hs a b p e = some (w, h, hs, a, b, s, true) ∧ MadeN (w * h).toNat p e s) ∧ (¬ MakeP w h hs a b p e → sh_spec_MakePuzzle w h hs a b p e = some (0, 0, [], 0, 0, [], false)) := by
  obtain ⟨r, h1, h2⟩ := v_spec_boTwo (w := w) (h := h) (a := a) (b := b) hl
  constructor
  · rintro ⟨gb, gl, h16, ht, e1, e20⟩
    have hr : r = true := h2.2 ⟨gb, gl⟩
    subst hr
    have ⟨m1, m64⟩ := gb.m
    obtain ⟨s0, k1, k2⟩ := v_spec_pzNumbers gb ht
    have hln := k2.len
    have hval : ∀ c, c < s0.length → 0 ≤ s0.getD c 0 ∧ s0.getD c 0 ≤ 64 := fun c hc => by
      by_cases hx : ∃ j, j < p.length ∧ (p.getD j 0).toNat = c
      · obtain ⟨j, hj, rfl⟩ := hx
        have := k2.on j hj
        rw [if_pos (Int.emod_one _)] at this
        have := ht.1.1.1.2
        omega
      · rw [k2.off c (by omega) fun j hj e => hx ⟨j, hj, e⟩]; omega
    obtain ⟨s, i1, i2⟩ := bld (F := fun n i s => F_spec_MakePuzzle_0 100 (fun r1 r2 r3 r4 r5 r6 r7 => some (r1, r2, r3, r4, r5, r6, r7)) n e s (s0.length : Int) (i : Int) 0 w h hs a b) (len := s0.length) (out := fun s => (w, h, hs, a, b, s, true)) (Inv := fun i s => s.length = s0.length ∧ ∀ c, c < s0.length → s.getD c 0 = if c < i ∧ ¬ (s0.getD c 0 - 1).tmod e = 0 then 0 else s0.getD c 0) (fun n i s hi hs' => by
      obtain ⟨j1, j2⟩ := hs'
      have q1 : (i : Int) < (s0.length : Int) := by omega
      have q2 : (0 : Int) ≤ i := by omega
      have q3 : (i : Int) < (s.length : Int) := by omega
      have q4 : ¬ e = 0 := by omega
      have q5 : s.getD i 0 = s0.getD i 0 := by rw [j2 i hi, if_neg (by omega)]
      have := hval i hi
      have q6 : IntKind.i64.wrap (s0.getD i 0 - 1) = s0.getD i 0 - 1 := w64 (by omega) (by omega)
      by_cases hz : (s0.getD i 0 - 1).tmod e = 0
      · refine ⟨s, ⟨j1, fun c hc => ?_⟩, ?_⟩
        · rw [j2 c hc]
          by_cases hci : c = i
          · subst hci; rw [if_neg (by omega), if_neg (fun q => q.2 hz)]
          · by_cases hcl : c < i ∧ ¬ (s0.getD c 0 - 1).tmod e = 0
            · rw [if_pos hcl, if_pos ⟨by omega, hcl.2⟩]
            · rw [if_neg hcl, if_neg (fun q => hcl ⟨by omega, q.2⟩)]
        · simp only [F_spec_MakePuzzle_0, S_spec_MakePuzzle_0, q1, q2, q3, q4, q5, q6, hz, decide_true, cond_true, if_true, if_false, Bool.not_true, cond_false, Int.toNat_natCast, next64 (show i < 9223372036854775807 by omega)]
      · refine ⟨s.set i 0, ⟨by simpa using j1, fun c hc => ?_⟩, ?_⟩
        · rw [getD_set]
          by_cases hci : i = c
          · subst hci; rw [if_pos ⟨rfl, by omega⟩, if_pos ⟨by omega, hz⟩]
          · rw [if_neg (fun q => hci q.1), j2 c hc]
            by_cases hcl : c < i ∧ ¬ (s0.getD c 0 - 1).tmod e = 0
            · rw [if_pos hcl, if_pos ⟨by omega, hcl.2⟩]
            · rw [if_neg hcl, if_neg (fun q => hcl ⟨by omega, q.2⟩)]
        · simp only [F_spec_MakePuzzle_0, S_spec_MakePuzzle_0, q1, q2, q3, q4, q5, q6, hz, decide_true, decide_false, cond_true, if_true, if_false, Bool.not_false, Int.toNat_natCast, next64 (show i < 9223372036854775807 by omega)]) (fun n s hs' => by
      have q : ¬ ((s0.length : Int) < (s0.length : Int)) := by omega
      simp only [F_spec_MakePuzzle_0, S_spec_MakePuzzle_0, q, decide_false, cond_false]) s0.length 0 s0 100 (by omega) (by omega) ⟨rfl, fun c hc => by rw [if_neg (by omega)]⟩
    refine ⟨s, sh_spec_MakePuzzle_of (n := 100) ?_, i1.1.trans hln, fun k hk => ?_, fun c hc hne => ?_⟩
    · show S_spec_MakePuzzle_e w h hs a b p e _ _ = _
      unfold S_spec_MakePuzzle_e
      rw [h1, v_spec_boCells m1 m64 hl, v_spec_toTour gb hl hp, decide_eq_true ht, v_spec_l1In, decide_eq_true ⟨e1, e20⟩, v_spec_l1Own hl, k1]
      simp only [Option.bind_some, Bool.not_true, cond_false]
      rw [decide_eq_false (by omega)]
      exact i2
    · have hc := (ht.1.1.2 k hk).1
      have e0 := k2.on k hk
      rw [if_pos (Int.emod_one _)] at e0
      rw [i1.2 _ (by have := hc.2.1; omega), e0, show (k : Int) + 1 - 1 = k by omega, Int.tmod_eq_emod_of_nonneg (by omega)]
      by_cases hz : (k : Int) % e = 0
      · rw [if_neg (fun q => q.2 hz), if_pos hz]
      · rw [if_pos ⟨by have := hc.2.1; omega, hz⟩, if_neg hz]
    · rw [i1.2 c (by omega), k2.off c hc hne]
      split <;> rfl
  · intro hn
    refine sh_spec_MakePuzzle_of (n := 0) ?_
    show S_spec_MakePuzzle_e w h hs a b p e _ _ = _
    unfold S_spec_MakePuzzle_e
    rw [h1]
    cases r with
    | false => rfl
    | true =>
      obtain ⟨gb, gl⟩ := h2.1 rfl
      have ⟨m1, m64⟩ := gb.m
      rw [v_spec_boCells m1 m64 hl, v_spec_toTour gb hl hp, v_spec_l1In]
      simp only [Option.bind_some, Bool.not_true, cond_false]
      by_cases h16 : ((cellsL (w * h).toNat hs).length : Int) > 16
      · rw [decide_eq_true h16]; rfl
      · rw [decide_eq_false h16]
        by_cases ht : tourL w h hs a b p
        · rw [decide_eq_true ht, decide_eq_false (fun q => hn ⟨gb, gl, by omega, ht, q.1, q.2⟩)]; rfl
        · rw [decide_eq_false ht]; rfl
theorem v_impl_MakePuzzle {w h a b e : Int} {hs p : List Int} (hl : hs.length ≤ 1099511627776) (hp : p.length ≤ 1099511627776) : (MakeP w h hs a b p e → ∃ s, sh_impl_MakePuzzle w h hs a b p e = some (w, h, hs, a, b, s, true) ∧ MadeN (w * h).toNat p e s) ∧ (¬ MakeP w h hs a b p e → sh_impl_MakePuzzle w h hs a b p e = some (0, 0, [], 0, 0, [], false)) := by
  have hg : sh_impl_tourGraph w h hs a b 16 = S_impl_tourGraph_e w h hs a b 16 (fun r1 r2 r3 r4 r5 r6 r7 r8 r9 => some (r1, r2, r3, r4, r5, r6, r7, r8, r9)) := rfl
  unfold S_impl_tourGraph_e at hg
  constructor
  · rintro ⟨gb, gl, h16, ht, e1, e20⟩
    have ⟨m1, m64⟩ := gb.m
    rw [(v_impl_graphOf hl).1 ⟨gb, gl⟩] at hg
    simp only [Option.bind_some, Bool.not_true, cond_false, cond_true] at hg
    rw [decide_eq_false (by omega)] at hg
    simp only [cond_false] at hg
    have hp64 := ht.1.1.1.2
    obtain ⟨s, i1, i2⟩ := bld (F := fun n i s => F_impl_MakePuzzle_0 100 (fun r1 r2 r3 r4 r5 r6 r7 => some (r1, r2, r3, r4, r5, r6, r7)) n e p (p.length : Int) (i : Int) 0 w h hs a b s) (len := p.length) (out := fun s => (w, h, hs, a, b, s, true)) (Inv := fun i s => s.length = (w * h).toNat ∧ (∀ k, k < i → s.getD (p.getD k 0).toNat 0 = if (k : Int) % e = 0 then (k : Int) + 1 else 0) ∧ (∀ c, c < (w * h).toNat → (∀ k, k < i → (p.getD k 0).toNat ≠ c) → s.getD c 0 = 0)) (fun n i s hi hs' => by
      obtain ⟨k1, k2, k3⟩ := hs'
      have hc := (ht.1.1.2 i hi).1
      have q1 : (i : Int) < (p.length : Int) := by omega
      have q2 : (0 : Int) ≤ i := by omega
      have q3 : p.getD i 0 < (s.length : Int) := by have := hc.2.1; omega
      have q4 : ¬ e = 0 := by omega
      have e1 : IntKind.i64.wrap ((i : Int) + 1) = (i : Int) + 1 := w64 (by omega) (by omega)
      have hms := made_set (f := fun k => if (k : Int) % e = 0 then (k : Int) + 1 else 0) (tour_inj ht) hi (by have := hc.2.1; omega) k1 k2 k3
      by_cases hz : (i : Int) % e = 0
      · rw [if_pos hz] at hms
        refine ⟨_, hms, ?_⟩
        simp only [F_impl_MakePuzzle_0, S_impl_MakePuzzle_0, q1, q2, q3, q4, hc.1, hz, Int.tmod_eq_emod_of_nonneg q2, decide_true, cond_true, if_true, if_false, Int.toNat_natCast, e1]
        rfl
      · rw [if_neg hz] at hms
        have h0 : s.getD (p.getD i 0).toNat 0 = 0 := k3 _ (by have := hc.2.1; omega) fun k hk e => by have := tour_inj ht k i (by omega) hi e; omega
        have hset : s.set (p.getD i 0).toNat 0 = s := by
          refine List.ext_getElem (by simp) fun c c1 c2 => ?_
          rw [List.getElem_set]
          split
          · rename_i hh
            have := h0
            rw [hh, getD_lt c2] at this
            exact this.symm
          · rfl
        rw [hset] at hms
        refine ⟨s, hms, ?_⟩
        simp only [F_impl_MakePuzzle_0, S_impl_MakePuzzle_0, q1, q2, q4, hz, Int.tmod_eq_emod_of_nonneg q2, decide_true, decide_false, cond_true, cond_false, if_true, if_false, Int.toNat_natCast, e1]
        rfl) (fun n s hs' => by
      have q : ¬ ((p.length : Int) < (p.length : Int)) := by omega
      simp only [F_impl_MakePuzzle_0, S_impl_MakePuzzle_0, q, decide_false, cond_false]) p.length 0 (List.replicate (w * h).toNat 0) 100 (by omega) (by omega) ⟨by simp, fun k hk => by omega, fun c hc _ => by simp [List.getD_eq_getElem?_getD, hc]⟩
    refine ⟨s, sh_impl_MakePuzzle_of (n := 100) ?_, ⟨i1.1, i1.2.1, i1.2.2⟩⟩
    show S_impl_MakePuzzle_e w h hs a b p e _ _ = _
    unfold S_impl_MakePuzzle_e
    rw [hg]
    simp only [Option.bind_some, Bool.not_true, cond_false]
    rw [v_impl_graph_isTour gb hl hp, decide_eq_true ht, decide_eq_false (show ¬ e < 1 by omega), decide_eq_false (show ¬ e > 20 by omega)]
    simp only [Option.bind_some, Bool.not_true, cond_false, cond_true, near_len]
    rw [if_pos (by omega), if_pos (by omega), v_impl_Puzzle_own hl (by simp; omega)]
    simp only [Option.bind_some, Int.toNat_natCast]
    exact i2
  · intro hn
    refine sh_impl_MakePuzzle_of (n := 0) ?_
    show S_impl_MakePuzzle_e w h hs a b p e _ _ = _
    unfold S_impl_MakePuzzle_e
    by_cases hgb : GoodB w h hs ∧ GoodL a b
    · obtain ⟨gb, gl⟩ := hgb
      rw [(v_impl_graphOf hl).1 ⟨gb, gl⟩] at hg
      simp only [Option.bind_some, Bool.not_true, cond_false, cond_true] at hg
      by_cases h16 : ((cellsL (w * h).toNat hs).length : Int) > 16
      · rw [decide_eq_true h16] at hg
        rw [hg]; rfl
      · rw [decide_eq_false h16] at hg
        rw [hg]
        simp only [cond_false, Option.bind_some, Bool.not_true]
        rw [v_impl_graph_isTour gb hl hp]
        by_cases ht : tourL w h hs a b p
        · rw [decide_eq_true ht]
          by_cases e1 : e < 1
          · rw [decide_eq_true e1]; rfl
          · by_cases e2 : e > 20
            · rw [decide_eq_false e1, decide_eq_true e2]; rfl
            · exact absurd ⟨gb, gl, by omega, ht, by omega, by omega⟩ hn
        · rw [decide_eq_false ht]; rfl
    · rw [(v_impl_graphOf hl).2 hgb] at hg
      rw [hg]; rfl
theorem make_same {w h a b e : Int} {hs p : List Int} (hl : hs.length ≤ 1099511627776) (hp : p.length ≤ 1099511627776) (he : InK .i64 e) :
    ∃ W H l A B n t, sh_spec_MakePuzzle w h hs a b p e = some (W, H, l, A, B, n, t) ∧ sh_impl_MakePuzzle w h hs a b p e = some (W, H, l, A, B, n, t) ∧ l.length ≤ 1099511627776 ∧ n.length ≤ 1099511627776 := by
  by_cases hm : MakeP w h hs a b p e
  · obtain ⟨s, k1, k2⟩ := (v_spec_MakePuzzle hl hp he).1 hm
    obtain ⟨t, k3, k4⟩ := (v_impl_MakePuzzle hl hp).1 hm
    have e := k2.uniq k4
    subst e
    exact ⟨_, _, _, _, _, _, _, k1, k3, hl, by rw [k2.len]; have := hm.1.m; omega⟩
  · exact ⟨_, _, _, _, _, _, _, (v_spec_MakePuzzle hl hp he).2 hm, (v_impl_MakePuzzle hl hp).2 hm, by simp, by simp⟩
theorem law_FnExactMakePuzzle {p0_0 : Int} {p0_1 : Int} {p0_2 : List Int} {p1_0 : Int} {p1_1 : Int} {p2 : List Int} {p3 : Int} (hp0 : InK .i64 p0_0 ∧ InK .i64 p0_1 ∧ (∀ z ∈ p0_2, InK .i64 z) ∧ p0_2.length ≤ maxLen) (hp1 : InK .i64 p1_0 ∧ InK .i64 p1_1) (hp2 : (∀ z ∈ p2, InK .i64 z) ∧ p2.length ≤ maxLen) (hp3 : InK .i64 p3) : sh_laws_FnExactMakePuzzle p0_0 p0_1 p0_2 p1_0 p1_1 p2 p3 = some true := by
  obtain ⟨_, _, _, h1⟩ := hp0
  have h2 := hp2.2
  simp only [maxLen] at h1 h2
  show S_laws_FnExactMakePuzzle_e p0_0 p0_1 p0_2 p1_0 p1_1 p2 p3 (fun r => some r) = _
  unfold S_laws_FnExactMakePuzzle_e
  by_cases hb1 : (p2.length : Int) > 1048576
  · rw [decide_eq_true hb1]; rfl
  rw [decide_eq_false hb1, v_laws_szBoard (by omega) (by omega) (by omega)]
  by_cases hb : (1048576 : Int) < (p0_2.length : Int)
  · rw [if_pos hb]; rfl
  · simp only [if_neg hb, Option.bind_some, cond_false]
    rw [decide_eq_false (by omega)]
    simp only [cond_false]
    obtain ⟨W, H, l, A, B, n, t, q1, q2, q3, q4⟩ := make_same (w := p0_0) (h := p0_1) (a := p1_0) (b := p1_1) (e := p3) (hs := p0_2) (p := p2) (by omega) (by omega) hp3
    have g1 : decide ((1 : Int) + p0_2.length + p2.length < 0) = false := decide_eq_false (by omega)
    have g2 : decide ((1 : Int) + l.length + n.length < 0) = false := decide_eq_false (by omega)
    simp only [v_laws_toBoard (show p0_2.length ≤ 1099511627776 by omega), v_laws_toLeaper, v_laws_toIntS (show p2.length ≤ 1099511627776 by omega), Option.bind_some, q1, q2, v_laws_eqPuzzle (show l.length ≤ 9223372036854775807 by omega) (show n.length ≤ 9223372036854775807 by omega), v_laws_eqBoard (show p0_2.length ≤ 9223372036854775807 by omega), v_laws_eqIntS (show p2.length ≤ 9223372036854775807 by omega), v_laws_markBoard (show p0_2.length ≤ 1099511627776 by omega), v_laws_markIntS (l := p2) (m := (1 : Int) + p0_2.length) (by omega) (by omega), v_laws_markPuzzle q3 q4, v_laws_heldPuzzle q3 q4, g1, g2]
    simp
end Go.Proofs.Ytafdeomdhkmjmaa

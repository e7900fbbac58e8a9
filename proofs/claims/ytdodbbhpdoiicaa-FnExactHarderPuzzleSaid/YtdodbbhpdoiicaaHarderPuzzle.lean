/-
  For all arguments that can be read as data the law FnExactHarderPuzzle returns true, and the arguments read afterwards as they did. Conditions: none beside those that the row itself states.
-/
import Derived.Test.YtdodbbhpdoiicaaHarderPuzzleL
import Derived.Test.YtdodbbhpdoiicaaRows
import Derived.Test.YtdodbbhpdoiicaaChecked
import Derived.ProofKit
set_option linter.unusedVariables false
set_option linter.unusedSimpArgs false
namespace Go.Proofs.Ytdodbbhpdoiicaa
open Go.BV
open Go.ChangeShapes Go.WideShapes Go.ChangeAt Go.RowKit
theorem Try.own : ownKnob Try.prog.godebug = none := by kernel_rfl
theorem Try.laidOut : laidOutB Try.prog = true := by kernel_rfl
/-- Cells that are read. -/
theorem ssR_ds {w : World} {Z : Nat → Prop} {env : Nat → Option Nat} : ∀ {ss : List S0} {vs : List Value}, SsR w Z ss vs → DsR w Z env (ss.map S0.toS) vs
  | [], [], _ => trivial
  | _ :: _, _ :: _, h => ⟨toS_DR h.1, ssR_ds h.2⟩
  | [], _ :: _, h => h.elim
  | _ :: _, [], h => h.elim
theorem rs24 {H : Type} {enc : TypeId × Value → H} {w : World} {base : Nat} {spare : Nat → Bool} {held : Bool} {fuel : Nat} {cs : List Value} {x : DataW H × List MemPlace} (h : DataW.trod enc Try.prog w base spare held fuel 24 cs = some x) :
    ∃ q0 q1 q2, SsR w (Old w) [.int .i64 q0, .int .i64 q1, .sl (.ints .i64 q2)] cs ∧ InK .i64 q0 ∧ InK .i64 q1 ∧ (∀ z ∈ q2, InK .i64 z) ∧ q2.length ≤ maxLen := by
  obtain ⟨xs, n, _, _, hl, hlen, hf⟩ := DataW.trod_struct Try.underlying24 h
  have c3 : Try.prog.cellsOf 3 = 1 := by kernel_rfl
  have c22 : Try.prog.cellsOf 22 = 1 := by kernel_rfl
  have c_ : Try.prog.cellsOf 24 = 3 := by kernel_rfl
  have g0 : DataW.trod enc Try.prog w base spare held n 3 ((cs.drop 0).take (Try.prog.cellsOf 3)) = xs[0]? := hf 0 _ rfl
  rw [c3] at g0
  obtain ⟨y0, g0⟩ := fld_some g0 hlen (show 0 < _ by decide)
  obtain ⟨q0, s0, a0_0⟩ := rd_int (show Try.prog.underlying 3 = some (.int .i64) by kernel_rfl) g0
  have g1 : DataW.trod enc Try.prog w base spare held n 3 ((cs.drop 1).take (Try.prog.cellsOf 3)) = xs[1]? := hf 1 _ rfl
  rw [c3] at g1
  obtain ⟨y1, g1⟩ := fld_some g1 hlen (show 1 < _ by decide)
  obtain ⟨q1, s1, a1_0⟩ := rd_int (show Try.prog.underlying 3 = some (.int .i64) by kernel_rfl) g1
  have g2 : DataW.trod enc Try.prog w base spare held n 22 ((cs.drop 2).take (Try.prog.cellsOf 22)) = xs[2]? := hf 2 _ rfl
  rw [c22] at g2
  obtain ⟨y2, g2⟩ := fld_some g2 hlen (show 2 < _ by decide)
  obtain ⟨q2, s2, a2_0, a2_1⟩ := rd_ints (show Try.prog.underlying 22 = some (.slice 3) by kernel_rfl) (show Try.prog.underlying 3 = some (.int .i64) by kernel_rfl) (by kernel_rfl) g2
  have hs := SsR.glue (o := 0) (n := 1) s0 (SsR.glue (o := 1) (n := 1) s1 (SsR.glue (o := 2) (n := 1) s2 ( SsR.nil' (by omega))))
  exact ⟨q0, q1, q2, by simpa using hs, a0_0, a1_0, a2_0, a2_1⟩
set_option maxRecDepth 100000 in
theorem ra24 {H : Type} {enc : TypeId × Value → H} {w : World} {base : Nat} {spare : Nat → Bool} {held : Bool} {r : Reach} {b0 : Nat} {v : Value} {d : DataW H} {ps : List MemPlace} {env : Nat → Option Nat} (hval : Value.okWide Try.prog w r b0 24 v) (h : DataW.Trod enc Try.prog w base spare held 24 v d ps) :
    ∃ q0 q1 q2, ReadD w (Old w) env (.agg [.int .i64 q0, .int .i64 q1, .sl (.ints .i64 q2)]) v ∧ InK .i64 q0 ∧ InK .i64 q1 ∧ (∀ z ∈ q2, InK .i64 z) ∧ q2.length ≤ maxLen := by
  obtain ⟨cs, rfl, _⟩ := okWide_struct Try.underlying24 hval
  obtain ⟨fuel, hf⟩ := h
  obtain ⟨q0, q1, q2, hs, hp⟩ := rs24 hf
  exact ⟨q0, q1, q2, ⟨cs.toList, by simp, ssR_ds hs⟩, hp⟩
theorem rs26 {H : Type} {enc : TypeId × Value → H} {w : World} {base : Nat} {spare : Nat → Bool} {held : Bool} {fuel : Nat} {cs : List Value} {x : DataW H × List MemPlace} (h : DataW.trod enc Try.prog w base spare held fuel 26 cs = some x) :
    ∃ q0 q1, SsR w (Old w) [.int .i64 q0, .int .i64 q1] cs ∧ InK .i64 q0 ∧ InK .i64 q1 := by
  obtain ⟨xs, n, _, _, hl, hlen, hf⟩ := DataW.trod_struct Try.underlying26 h
  have c3 : Try.prog.cellsOf 3 = 1 := by kernel_rfl
  have c_ : Try.prog.cellsOf 26 = 2 := by kernel_rfl
  have g0 : DataW.trod enc Try.prog w base spare held n 3 ((cs.drop 0).take (Try.prog.cellsOf 3)) = xs[0]? := hf 0 _ rfl
  rw [c3] at g0
  obtain ⟨y0, g0⟩ := fld_some g0 hlen (show 0 < _ by decide)
  obtain ⟨q0, s0, a0_0⟩ := rd_int (show Try.prog.underlying 3 = some (.int .i64) by kernel_rfl) g0
  have g1 : DataW.trod enc Try.prog w base spare held n 3 ((cs.drop 1).take (Try.prog.cellsOf 3)) = xs[1]? := hf 1 _ rfl
  rw [c3] at g1
  obtain ⟨y1, g1⟩ := fld_some g1 hlen (show 1 < _ by decide)
  obtain ⟨q1, s1, a1_0⟩ := rd_int (show Try.prog.underlying 3 = some (.int .i64) by kernel_rfl) g1
  have hs := SsR.glue (o := 0) (n := 1) s0 (SsR.glue (o := 1) (n := 1) s1 ( SsR.nil' (by omega)))
  exact ⟨q0, q1, by simpa using hs, a0_0, a1_0⟩
set_option maxRecDepth 100000 in
theorem ra26 {H : Type} {enc : TypeId × Value → H} {w : World} {base : Nat} {spare : Nat → Bool} {held : Bool} {r : Reach} {b0 : Nat} {v : Value} {d : DataW H} {ps : List MemPlace} {env : Nat → Option Nat} (hval : Value.okWide Try.prog w r b0 26 v) (h : DataW.Trod enc Try.prog w base spare held 26 v d ps) :
    ∃ q0 q1, ReadD w (Old w) env (.agg [.int .i64 q0, .int .i64 q1]) v ∧ InK .i64 q0 ∧ InK .i64 q1 := by
  obtain ⟨cs, rfl, _⟩ := okWide_struct Try.underlying26 hval
  obtain ⟨fuel, hf⟩ := h
  obtain ⟨q0, q1, hs, hp⟩ := rs26 hf
  exact ⟨q0, q1, ⟨cs.toList, by simp, ssR_ds hs⟩, hp⟩
theorem rs28 {H : Type} {enc : TypeId × Value → H} {w : World} {base : Nat} {spare : Nat → Bool} {held : Bool} {fuel : Nat} {cs : List Value} {x : DataW H × List MemPlace} (h : DataW.trod enc Try.prog w base spare held fuel 28 cs = some x) :
    ∃ q0 q1 q2 q3 q4 q5, SsR w (Old w) [.int .i64 q0, .int .i64 q1, .sl (.ints .i64 q2), .int .i64 q3, .int .i64 q4, .sl (.ints .i64 q5)] cs ∧ InK .i64 q0 ∧ InK .i64 q1 ∧ (∀ z ∈ q2, InK .i64 z) ∧ q2.length ≤ maxLen ∧ InK .i64 q3 ∧ InK .i64 q4 ∧ (∀ z ∈ q5, InK .i64 z) ∧ q5.length ≤ maxLen := by
  obtain ⟨xs, n, _, _, hl, hlen, hf⟩ := DataW.trod_struct Try.underlying28 h
  have c22 : Try.prog.cellsOf 22 = 1 := by kernel_rfl
  have c24 : Try.prog.cellsOf 24 = 3 := by kernel_rfl
  have c26 : Try.prog.cellsOf 26 = 2 := by kernel_rfl
  have c_ : Try.prog.cellsOf 28 = 6 := by kernel_rfl
  have g0 : DataW.trod enc Try.prog w base spare held n 24 ((cs.drop 0).take (Try.prog.cellsOf 24)) = xs[0]? := hf 0 _ rfl
  rw [c24] at g0
  obtain ⟨y0, g0⟩ := fld_some g0 hlen (show 0 < _ by decide)
  obtain ⟨q0, q1, q2, s0, a0_0, a0_1, a0_2, a0_3⟩ := rs24 g0
  have g1 : DataW.trod enc Try.prog w base spare held n 26 ((cs.drop 3).take (Try.prog.cellsOf 26)) = xs[1]? := hf 1 _ rfl
  rw [c26] at g1
  obtain ⟨y1, g1⟩ := fld_some g1 hlen (show 1 < _ by decide)
  obtain ⟨q3, q4, s1, a1_0, a1_1⟩ := rs26 g1
  have g2 : DataW.trod enc Try.prog w base spare held n 22 ((cs.drop 5).take (Try.prog.cellsOf 22)) = xs[2]? := hf 2 _ rfl
  rw [c22] at g2
  obtain ⟨y2, g2⟩ := fld_some g2 hlen (show 2 < _ by decide)
  obtain ⟨q5, s2, a2_0, a2_1⟩ := rd_ints (show Try.prog.underlying 22 = some (.slice 3) by kernel_rfl) (show Try.prog.underlying 3 = some (.int .i64) by kernel_rfl) (by kernel_rfl) g2
  have hs := SsR.glue (o := 0) (n := 3) s0 (SsR.glue (o := 3) (n := 2) s1 (SsR.glue (o := 5) (n := 1) s2 ( SsR.nil' (by omega))))
  exact ⟨q0, q1, q2, q3, q4, q5, by simpa using hs, a0_0, a0_1, a0_2, a0_3, a1_0, a1_1, a2_0, a2_1⟩
set_option maxRecDepth 100000 in
theorem ra28 {H : Type} {enc : TypeId × Value → H} {w : World} {base : Nat} {spare : Nat → Bool} {held : Bool} {r : Reach} {b0 : Nat} {v : Value} {d : DataW H} {ps : List MemPlace} {env : Nat → Option Nat} (hval : Value.okWide Try.prog w r b0 28 v) (h : DataW.Trod enc Try.prog w base spare held 28 v d ps) :
    ∃ q0 q1 q2 q3 q4 q5, ReadD w (Old w) env (.agg [.int .i64 q0, .int .i64 q1, .sl (.ints .i64 q2), .int .i64 q3, .int .i64 q4, .sl (.ints .i64 q5)]) v ∧ InK .i64 q0 ∧ InK .i64 q1 ∧ (∀ z ∈ q2, InK .i64 z) ∧ q2.length ≤ maxLen ∧ InK .i64 q3 ∧ InK .i64 q4 ∧ (∀ z ∈ q5, InK .i64 z) ∧ q5.length ≤ maxLen := by
  obtain ⟨cs, rfl, _⟩ := okWide_struct Try.underlying28 hval
  obtain ⟨fuel, hf⟩ := h
  obtain ⟨q0, q1, q2, q3, q4, q5, hs, hp⟩ := rs28 hf
  exact ⟨q0, q1, q2, q3, q4, q5, ⟨cs.toList, by simp, ssR_ds hs⟩, hp⟩
set_option maxRecDepth 100000 in
theorem l8_lifted (os : Os) (started : os.Started) (H : Type) (enc : TypeId × Value → H) :
    ReturnsInHanded {} Try.checked os 8 .any (Rows.fnExactHarderPuzzleSpec.pre6 enc Try.prog Try.f8 Rows.fnExactHarderPuzzleRow.domain false) (Rows.fnExactHarderPuzzleSpec.post enc Try.prog Try.f8 false true false false) := by
  refine law_lifted (C := Try.checked) (o := o_laws_FnExactHarderPuzzle) (t := 4) Try.own started (by kernel_rfl) Try.func8
    (ChangeSpec.witness6 (enc := enc) (C := Try.checked) false ⟨#[], #[.agg #[.int .i64 0, .int .i64 0, .slice none 0 0, .int .i64 0, .int .i64 0, .slice none 0 0]], []⟩ 8 (by kernel_rfl) (by kernel_rfl) (by kernel_rfl) (by kernel_rfl))
    rfl (fun ds hl => ?_) (by kernel_rfl) (by kernel_rfl) Try.laidOut (fun t ht => ?_) m_laws_FnExactHarderPuzzle (fun W base args ds p hval0 hA0 => ?_)
  · have hl : ds.length = 1 := hl
    match ds, hl with
    | [d0], _ => rfl
  · replace ht : t ∈ Try.f8.params.toList := ht
    rw [Try.params8] at ht
    simp only [List.mem_cons, List.not_mem_nil, or_false] at ht
    rcases ht with rfl <;> exact ⟨by kernel_rfl, of_decide_eq_true (by kernel_rfl)⟩
  · have hA : DataW.TrodAll enc Try.prog W 0 (fun _ => true) true Try.f8.params.toList args.toList ds p := hA0
    have hval : ∀ (j : Nat) t v, Try.f8.params[j]? = some t → args[j]? = some v → Value.okWide Try.prog W .any base t v := hval0
    clear hA0 hval0
    rw [Try.params8] at hA hval
    obtain ⟨v0, e0, rfl, rfl, h0⟩ := trodAll_one hA
    obtain ⟨p0_0, p0_1, p0_2, p0_3, p0_4, p0_5, hr0, hp0⟩ := ra28 (hval 0 28 v0 rfl rfl) h0
    refine ⟨[.agg [.int .i64 p0_0, .int .i64 p0_1, .sl (.ints .i64 p0_2), .int .i64 p0_3, .int .i64 p0_4, .sl (.ints .i64 p0_5)]], Nat.le_refl _, ⟨hr0, fun _ h => h⟩, ?_⟩
    show (sh_laws_FnExactHarderPuzzle p0_0 p0_1 p0_2 p0_3 p0_4 p0_5).bind (fun r => some (⟨[.x (.bool r)], []⟩ : Out)) = some (⟨[.x (.bool true)], []⟩ : Out)
    rw [law_FnExactHarderPuzzle hp0]
    rfl
theorem fnExactHarderPuzzle_holds : Rows.FnExactHarderPuzzleSaid :=
  OpenClaim.holds_of_wide 8 Try.f8 rfl rfl rfl rfl rfl rfl rfl ⟨rfl, rfl, rfl, rfl, rfl⟩ rfl rfl rfl rfl rfl (by kernel_rfl) Try.func8 (by kernel_rfl)
    (of_decide_eq_true (by kernel_rfl)) (by unfold Func.isWrapper; first | (rw [if_pos (by decide +kernel)]; kernel_rfl) | (rw [if_neg (by decide +kernel)]; exact ⟨rfl, rfl⟩))
    (fun os started H enc _ => l8_lifted os started H enc)
end Go.Proofs.Ytdodbbhpdoiicaa

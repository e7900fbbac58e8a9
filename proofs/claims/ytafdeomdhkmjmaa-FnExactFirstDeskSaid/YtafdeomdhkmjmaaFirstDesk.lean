/-
  For all arguments that can be read as data the law FnExactFirstDesk returns true, and the arguments read afterwards as they did. Conditions: none beside those that the row itself states.
-/
import Derived.Test.YtafdeomdhkmjmaaFirstDeskL
import Derived.Test.YtafdeomdhkmjmaaRows
import Derived.Test.YtafdeomdhkmjmaaChecked
import Derived.ProofKit
set_option linter.unusedVariables false
set_option linter.unusedSimpArgs false
namespace Go.Proofs.Ytafdeomdhkmjmaa
open Go.BV
open Go.ChangeShapes Go.WideShapes Go.ChangeAt Go.RowKit
theorem Try.own : ownKnob Try.prog.godebug = none := by kernel_rfl
theorem Try.laidOut : laidOutB Try.prog = true := by kernel_rfl

set_option maxRecDepth 100000 in
theorem l3_lifted (os : Os) (started : os.Started) (H : Type) (enc : TypeId × Value → H) :
    ReturnsInHanded {} Try.checked os 3 .any (Rows.fnExactFirstDeskSpec.pre6 enc Try.prog Try.f3 Rows.fnExactFirstDeskRow.domain false) (Rows.fnExactFirstDeskSpec.post enc Try.prog Try.f3 false true false false) := by
  refine law_lifted (C := Try.checked) (o := o_laws_FnExactFirstDesk) (t := 4) Try.own started (by kernel_rfl) Try.func3
    (ChangeSpec.witness6 (enc := enc) (C := Try.checked) false ⟨#[], #[], []⟩ 8 (by kernel_rfl) (by kernel_rfl) (by kernel_rfl) (by kernel_rfl))
    rfl (fun ds hl => ?_) (by kernel_rfl) (by kernel_rfl) Try.laidOut (fun t ht => ?_) m_laws_FnExactFirstDesk (fun W base args ds p hval0 hA0 => ?_)
  · have hl : ds.length = 0 := hl
    match ds, hl with
    | [], _ => rfl
  · replace ht : t ∈ Try.f3.params.toList := ht
    rw [Try.params3] at ht
    simp only [List.mem_cons, List.not_mem_nil, or_false] at ht
  · have hA : DataW.TrodAll enc Try.prog W 0 (fun _ => true) true Try.f3.params.toList args.toList ds p := hA0
    have hval : ∀ (j : Nat) t v, Try.f3.params[j]? = some t → args[j]? = some v → Value.okWide Try.prog W .any base t v := hval0
    clear hA0 hval0
    rw [Try.params3] at hA hval
    obtain ⟨rfl, rfl, rfl⟩ := trodAll_none hA
    refine ⟨[], Nat.le_refl _, fun _ h => h, ?_⟩
    show (sh_laws_FnExactFirstDesk ).bind (fun r => some (⟨[.x (.bool r)], []⟩ : Out)) = some (⟨[.x (.bool true)], []⟩ : Out)
    rw [law_FnExactFirstDesk ]
    rfl
theorem fnExactFirstDesk_holds : Rows.FnExactFirstDeskSaid :=
  OpenClaim.holds_of_wide 3 Try.f3 rfl rfl rfl rfl rfl rfl rfl ⟨rfl, rfl, rfl, rfl, rfl⟩ rfl rfl rfl rfl rfl (by kernel_rfl) Try.func3 (by kernel_rfl)
    (of_decide_eq_true (by kernel_rfl)) (by unfold Func.isWrapper; first | (rw [if_pos (by decide +kernel)]; kernel_rfl) | (rw [if_neg (by decide +kernel)]; exact ⟨rfl, rfl⟩))
    (fun os started H enc _ => l3_lifted os started H enc)
end Go.Proofs.Ytafdeomdhkmjmaa

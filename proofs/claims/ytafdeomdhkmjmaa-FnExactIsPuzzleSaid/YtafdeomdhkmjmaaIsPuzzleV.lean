/-
  The walks: what each function of the law answers is what the plain function beside it answers.
-/
import Derived.Test.YtafdeomdhkmjmaaB3
import Derived.KernelRfl
import Derived.Test.YtafdeomdhkmjmaaProg
set_option linter.unusedVariables false
set_option linter.unusedSimpArgs false
/-
  The walks: each function is the plain function that stands beside it.
-/
namespace Go.Proofs.Ytafdeomdhkmjmaa
open Go.BV
noncomputable section
theorem tok3 : TOk Try.prog 3 ⟨.int .i64, 1, [.int .i64 0]⟩ := tok_mk (z := .int .i64 0) (by kernel_rfl) (by kernel_rfl) (fun _ _ => ⟨rfl, trivial⟩) (show Try.prog.underlying 3 = some (.int .i64) by kernel_rfl)
theorem tok4 : TOk Try.prog 4 ⟨.bool, 1, [.bool false]⟩ := tok_mk (z := .bool false) (by kernel_rfl) (by kernel_rfl) (fun _ _ => ⟨rfl, trivial⟩) (show Try.prog.underlying 4 = some (.bool) by kernel_rfl)
theorem tok22 : TOk Try.prog 22 ⟨.slice (.ints .i64 []), 1, [.nil (.ints .i64 [])]⟩ := tok_mk (z := .slice none 0 0) (by kernel_rfl) (by kernel_rfl) (fun _ _ => ⟨⟨rfl, rfl⟩, trivial⟩) (desc_slice (e := 3) (c := .ints .i64 []) (d := .int .i64) (ze := .int .i64 0) (b := 8) (by kernel_rfl) (show Try.prog.underlying 3 = some (.int .i64) by kernel_rfl) (by kernel_rfl) rfl (by kernel_rfl) (by kernel_rfl) (by decide) (by kernel_rfl) rfl zero_ints)
theorem tok24 : TOk Try.prog 24 ⟨.struct [(0, 1, false), (1, 1, false), (2, 1, false)], 3, [.int .i64 0, .int .i64 0, .nil (.ints .i64 [])]⟩ := tok_mk (z := .agg #[.int .i64 0, .int .i64 0, .slice none 0 0]) (by kernel_rfl) (by kernel_rfl) (fun _ _ => ⟨rfl, rfl, ⟨rfl, rfl⟩, trivial⟩) (desc_struct Try.underlying24 ⟨rfl, by kernel_rfl, rfl, ⟨_, Try.underlying3, rfl⟩, ⟨rfl, by kernel_rfl, rfl, ⟨_, Try.underlying3, rfl⟩, ⟨rfl, by kernel_rfl, rfl, ⟨_, Try.underlying22, rfl⟩, trivial⟩⟩⟩)
theorem tok26 : TOk Try.prog 26 ⟨.struct [(0, 1, false), (1, 1, false)], 2, [.int .i64 0, .int .i64 0]⟩ := tok_mk (z := .agg #[.int .i64 0, .int .i64 0]) (by kernel_rfl) (by kernel_rfl) (fun _ _ => ⟨rfl, rfl, trivial⟩) (desc_struct Try.underlying26 ⟨rfl, by kernel_rfl, rfl, ⟨_, Try.underlying3, rfl⟩, ⟨rfl, by kernel_rfl, rfl, ⟨_, Try.underlying3, rfl⟩, trivial⟩⟩)
theorem tok33 : TOk Try.prog 33 ⟨.struct [(0, 1, false), (1, 1, false), (2, 1, false)], 3, [.int .i64 0, .int .i64 0, .nil (.ints .i64 [])]⟩ := tok_mk (z := .agg #[.int .i64 0, .int .i64 0, .slice none 0 0]) (by kernel_rfl) (by kernel_rfl) (fun _ _ => ⟨rfl, rfl, ⟨rfl, rfl⟩, trivial⟩) (desc_struct Try.underlying33 ⟨rfl, by kernel_rfl, rfl, ⟨_, Try.underlying3, rfl⟩, ⟨rfl, by kernel_rfl, rfl, ⟨_, Try.underlying3, rfl⟩, ⟨rfl, by kernel_rfl, rfl, ⟨_, Try.underlying22, rfl⟩, trivial⟩⟩⟩)
theorem tok34 : TOk Try.prog 34 ⟨.struct [(0, 1, false), (1, 1, false)], 2, [.int .i64 0, .int .i64 0]⟩ := tok_mk (z := .agg #[.int .i64 0, .int .i64 0]) (by kernel_rfl) (by kernel_rfl) (fun _ _ => ⟨rfl, rfl, trivial⟩) (desc_struct Try.underlying34 ⟨rfl, by kernel_rfl, rfl, ⟨_, Try.underlying3, rfl⟩, ⟨rfl, by kernel_rfl, rfl, ⟨_, Try.underlying3, rfl⟩, trivial⟩⟩)
theorem tok36 : TOk Try.prog 36 ⟨.struct [(0, 3, true), (3, 2, true), (5, 1, false)], 6, [.int .i64 0, .int .i64 0, .nil (.ints .i64 []), .int .i64 0, .int .i64 0, .nil (.ints .i64 [])]⟩ := tok_mk (z := .agg #[.int .i64 0, .int .i64 0, .slice none 0 0, .int .i64 0, .int .i64 0, .slice none 0 0]) (by kernel_rfl) (by kernel_rfl) (fun _ _ => ⟨rfl, rfl, ⟨rfl, rfl⟩, rfl, rfl, ⟨rfl, rfl⟩, trivial⟩) (desc_struct Try.underlying36 ⟨rfl, by kernel_rfl, rfl, ⟨_, Try.underlying33, rfl⟩, ⟨rfl, by kernel_rfl, rfl, ⟨_, Try.underlying34, rfl⟩, ⟨rfl, by kernel_rfl, rfl, ⟨_, Try.underlying22, rfl⟩, trivial⟩⟩⟩)
theorem tok40 : TOk Try.prog 40 ⟨.struct [(0, 3, true), (3, 2, true), (5, 1, false)], 6, [.int .i64 0, .int .i64 0, .nil (.ints .i64 []), .int .i64 0, .int .i64 0, .nil (.ints .i64 [])]⟩ := tok_mk (z := .agg #[.int .i64 0, .int .i64 0, .slice none 0 0, .int .i64 0, .int .i64 0, .slice none 0 0]) (by kernel_rfl) (by kernel_rfl) (fun _ _ => ⟨rfl, rfl, ⟨rfl, rfl⟩, rfl, rfl, ⟨rfl, rfl⟩, trivial⟩) (desc_struct Try.underlying40 ⟨rfl, by kernel_rfl, rfl, ⟨_, Try.underlying24, rfl⟩, ⟨rfl, by kernel_rfl, rfl, ⟨_, Try.underlying26, rfl⟩, ⟨rfl, by kernel_rfl, rfl, ⟨_, Try.underlying22, rfl⟩, trivial⟩⟩⟩)
theorem tok75 : TOk Try.prog 75 ⟨.slice (.bools []), 1, [.nil (.bools [])]⟩ := tok_mk (z := .slice none 0 0) (by kernel_rfl) (by kernel_rfl) (fun _ _ => ⟨⟨rfl, rfl⟩, trivial⟩) (desc_slice (e := 4) (c := .bools []) (d := .bool) (ze := .bool false) (b := 1) (by kernel_rfl) trivial (by kernel_rfl) rfl (by kernel_rfl) (by kernel_rfl) (by decide) (by kernel_rfl) rfl zero_bools)
def TTl : List (TypeId × TI) := [(3, ⟨.int .i64, 1, [.int .i64 0]⟩), (4, ⟨.bool, 1, [.bool false]⟩), (22, ⟨.slice (.ints .i64 []), 1, [.nil (.ints .i64 [])]⟩), (24, ⟨.struct [(0, 1, false), (1, 1, false), (2, 1, false)], 3, [.int .i64 0, .int .i64 0, .nil (.ints .i64 [])]⟩), (26, ⟨.struct [(0, 1, false), (1, 1, false)], 2, [.int .i64 0, .int .i64 0]⟩), (33, ⟨.struct [(0, 1, false), (1, 1, false), (2, 1, false)], 3, [.int .i64 0, .int .i64 0, .nil (.ints .i64 [])]⟩), (34, ⟨.struct [(0, 1, false), (1, 1, false)], 2, [.int .i64 0, .int .i64 0]⟩), (36, ⟨.struct [(0, 3, true), (3, 2, true), (5, 1, false)], 6, [.int .i64 0, .int .i64 0, .nil (.ints .i64 []), .int .i64 0, .int .i64 0, .nil (.ints .i64 [])]⟩), (40, ⟨.struct [(0, 3, true), (3, 2, true), (5, 1, false)], 6, [.int .i64 0, .int .i64 0, .nil (.ints .i64 []), .int .i64 0, .int .i64 0, .nil (.ints .i64 [])]⟩), (75, ⟨.slice (.bools []), 1, [.nil (.bools [])]⟩)]
def TT : TypeId → TI := tlk TTl
theorem tsOk : TsOk Try.prog TT := tsok_list (l := TTl) (List.forall_mem_cons.2 ⟨⟨by simp, tok3⟩, (List.forall_mem_cons.2 ⟨⟨by simp, tok4⟩, (List.forall_mem_cons.2 ⟨⟨by simp, tok22⟩, (List.forall_mem_cons.2 ⟨⟨by simp, tok24⟩, (List.forall_mem_cons.2 ⟨⟨by simp, tok26⟩, (List.forall_mem_cons.2 ⟨⟨by simp, tok33⟩, (List.forall_mem_cons.2 ⟨⟨by simp, tok34⟩, (List.forall_mem_cons.2 ⟨⟨by simp, tok36⟩, (List.forall_mem_cons.2 ⟨⟨by simp, tok40⟩, (List.forall_mem_cons.2 ⟨⟨by simp, tok75⟩, (List.forall_mem_nil _)⟩)⟩)⟩)⟩)⟩)⟩)⟩)⟩)⟩)⟩)
theorem mixed : Try.prog.follows .mixedOrders = true := by kernel_rfl
/-! f54 loop.example.g01239.laws.szIntS -/
noncomputable def b54 : Code := Try.f54.body.getD .skip
def kp54 : Nat → Option Keep := lk []
def O54 : List (FuncId × Ora) := []
def S54_e {ρ : Type} (p0 : List Int) (p1 : Int)   (K : Int → Option ρ) : Option ρ :=
  (bif decide ((IntKind.i64.wrap (p1 - (p0.length : Int))) < (0 : Int)) then K (-1 : Int) else K (IntKind.i64.wrap (p1 - (p0.length : Int))))
theorem s54_e {ρ : Type} (fuel : Nat) (p0 : List Int) (p1 : Int) (Kk : Out → Option ρ) : runFn TT (lk O54) kp54 fuel [.val, .val] false 12 [.tmp 4] b54 [.x (.sl (.ints .i64 p0)), .x (.int .i64 p1)] Kk = S54_e p0 p1   (fun r1 => Kk ⟨[.x (.int .i64 r1)], []⟩) := by
  kernel_rfl
def F54 {ρ : Type} (fuel : Nat) (p0 : List Int) (p1 : Int)  (K : Int → Option ρ) : Option ρ := S54_e p0 p1   K
theorem f54 {ρ : Type} (fuel : Nat) (p0 : List Int) (p1 : Int) (Kk : Out → Option ρ) : runFn TT (lk O54) kp54 fuel [.val, .val] false 12 [.tmp 4] b54 [.x (.sl (.ints .i64 p0)), .x (.int .i64 p1)] Kk = F54 fuel p0 p1 (fun r1 => Kk ⟨[.x (.int .i64 r1)], []⟩) := by
  rw [s54_e, F54]
noncomputable def sh54 (p0 : List Int) (p1 : Int) : Option (Int) := F54 0 p0 p1 (fun r1 => some r1)
noncomputable def G54 {ρ : Type} : List DU → (Out → Option ρ) → Option ρ
  | [.x (.sl (.ints .i64 p0)), .x (.int .i64 p1)], K => (sh54 p0 p1).bind fun r => K ⟨[.x (.int .i64 r)], []⟩
  | _, _ => none
noncomputable def o54 : Ora := ⟨[.val, .val], false, G54⟩
def un54 : Out → Option (Int)
  | ⟨[.x (.int .i64 r1)], []⟩ => some r1
  | _ => none
theorem un54_ok {o : Out} {r : Int} (h : un54 o = some r) : o = ⟨[.x (.int .i64 r)], []⟩ := by
  unfold un54 at h
  split at h
  · injection h with h
    subst h
    rfl
  · cases h
theorem n54 : ∀ k o, lk O54 k = some o → Nat1 o := fun k o h => (ook_list (P := Try.prog) (l := O54) (List.forall_mem_nil _)).nat k o h
theorem u54 (fuel : Nat) (p0 : List Int) (p1 : Int) : runFn TT (lk O54) kp54 fuel [.val, .val] false 12 [.tmp 4] b54 [.x (.sl (.ints .i64 p0)), .x (.int .i64 p1)] un54 = F54 fuel p0 p1 (fun r1 => some r1) := f54 fuel p0 p1 un54
theorem m54 : MeetsO Try.prog 54 o54 := by
  refine ⟨fun ρ ds K => ?_, ⟨_, meets_run (kp := kp54) tsOk (ook_list (l := O54) (List.forall_mem_nil _)) mixed Try.func54 (body := b54) (by kernel_rfl) (ntmps := 12) (by kernel_rfl) (rs := [.tmp 4]) (by kernel_rfl), fun ds out h => ?_⟩, ⟨_, Try.func54, by kernel_rfl, by kernel_rfl⟩⟩
  · show G54 ds K = (G54 ds some).bind K
    unfold G54
    split
    · cases sh54 _ _ <;> rfl
    · rfl
  · replace h : G54 ds some = some out := h
    unfold G54 at h
    split at h
    · obtain ⟨r, hr, h⟩ := Option.bind_eq_some_iff.1 h
      injection h with h
      subst h
      have hn := (u54 0 _ _).trans hr
      rw [runFn_bind (K := un54) (K' := some) (f := un54) n54 (fun _ => rfl)] at hn
      obtain ⟨o, h1, h2⟩ := Option.bind_eq_some_iff.1 hn
      rw [un54_ok h2] at h1
      exact ⟨0, h1⟩
    · cases h
/-! f43 loop.example.g01239.laws.szBoard -/
noncomputable def b43 : Code := Try.f43.body.getD .skip
def kp43 : Nat → Option Keep := lk []
def O43 : List (FuncId × Ora) := [(54, o54)]
def S43_e {ρ : Type} (p0_0 : Int) (p0_1 : Int) (p0_2 : List Int) (p1 : Int)   (K : Int → Option ρ) : Option ρ :=
  ((sh54 p0_2 p1).bind fun r1 => (bif decide (r1 < (0 : Int)) then K (-1 : Int) else K r1))
theorem s43_e {ρ : Type} (fuel : Nat) (p0_0 : Int) (p0_1 : Int) (p0_2 : List Int) (p1 : Int) (Kk : Out → Option ρ) : runFn TT (lk O43) kp43 fuel [.val, .val] false 12 [.tmp 4] b43 [.agg [.int .i64 p0_0, .int .i64 p0_1, .sl (.ints .i64 p0_2)], .x (.int .i64 p1)] Kk = S43_e p0_0 p0_1 p0_2 p1   (fun r1 => Kk ⟨[.x (.int .i64 r1)], []⟩) := by
  kernel_rfl
def F43 {ρ : Type} (fuel : Nat) (p0_0 : Int) (p0_1 : Int) (p0_2 : List Int) (p1 : Int)  (K : Int → Option ρ) : Option ρ := S43_e p0_0 p0_1 p0_2 p1   K
theorem f43 {ρ : Type} (fuel : Nat) (p0_0 : Int) (p0_1 : Int) (p0_2 : List Int) (p1 : Int) (Kk : Out → Option ρ) : runFn TT (lk O43) kp43 fuel [.val, .val] false 12 [.tmp 4] b43 [.agg [.int .i64 p0_0, .int .i64 p0_1, .sl (.ints .i64 p0_2)], .x (.int .i64 p1)] Kk = F43 fuel p0_0 p0_1 p0_2 p1 (fun r1 => Kk ⟨[.x (.int .i64 r1)], []⟩) := by
  rw [s43_e, F43]
noncomputable def sh43 (p0_0 : Int) (p0_1 : Int) (p0_2 : List Int) (p1 : Int) : Option (Int) := F43 0 p0_0 p0_1 p0_2 p1 (fun r1 => some r1)
noncomputable def G43 {ρ : Type} : List DU → (Out → Option ρ) → Option ρ
  | [.agg [.int .i64 p0_0, .int .i64 p0_1, .sl (.ints .i64 p0_2)], .x (.int .i64 p1)], K => (sh43 p0_0 p0_1 p0_2 p1).bind fun r => K ⟨[.x (.int .i64 r)], []⟩
  | _, _ => none
noncomputable def o43 : Ora := ⟨[.val, .val], false, G43⟩
def un43 : Out → Option (Int)
  | ⟨[.x (.int .i64 r1)], []⟩ => some r1
  | _ => none
theorem un43_ok {o : Out} {r : Int} (h : un43 o = some r) : o = ⟨[.x (.int .i64 r)], []⟩ := by
  unfold un43 at h
  split at h
  · injection h with h
    subst h
    rfl
  · cases h
theorem n43 : ∀ k o, lk O43 k = some o → Nat1 o := fun k o h => (ook_list (P := Try.prog) (l := O43) (List.forall_mem_cons.2 ⟨m54, (List.forall_mem_nil _)⟩)).nat k o h
theorem u43 (fuel : Nat) (p0_0 : Int) (p0_1 : Int) (p0_2 : List Int) (p1 : Int) : runFn TT (lk O43) kp43 fuel [.val, .val] false 12 [.tmp 4] b43 [.agg [.int .i64 p0_0, .int .i64 p0_1, .sl (.ints .i64 p0_2)], .x (.int .i64 p1)] un43 = F43 fuel p0_0 p0_1 p0_2 p1 (fun r1 => some r1) := f43 fuel p0_0 p0_1 p0_2 p1 un43
theorem m43 : MeetsO Try.prog 43 o43 := by
  refine ⟨fun ρ ds K => ?_, ⟨_, meets_run (kp := kp43) tsOk (ook_list (l := O43) (List.forall_mem_cons.2 ⟨m54, (List.forall_mem_nil _)⟩)) mixed Try.func43 (body := b43) (by kernel_rfl) (ntmps := 12) (by kernel_rfl) (rs := [.tmp 4]) (by kernel_rfl), fun ds out h => ?_⟩, ⟨_, Try.func43, by kernel_rfl, by kernel_rfl⟩⟩
  · show G43 ds K = (G43 ds some).bind K
    unfold G43
    split
    · cases sh43 _ _ _ _ <;> rfl
    · rfl
  · replace h : G43 ds some = some out := h
    unfold G43 at h
    split at h
    · obtain ⟨r, hr, h⟩ := Option.bind_eq_some_iff.1 h
      injection h with h
      subst h
      have hn := (u43 0 _ _ _ _).trans hr
      rw [runFn_bind (K := un43) (K' := some) (f := un43) n43 (fun _ => rfl)] at hn
      obtain ⟨o, h1, h2⟩ := Option.bind_eq_some_iff.1 hn
      rw [un43_ok h2] at h1
      exact ⟨0, h1⟩
    · cases h
/-! f18 loop.example.g01239.laws.szPuzzle -/
noncomputable def b18 : Code := Try.f18.body.getD .skip
def kp18 : Nat → Option Keep := lk []
def O18 : List (FuncId × Ora) := [(43, o43), (54, o54)]
def S18_e {ρ : Type} (p0_0 : Int) (p0_1 : Int) (p0_2 : List Int) (p0_3 : Int) (p0_4 : Int) (p0_5 : List Int) (p1 : Int)   (K : Int → Option ρ) : Option ρ :=
  ((sh43 p0_0 p0_1 p0_2 p1).bind fun r1 => (bif decide (r1 < (0 : Int)) then K (-1 : Int) else ((sh54 p0_5 r1).bind fun r2 => (bif decide (r2 < (0 : Int)) then K (-1 : Int) else K r2))))
theorem s18_e {ρ : Type} (fuel : Nat) (p0_0 : Int) (p0_1 : Int) (p0_2 : List Int) (p0_3 : Int) (p0_4 : Int) (p0_5 : List Int) (p1 : Int) (Kk : Out → Option ρ) : runFn TT (lk O18) kp18 fuel [.val, .val] false 18 [.tmp 4] b18 [.agg [.int .i64 p0_0, .int .i64 p0_1, .sl (.ints .i64 p0_2), .int .i64 p0_3, .int .i64 p0_4, .sl (.ints .i64 p0_5)], .x (.int .i64 p1)] Kk = S18_e p0_0 p0_1 p0_2 p0_3 p0_4 p0_5 p1   (fun r1 => Kk ⟨[.x (.int .i64 r1)], []⟩) := by
  kernel_rfl
def F18 {ρ : Type} (fuel : Nat) (p0_0 : Int) (p0_1 : Int) (p0_2 : List Int) (p0_3 : Int) (p0_4 : Int) (p0_5 : List Int) (p1 : Int)  (K : Int → Option ρ) : Option ρ := S18_e p0_0 p0_1 p0_2 p0_3 p0_4 p0_5 p1   K
theorem f18 {ρ : Type} (fuel : Nat) (p0_0 : Int) (p0_1 : Int) (p0_2 : List Int) (p0_3 : Int) (p0_4 : Int) (p0_5 : List Int) (p1 : Int) (Kk : Out → Option ρ) : runFn TT (lk O18) kp18 fuel [.val, .val] false 18 [.tmp 4] b18 [.agg [.int .i64 p0_0, .int .i64 p0_1, .sl (.ints .i64 p0_2), .int .i64 p0_3, .int .i64 p0_4, .sl (.ints .i64 p0_5)], .x (.int .i64 p1)] Kk = F18 fuel p0_0 p0_1 p0_2 p0_3 p0_4 p0_5 p1 (fun r1 => Kk ⟨[.x (.int .i64 r1)], []⟩) := by
  rw [s18_e, F18]
noncomputable def sh18 (p0_0 : Int) (p0_1 : Int) (p0_2 : List Int) (p0_3 : Int) (p0_4 : Int) (p0_5 : List Int) (p1 : Int) : Option (Int) := F18 0 p0_0 p0_1 p0_2 p0_3 p0_4 p0_5 p1 (fun r1 => some r1)
noncomputable def G18 {ρ : Type} : List DU → (Out → Option ρ) → Option ρ
  | [.agg [.int .i64 p0_0, .int .i64 p0_1, .sl (.ints .i64 p0_2), .int .i64 p0_3, .int .i64 p0_4, .sl (.ints .i64 p0_5)], .x (.int .i64 p1)], K => (sh18 p0_0 p0_1 p0_2 p0_3 p0_4 p0_5 p1).bind fun r => K ⟨[.x (.int .i64 r)], []⟩
  | _, _ => none
noncomputable def o18 : Ora := ⟨[.val, .val], false, G18⟩
def un18 : Out → Option (Int)
  | ⟨[.x (.int .i64 r1)], []⟩ => some r1
  | _ => none
theorem un18_ok {o : Out} {r : Int} (h : un18 o = some r) : o = ⟨[.x (.int .i64 r)], []⟩ := by
  unfold un18 at h
  split at h
  · injection h with h
    subst h
    rfl
  · cases h
theorem n18 : ∀ k o, lk O18 k = some o → Nat1 o := fun k o h => (ook_list (P := Try.prog) (l := O18) (List.forall_mem_cons.2 ⟨m43, (List.forall_mem_cons.2 ⟨m54, (List.forall_mem_nil _)⟩)⟩)).nat k o h
theorem u18 (fuel : Nat) (p0_0 : Int) (p0_1 : Int) (p0_2 : List Int) (p0_3 : Int) (p0_4 : Int) (p0_5 : List Int) (p1 : Int) : runFn TT (lk O18) kp18 fuel [.val, .val] false 18 [.tmp 4] b18 [.agg [.int .i64 p0_0, .int .i64 p0_1, .sl (.ints .i64 p0_2), .int .i64 p0_3, .int .i64 p0_4, .sl (.ints .i64 p0_5)], .x (.int .i64 p1)] un18 = F18 fuel p0_0 p0_1 p0_2 p0_3 p0_4 p0_5 p1 (fun r1 => some r1) := f18 fuel p0_0 p0_1 p0_2 p0_3 p0_4 p0_5 p1 un18
theorem m18 : MeetsO Try.prog 18 o18 := by
  refine ⟨fun ρ ds K => ?_, ⟨_, meets_run (kp := kp18) tsOk (ook_list (l := O18) (List.forall_mem_cons.2 ⟨m43, (List.forall_mem_cons.2 ⟨m54, (List.forall_mem_nil _)⟩)⟩)) mixed Try.func18 (body := b18) (by kernel_rfl) (ntmps := 18) (by kernel_rfl) (rs := [.tmp 4]) (by kernel_rfl), fun ds out h => ?_⟩, ⟨_, Try.func18, by kernel_rfl, by kernel_rfl⟩⟩
  · show G18 ds K = (G18 ds some).bind K
    unfold G18
    split
    · cases sh18 _ _ _ _ _ _ _ <;> rfl
    · rfl
  · replace h : G18 ds some = some out := h
    unfold G18 at h
    split at h
    · obtain ⟨r, hr, h⟩ := Option.bind_eq_some_iff.1 h
      injection h with h
      subst h
      have hn := (u18 0 _ _ _ _ _ _ _).trans hr
      rw [runFn_bind (K := un18) (K' := some) (f := un18) n18 (fun _ => rfl)] at hn
      obtain ⟨o, h1, h2⟩ := Option.bind_eq_some_iff.1 hn
      rw [un18_ok h2] at h1
      exact ⟨0, h1⟩
    · cases h
/-! f75 loop.example.g01239.spec.l1In -/
noncomputable def b75 : Code := Try.f75.body.getD .skip
def kp75 : Nat → Option Keep := lk []
def O75 : List (FuncId × Ora) := []
def S75_e {ρ : Type} (p0 : Int) (p1 : Int) (p2 : Int)   (K : Bool → Option ρ) : Option ρ :=
  (bif decide (p0 ≥ p1) then K (decide (p0 ≤ p2)) else K false)
theorem s75_e {ρ : Type} (fuel : Nat) (p0 : Int) (p1 : Int) (p2 : Int) (Kk : Out → Option ρ) : runFn TT (lk O75) kp75 fuel [.val, .val, .val] false 15 [.tmp 6] b75 [.x (.int .i64 p0), .x (.int .i64 p1), .x (.int .i64 p2)] Kk = S75_e p0 p1 p2   (fun r1 => Kk ⟨[.x (.bool r1)], []⟩) := by
  kernel_rfl
def F75 {ρ : Type} (fuel : Nat) (p0 : Int) (p1 : Int) (p2 : Int)  (K : Bool → Option ρ) : Option ρ := S75_e p0 p1 p2   K
theorem f75 {ρ : Type} (fuel : Nat) (p0 : Int) (p1 : Int) (p2 : Int) (Kk : Out → Option ρ) : runFn TT (lk O75) kp75 fuel [.val, .val, .val] false 15 [.tmp 6] b75 [.x (.int .i64 p0), .x (.int .i64 p1), .x (.int .i64 p2)] Kk = F75 fuel p0 p1 p2 (fun r1 => Kk ⟨[.x (.bool r1)], []⟩) := by
  rw [s75_e, F75]
noncomputable def sh75 (p0 : Int) (p1 : Int) (p2 : Int) : Option (Bool) := F75 0 p0 p1 p2 (fun r1 => some r1)
noncomputable def G75 {ρ : Type} : List DU → (Out → Option ρ) → Option ρ
  | [.x (.int .i64 p0), .x (.int .i64 p1), .x (.int .i64 p2)], K => (sh75 p0 p1 p2).bind fun r => K ⟨[.x (.bool r)], []⟩
  | _, _ => none
noncomputable def o75 : Ora := ⟨[.val, .val, .val], false, G75⟩
def un75 : Out → Option (Bool)
  | ⟨[.x (.bool r1)], []⟩ => some r1
  | _ => none
theorem un75_ok {o : Out} {r : Bool} (h : un75 o = some r) : o = ⟨[.x (.bool r)], []⟩ := by
  unfold un75 at h
  split at h
  · injection h with h
    subst h
    rfl
  · cases h
theorem n75 : ∀ k o, lk O75 k = some o → Nat1 o := fun k o h => (ook_list (P := Try.prog) (l := O75) (List.forall_mem_nil _)).nat k o h
theorem u75 (fuel : Nat) (p0 : Int) (p1 : Int) (p2 : Int) : runFn TT (lk O75) kp75 fuel [.val, .val, .val] false 15 [.tmp 6] b75 [.x (.int .i64 p0), .x (.int .i64 p1), .x (.int .i64 p2)] un75 = F75 fuel p0 p1 p2 (fun r1 => some r1) := f75 fuel p0 p1 p2 un75
theorem m75 : MeetsO Try.prog 75 o75 := by
  refine ⟨fun ρ ds K => ?_, ⟨_, meets_run (kp := kp75) tsOk (ook_list (l := O75) (List.forall_mem_nil _)) mixed Try.func75 (body := b75) (by kernel_rfl) (ntmps := 15) (by kernel_rfl) (rs := [.tmp 6]) (by kernel_rfl), fun ds out h => ?_⟩, ⟨_, Try.func75, by kernel_rfl, by kernel_rfl⟩⟩
  · show G75 ds K = (G75 ds some).bind K
    unfold G75
    split
    · cases sh75 _ _ _ <;> rfl
    · rfl
  · replace h : G75 ds some = some out := h
    unfold G75 at h
    split at h
    · obtain ⟨r, hr, h⟩ := Option.bind_eq_some_iff.1 h
      injection h with h
      subst h
      have hn := (u75 0 _ _ _).trans hr
      rw [runFn_bind (K := un75) (K' := some) (f := un75) n75 (fun _ => rfl)] at hn
      obtain ⟨o, h1, h2⟩ := Option.bind_eq_some_iff.1 hn
      rw [un75_ok h2] at h1
      exact ⟨0, h1⟩
    · cases h
/-! f80 loop.example.g01239.spec.l1Has -/
noncomputable def b80 : Code := Try.f80.body.getD .skip
def kp80 : Nat → Option Keep := lk [(2, ⟨[1, 7, 8, 9], [], [], []⟩)]
def O80 : List (FuncId × Ora) := []
noncomputable def D80_0 {ρ : Type} (fuel : Nat) (p0 : List Int) (p1 : Int) (n : Nat) (v1 : Int) (v7 : List Int) (v8 : Int) (v9 : Int) (Kk : Out → Option ρ) : Option ρ :=
  iter (run TT (lk O80) kp80 fuel (cL (cB (cS2 (cS1 (cS2 (b80))))))) (nrmAt kp80 (firstRid (cL (cB (cS2 (cS1 (cS2 (b80)))))))) n (⟨[uu, .u (.x (.int .i64 v1)), uu, uu, uu, uu, uu, .u (.x (.ro (.ints .i64 v7))), .u (.x (.int .i64 v8)), .u (.x (.int .i64 v9)), uu, uu, uu, uu, uu, uu, uu], [], []⟩) (blkK 0 (seqK (run TT (lk O80) kp80 fuel (cS2 (cS2 (b80)))) (nrmAt kp80 (200000 + firstRid (cS2 (cS2 (b80))))) (topK TT [.val, .val] false [.tmp 4] [.x (.sl (.ints .i64 p0)), .x (.int .i64 p1)] Kk)))
def S80_e {ρ : Type} (p0 : List Int) (p1 : Int)  (k0 : (Int → List Int → Int → Int → Option ρ)) : Option ρ :=
  k0 p1 p0 (p0.length : Int) (0 : Int)
theorem s80_e {ρ : Type} (fuel : Nat) (p0 : List Int) (p1 : Int) (Kk : Out → Option ρ) : runFn TT (lk O80) kp80 fuel [.val, .val] false 17 [.tmp 4] b80 [.x (.sl (.ints .i64 p0)), .x (.int .i64 p1)] Kk = S80_e p0 p1  (fun v1 v7 v8 v9 => D80_0 fuel p0 p1 fuel v1 v7 v8 v9 Kk) := by
  kernel_rfl
def S80_0 {ρ : Type}  (v1 : Int) (v7 : List Int) (v8 : Int) (v9 : Int) (b0 : (Int → List Int → Int → Int → Option ρ)) (K : Bool → Option ρ) : Option ρ :=
  (bif decide (v9 < v8) then (if 0 ≤ v9 then (if v9 < (v7.length : Int) then (bif decide ((v7.getD v9.toNat 0) = v1) then K true else b0 v1 v7 v8 (IntKind.i64.wrap (v9 + (1 : Int)))) else none) else none) else K false)
theorem s80_0 {ρ : Type} (fuel : Nat) (p0 : List Int) (p1 : Int) (n : Nat) (v1 : Int) (v7 : List Int) (v8 : Int) (v9 : Int) (Kk : Out → Option ρ) : D80_0 fuel p0 p1  (n + 1) v1 v7 v8 v9 Kk = S80_0  v1 v7 v8 v9 (fun v1 v7 v8 v9 => D80_0 fuel p0 p1 n v1 v7 v8 v9 Kk) (fun r1 => Kk ⟨[.x (.bool r1)], []⟩) := by
  kernel_rfl
def F80_0 {ρ : Type} (fuel : Nat)   (K : Bool → Option ρ) : Nat → Int → List Int → Int → Int → Option ρ
  | 0, _, _, _, _ => none
  | n + 1, v1, v7, v8, v9 => S80_0  v1 v7 v8 v9 (F80_0 fuel   K n) K
theorem f80_0 {ρ : Type} (fuel : Nat) (p0 : List Int) (p1 : Int) (Kk : Out → Option ρ) : ∀ (n : Nat) (v1 : Int) (v7 : List Int) (v8 : Int) (v9 : Int), D80_0 fuel p0 p1  n v1 v7 v8 v9 Kk = F80_0 fuel   (fun r1 => Kk ⟨[.x (.bool r1)], []⟩) n v1 v7 v8 v9 := by
  intro n
  induction n with
  | zero => intros; rfl
  | succ n ih =>
    intro v1 v7 v8 v9
    rw [s80_0, F80_0]
    try simp only [ih]
def F80 {ρ : Type} (fuel : Nat) (p0 : List Int) (p1 : Int)  (K : Bool → Option ρ) : Option ρ := S80_e p0 p1  (F80_0 fuel   K fuel)
theorem f80 {ρ : Type} (fuel : Nat) (p0 : List Int) (p1 : Int) (Kk : Out → Option ρ) : runFn TT (lk O80) kp80 fuel [.val, .val] false 17 [.tmp 4] b80 [.x (.sl (.ints .i64 p0)), .x (.int .i64 p1)] Kk = F80 fuel p0 p1 (fun r1 => Kk ⟨[.x (.bool r1)], []⟩) := by
  rw [s80_e, F80]
  try simp only [f80_0]
noncomputable def sh80 (p0 : List Int) (p1 : Int) : Option (Bool) := val fun n => F80 n p0 p1 (fun r1 => some r1)
noncomputable def G80 {ρ : Type} : List DU → (Out → Option ρ) → Option ρ
  | [.x (.sl (.ints .i64 p0)), .x (.int .i64 p1)], K => (sh80 p0 p1).bind fun r => K ⟨[.x (.bool r)], []⟩
  | _, _ => none
noncomputable def o80 : Ora := ⟨[.val, .val], false, G80⟩
def un80 : Out → Option (Bool)
  | ⟨[.x (.bool r1)], []⟩ => some r1
  | _ => none
theorem un80_ok {o : Out} {r : Bool} (h : un80 o = some r) : o = ⟨[.x (.bool r)], []⟩ := by
  unfold un80 at h
  split at h
  · injection h with h
    subst h
    rfl
  · cases h
theorem n80 : ∀ k o, lk O80 k = some o → Nat1 o := fun k o h => (ook_list (P := Try.prog) (l := O80) (List.forall_mem_nil _)).nat k o h
theorem u80 (fuel : Nat) (p0 : List Int) (p1 : Int) : runFn TT (lk O80) kp80 fuel [.val, .val] false 17 [.tmp 4] b80 [.x (.sl (.ints .i64 p0)), .x (.int .i64 p1)] un80 = F80 fuel p0 p1 (fun r1 => some r1) := f80 fuel p0 p1 un80
theorem sh80_of {n : Nat} {p0 : List Int} {p1 : Int} {r : Bool} (h : F80 n p0 p1 (fun r1 => some r1) = some r) : sh80 p0 p1 = some r := val_of (fun n m r hm h => by rw [← u80] at h ⊢; exact runFn_mono n80 hm h) h
theorem m80 : MeetsO Try.prog 80 o80 := by
  refine ⟨fun ρ ds K => ?_, ⟨_, meets_run (kp := kp80) tsOk (ook_list (l := O80) (List.forall_mem_nil _)) mixed Try.func80 (body := b80) (by kernel_rfl) (ntmps := 17) (by kernel_rfl) (rs := [.tmp 4]) (by kernel_rfl), fun ds out h => ?_⟩, ⟨_, Try.func80, by kernel_rfl, by kernel_rfl⟩⟩
  · show G80 ds K = (G80 ds some).bind K
    unfold G80
    split
    · cases sh80 _ _ <;> rfl
    · rfl
  · replace h : G80 ds some = some out := h
    unfold G80 at h
    split at h
    · obtain ⟨r, hr, h⟩ := Option.bind_eq_some_iff.1 h
      injection h with h
      subst h
      obtain ⟨n, hn⟩ := val_some hr
      replace hn := (u80 n _ _).trans hn
      rw [runFn_bind (K := un80) (K' := some) (f := un80) n80 (fun _ => rfl)] at hn
      obtain ⟨o, h1, h2⟩ := Option.bind_eq_some_iff.1 hn
      rw [un80_ok h2] at h1
      exact ⟨n, h1⟩
    · cases h
/-! f79 loop.example.g01239.spec.boHas -/
noncomputable def b79 : Code := Try.f79.body.getD .skip
def kp79 : Nat → Option Keep := lk []
def O79 : List (FuncId × Ora) := [(75, o75), (80, o80)]
def S79_e {ρ : Type} (p0_0 : Int) (p0_1 : Int) (p0_2 : List Int) (p1 : Int)   (K : Bool → Option ρ) : Option ρ :=
  ((sh75 p1 (0 : Int) (IntKind.i64.wrap ((IntKind.i64.wrap (p0_0 * p0_1)) - (1 : Int)))).bind fun r1 => (bif r1 then ((sh80 p0_2 p1).bind fun r2 => K !r2) else K false))
theorem s79_e {ρ : Type} (fuel : Nat) (p0_0 : Int) (p0_1 : Int) (p0_2 : List Int) (p1 : Int) (Kk : Out → Option ρ) : runFn TT (lk O79) kp79 fuel [.val, .val] false 20 [.tmp 4] b79 [.agg [.int .i64 p0_0, .int .i64 p0_1, .sl (.ints .i64 p0_2)], .x (.int .i64 p1)] Kk = S79_e p0_0 p0_1 p0_2 p1   (fun r1 => Kk ⟨[.x (.bool r1)], []⟩) := by
  kernel_rfl
def F79 {ρ : Type} (fuel : Nat) (p0_0 : Int) (p0_1 : Int) (p0_2 : List Int) (p1 : Int)  (K : Bool → Option ρ) : Option ρ := S79_e p0_0 p0_1 p0_2 p1   K
theorem f79 {ρ : Type} (fuel : Nat) (p0_0 : Int) (p0_1 : Int) (p0_2 : List Int) (p1 : Int) (Kk : Out → Option ρ) : runFn TT (lk O79) kp79 fuel [.val, .val] false 20 [.tmp 4] b79 [.agg [.int .i64 p0_0, .int .i64 p0_1, .sl (.ints .i64 p0_2)], .x (.int .i64 p1)] Kk = F79 fuel p0_0 p0_1 p0_2 p1 (fun r1 => Kk ⟨[.x (.bool r1)], []⟩) := by
  rw [s79_e, F79]
noncomputable def sh79 (p0_0 : Int) (p0_1 : Int) (p0_2 : List Int) (p1 : Int) : Option (Bool) := F79 0 p0_0 p0_1 p0_2 p1 (fun r1 => some r1)
noncomputable def G79 {ρ : Type} : List DU → (Out → Option ρ) → Option ρ
  | [.agg [.int .i64 p0_0, .int .i64 p0_1, .sl (.ints .i64 p0_2)], .x (.int .i64 p1)], K => (sh79 p0_0 p0_1 p0_2 p1).bind fun r => K ⟨[.x (.bool r)], []⟩
  | _, _ => none
noncomputable def o79 : Ora := ⟨[.val, .val], false, G79⟩
def un79 : Out → Option (Bool)
  | ⟨[.x (.bool r1)], []⟩ => some r1
  | _ => none
theorem un79_ok {o : Out} {r : Bool} (h : un79 o = some r) : o = ⟨[.x (.bool r)], []⟩ := by
  unfold un79 at h
  split at h
  · injection h with h
    subst h
    rfl
  · cases h
theorem n79 : ∀ k o, lk O79 k = some o → Nat1 o := fun k o h => (ook_list (P := Try.prog) (l := O79) (List.forall_mem_cons.2 ⟨m75, (List.forall_mem_cons.2 ⟨m80, (List.forall_mem_nil _)⟩)⟩)).nat k o h
theorem u79 (fuel : Nat) (p0_0 : Int) (p0_1 : Int) (p0_2 : List Int) (p1 : Int) : runFn TT (lk O79) kp79 fuel [.val, .val] false 20 [.tmp 4] b79 [.agg [.int .i64 p0_0, .int .i64 p0_1, .sl (.ints .i64 p0_2)], .x (.int .i64 p1)] un79 = F79 fuel p0_0 p0_1 p0_2 p1 (fun r1 => some r1) := f79 fuel p0_0 p0_1 p0_2 p1 un79
theorem m79 : MeetsO Try.prog 79 o79 := by
  refine ⟨fun ρ ds K => ?_, ⟨_, meets_run (kp := kp79) tsOk (ook_list (l := O79) (List.forall_mem_cons.2 ⟨m75, (List.forall_mem_cons.2 ⟨m80, (List.forall_mem_nil _)⟩)⟩)) mixed Try.func79 (body := b79) (by kernel_rfl) (ntmps := 20) (by kernel_rfl) (rs := [.tmp 4]) (by kernel_rfl), fun ds out h => ?_⟩, ⟨_, Try.func79, by kernel_rfl, by kernel_rfl⟩⟩
  · show G79 ds K = (G79 ds some).bind K
    unfold G79
    split
    · cases sh79 _ _ _ _ <;> rfl
    · rfl
  · replace h : G79 ds some = some out := h
    unfold G79 at h
    split at h
    · obtain ⟨r, hr, h⟩ := Option.bind_eq_some_iff.1 h
      injection h with h
      subst h
      have hn := (u79 0 _ _ _ _).trans hr
      rw [runFn_bind (K := un79) (K' := some) (f := un79) n79 (fun _ => rfl)] at hn
      obtain ⟨o, h1, h2⟩ := Option.bind_eq_some_iff.1 hn
      rw [un79_ok h2] at h1
      exact ⟨0, h1⟩
    · cases h
/-! f59 loop.example.g01239.spec.boCells -/
noncomputable def b59 : Code := Try.f59.body.getD .skip
def kp59 : Nat → Option Keep := lk [(3, ⟨[1, 3, 4], [4096], [(3, 16400000)], []⟩), (200004, ⟨[1, 3, 4], [4096], [(3, 16400064)], []⟩)]
def O59 : List (FuncId × Ora) := [(79, o79)]
noncomputable def D59_0 {ρ : Type} (fuel : Nat) (p0_0 : Int) (p0_1 : Int) (p0_2 : List Int) (n : Nat) (v3 : List Int) (v4 : Int) (c4096_0 : Int) (c4096_1 : Int) (c4096_2 : List Int) (Kk : Out → Option ρ) : Option ρ :=
  iter (run TT (lk O59) kp59 fuel (cL (cB (cS2 (cS1 (cS2 (cS2 (b59)))))))) (nrmAt kp59 (firstRid (cL (cB (cS2 (cS1 (cS2 (cS2 (b59))))))))) n (⟨[uu, .u (.x (.ptr 4096 0)), uu, .u (.x (.own 16400000 (.ints .i64 v3))), .u (.x (.int .i64 v4)), uu, uu, uu, uu, uu, uu, uu, uu, uu, uu, uu, uu, uu, uu, uu, uu, uu], [(4096, [.int .i64 c4096_0, .int .i64 c4096_1, .ro (.ints .i64 c4096_2)])], []⟩) (blkK 0 (seqK (run TT (lk O59) kp59 fuel (cS2 (cS2 (cS2 (b59))))) (nrmAt kp59 (200000 + firstRid (cS2 (cS2 (cS2 (b59)))))) (topK TT [.val] false [.tmp 2] [.agg [.int .i64 p0_0, .int .i64 p0_1, .sl (.ints .i64 p0_2)]] Kk)))
noncomputable def D59_1 {ρ : Type} (fuel : Nat) (p0_0 : Int) (p0_1 : Int) (p0_2 : List Int) (n0 : Nat) (v3 : List Int) (v4 : Int) (c4096_0 : Int) (c4096_1 : Int) (c4096_2 : List Int) (Kk : Out → Option ρ) : Option ρ :=
  run TT (lk O59) kp59 fuel (cS2 (cS2 (cL (cB (cS2 (cS1 (cS2 (cS2 (b59))))))))) (⟨[uu, .u (.x (.ptr 4096 0)), uu, .u (.x (.own 16400064 (.ints .i64 v3))), .u (.x (.int .i64 v4)), uu, uu, uu, uu, uu, uu, uu, uu, uu, uu, uu, uu, uu, uu, uu, uu, uu], [(4096, [.int .i64 c4096_0, .int .i64 c4096_1, .ro (.ints .i64 c4096_2)])], []⟩) (itK (run TT (lk O59) kp59 fuel (cL (cB (cS2 (cS1 (cS2 (cS2 (b59)))))))) (nrmAt kp59 (firstRid (cL (cB (cS2 (cS1 (cS2 (cS2 (b59))))))))) n0 (blkK 0 (seqK (run TT (lk O59) kp59 fuel (cS2 (cS2 (cS2 (b59))))) (nrmAt kp59 (200000 + firstRid (cS2 (cS2 (cS2 (b59)))))) (topK TT [.val] false [.tmp 2] [.agg [.int .i64 p0_0, .int .i64 p0_1, .sl (.ints .i64 p0_2)]] Kk))))
def S59_e {ρ : Type} (p0_0 : Int) (p0_1 : Int) (p0_2 : List Int)  (k0 : (List Int → Int → Int → Int → List Int → Option ρ)) : Option ρ :=
  k0 [] (0 : Int) p0_0 p0_1 p0_2
theorem s59_e {ρ : Type} (fuel : Nat) (p0_0 : Int) (p0_1 : Int) (p0_2 : List Int) (Kk : Out → Option ρ) : runFn TT (lk O59) kp59 fuel [.val] false 22 [.tmp 2] b59 [.agg [.int .i64 p0_0, .int .i64 p0_1, .sl (.ints .i64 p0_2)]] Kk = S59_e p0_0 p0_1 p0_2  (fun v3 v4 c4096_0 c4096_1 c4096_2 => D59_0 fuel p0_0 p0_1 p0_2 fuel v3 v4 c4096_0 c4096_1 c4096_2 Kk) := by
  kernel_rfl
def S59_0 {ρ : Type}  (v3 : List Int) (v4 : Int) (c4096_0 : Int) (c4096_1 : Int) (c4096_2 : List Int) (k1 : (List Int → Int → Int → Int → List Int → Option ρ)) (K : List Int → Option ρ) : Option ρ :=
  (bif decide (v4 < (IntKind.i64.wrap (c4096_0 * c4096_1))) then ((sh79 c4096_0 c4096_1 c4096_2 v4).bind fun r1 => (bif r1 then (if (v3 ++ [v4]).length ≤ 1099511627776 then k1 (v3 ++ [v4]) v4 c4096_0 c4096_1 c4096_2 else none) else k1 v3 v4 c4096_0 c4096_1 c4096_2)) else K v3)
theorem s59_0 {ρ : Type} (fuel : Nat) (p0_0 : Int) (p0_1 : Int) (p0_2 : List Int) (n : Nat) (v3 : List Int) (v4 : Int) (c4096_0 : Int) (c4096_1 : Int) (c4096_2 : List Int) (Kk : Out → Option ρ) : D59_0 fuel p0_0 p0_1 p0_2  (n + 1) v3 v4 c4096_0 c4096_1 c4096_2 Kk = S59_0  v3 v4 c4096_0 c4096_1 c4096_2 (fun v3 v4 c4096_0 c4096_1 c4096_2 => D59_1 fuel p0_0 p0_1 p0_2 n v3 v4 c4096_0 c4096_1 c4096_2 Kk) (fun r1 => Kk ⟨[.x (.sl (.ints .i64 r1))], []⟩) := by
  kernel_rfl
def S59_1 {ρ : Type}  (v3 : List Int) (v4 : Int) (c4096_0 : Int) (c4096_1 : Int) (c4096_2 : List Int) (b0 : (List Int → Int → Int → Int → List Int → Option ρ)) : Option ρ :=
  b0 v3 (IntKind.i64.wrap (v4 + (1 : Int))) c4096_0 c4096_1 c4096_2
theorem s59_1 {ρ : Type} (fuel : Nat) (p0_0 : Int) (p0_1 : Int) (p0_2 : List Int) (n0 : Nat) (v3 : List Int) (v4 : Int) (c4096_0 : Int) (c4096_1 : Int) (c4096_2 : List Int) (Kk : Out → Option ρ) : D59_1 fuel p0_0 p0_1 p0_2 n0 v3 v4 c4096_0 c4096_1 c4096_2 Kk = S59_1  v3 v4 c4096_0 c4096_1 c4096_2 (fun v3 v4 c4096_0 c4096_1 c4096_2 => D59_0 fuel p0_0 p0_1 p0_2 n0 v3 v4 c4096_0 c4096_1 c4096_2 Kk) := by
  kernel_rfl
def F59_1 {ρ : Type} (fuel : Nat)  (b0 : (List Int → Int → Int → Int → List Int → Option ρ)) (K : List Int → Option ρ) (v3 : List Int) (v4 : Int) (c4096_0 : Int) (c4096_1 : Int) (c4096_2 : List Int) : Option ρ := S59_1  v3 v4 c4096_0 c4096_1 c4096_2 b0
theorem f59_1 {ρ : Type} (fuel : Nat) (p0_0 : Int) (p0_1 : Int) (p0_2 : List Int) (n0 : Nat) (v3 : List Int) (v4 : Int) (c4096_0 : Int) (c4096_1 : Int) (c4096_2 : List Int) (Kk : Out → Option ρ) : D59_1 fuel p0_0 p0_1 p0_2 n0 v3 v4 c4096_0 c4096_1 c4096_2 Kk = F59_1 fuel  (fun v3 v4 c4096_0 c4096_1 c4096_2 => D59_0 fuel p0_0 p0_1 p0_2 n0 v3 v4 c4096_0 c4096_1 c4096_2 Kk) (fun r1 => Kk ⟨[.x (.sl (.ints .i64 r1))], []⟩) v3 v4 c4096_0 c4096_1 c4096_2 := by
  rw [s59_1, F59_1]
def F59_0 {ρ : Type} (fuel : Nat)   (K : List Int → Option ρ) : Nat → List Int → Int → Int → Int → List Int → Option ρ
  | 0, _, _, _, _, _ => none
  | n + 1, v3, v4, c4096_0, c4096_1, c4096_2 => S59_0  v3 v4 c4096_0 c4096_1 c4096_2 (F59_1 fuel  (F59_0 fuel   K n) K) K
theorem f59_0 {ρ : Type} (fuel : Nat) (p0_0 : Int) (p0_1 : Int) (p0_2 : List Int) (Kk : Out → Option ρ) : ∀ (n : Nat) (v3 : List Int) (v4 : Int) (c4096_0 : Int) (c4096_1 : Int) (c4096_2 : List Int), D59_0 fuel p0_0 p0_1 p0_2  n v3 v4 c4096_0 c4096_1 c4096_2 Kk = F59_0 fuel   (fun r1 => Kk ⟨[.x (.sl (.ints .i64 r1))], []⟩) n v3 v4 c4096_0 c4096_1 c4096_2 := by
  intro n
  induction n with
  | zero => intros; rfl
  | succ n ih =>
    intro v3 v4 c4096_0 c4096_1 c4096_2
    rw [s59_0, F59_0]
    try simp only [ih, f59_1]
def F59 {ρ : Type} (fuel : Nat) (p0_0 : Int) (p0_1 : Int) (p0_2 : List Int)  (K : List Int → Option ρ) : Option ρ := S59_e p0_0 p0_1 p0_2  (F59_0 fuel   K fuel)
theorem f59 {ρ : Type} (fuel : Nat) (p0_0 : Int) (p0_1 : Int) (p0_2 : List Int) (Kk : Out → Option ρ) : runFn TT (lk O59) kp59 fuel [.val] false 22 [.tmp 2] b59 [.agg [.int .i64 p0_0, .int .i64 p0_1, .sl (.ints .i64 p0_2)]] Kk = F59 fuel p0_0 p0_1 p0_2 (fun r1 => Kk ⟨[.x (.sl (.ints .i64 r1))], []⟩) := by
  rw [s59_e, F59]
  try simp only [f59_1, f59_0]
noncomputable def sh59 (p0_0 : Int) (p0_1 : Int) (p0_2 : List Int) : Option (List Int) := val fun n => F59 n p0_0 p0_1 p0_2 (fun r1 => some r1)
noncomputable def G59 {ρ : Type} : List DU → (Out → Option ρ) → Option ρ
  | [.agg [.int .i64 p0_0, .int .i64 p0_1, .sl (.ints .i64 p0_2)]], K => (sh59 p0_0 p0_1 p0_2).bind fun r => K ⟨[.x (.sl (.ints .i64 r))], []⟩
  | _, _ => none
noncomputable def o59 : Ora := ⟨[.val], false, G59⟩
def un59 : Out → Option (List Int)
  | ⟨[.x (.sl (.ints .i64 r1))], []⟩ => some r1
  | _ => none
theorem un59_ok {o : Out} {r : List Int} (h : un59 o = some r) : o = ⟨[.x (.sl (.ints .i64 r))], []⟩ := by
  unfold un59 at h
  split at h
  · injection h with h
    subst h
    rfl
  · cases h
theorem n59 : ∀ k o, lk O59 k = some o → Nat1 o := fun k o h => (ook_list (P := Try.prog) (l := O59) (List.forall_mem_cons.2 ⟨m79, (List.forall_mem_nil _)⟩)).nat k o h
theorem u59 (fuel : Nat) (p0_0 : Int) (p0_1 : Int) (p0_2 : List Int) : runFn TT (lk O59) kp59 fuel [.val] false 22 [.tmp 2] b59 [.agg [.int .i64 p0_0, .int .i64 p0_1, .sl (.ints .i64 p0_2)]] un59 = F59 fuel p0_0 p0_1 p0_2 (fun r1 => some r1) := f59 fuel p0_0 p0_1 p0_2 un59
theorem sh59_of {n : Nat} {p0_0 : Int} {p0_1 : Int} {p0_2 : List Int} {r : List Int} (h : F59 n p0_0 p0_1 p0_2 (fun r1 => some r1) = some r) : sh59 p0_0 p0_1 p0_2 = some r := val_of (fun n m r hm h => by rw [← u59] at h ⊢; exact runFn_mono n59 hm h) h
theorem m59 : MeetsO Try.prog 59 o59 := by
  refine ⟨fun ρ ds K => ?_, ⟨_, meets_run (kp := kp59) tsOk (ook_list (l := O59) (List.forall_mem_cons.2 ⟨m79, (List.forall_mem_nil _)⟩)) mixed Try.func59 (body := b59) (by kernel_rfl) (ntmps := 22) (by kernel_rfl) (rs := [.tmp 2]) (by kernel_rfl), fun ds out h => ?_⟩, ⟨_, Try.func59, by kernel_rfl, by kernel_rfl⟩⟩
  · show G59 ds K = (G59 ds some).bind K
    unfold G59
    split
    · cases sh59 _ _ _ <;> rfl
    · rfl
  · replace h : G59 ds some = some out := h
    unfold G59 at h
    split at h
    · obtain ⟨r, hr, h⟩ := Option.bind_eq_some_iff.1 h
      injection h with h
      subst h
      obtain ⟨n, hn⟩ := val_some hr
      replace hn := (u59 n _ _ _).trans hn
      rw [runFn_bind (K := un59) (K' := some) (f := un59) n59 (fun _ => rfl)] at hn
      obtain ⟨o, h1, h2⟩ := Option.bind_eq_some_iff.1 hn
      rw [un59_ok h2] at h1
      exact ⟨n, h1⟩
    · cases h
/-! f99 loop.example.g01239.spec.boSize -/
noncomputable def b99 : Code := Try.f99.body.getD .skip
def kp99 : Nat → Option Keep := lk []
def O99 : List (FuncId × Ora) := [(75, o75)]
def S99_e {ρ : Type} (p0 : Int) (p1 : Int)   (K : Bool → Option ρ) : Option ρ :=
  ((sh75 p0 (1 : Int) (8 : Int)).bind fun r1 => (bif r1 then ((sh75 p1 (1 : Int) (8 : Int)).bind fun r2 => K r2) else K false))
theorem s99_e {ρ : Type} (fuel : Nat) (p0 : Int) (p1 : Int) (Kk : Out → Option ρ) : runFn TT (lk O99) kp99 fuel [.val, .val] false 11 [.tmp 4] b99 [.x (.int .i64 p0), .x (.int .i64 p1)] Kk = S99_e p0 p1   (fun r1 => Kk ⟨[.x (.bool r1)], []⟩) := by
  kernel_rfl
def F99 {ρ : Type} (fuel : Nat) (p0 : Int) (p1 : Int)  (K : Bool → Option ρ) : Option ρ := S99_e p0 p1   K
theorem f99 {ρ : Type} (fuel : Nat) (p0 : Int) (p1 : Int) (Kk : Out → Option ρ) : runFn TT (lk O99) kp99 fuel [.val, .val] false 11 [.tmp 4] b99 [.x (.int .i64 p0), .x (.int .i64 p1)] Kk = F99 fuel p0 p1 (fun r1 => Kk ⟨[.x (.bool r1)], []⟩) := by
  rw [s99_e, F99]
noncomputable def sh99 (p0 : Int) (p1 : Int) : Option (Bool) := F99 0 p0 p1 (fun r1 => some r1)
noncomputable def G99 {ρ : Type} : List DU → (Out → Option ρ) → Option ρ
  | [.x (.int .i64 p0), .x (.int .i64 p1)], K => (sh99 p0 p1).bind fun r => K ⟨[.x (.bool r)], []⟩
  | _, _ => none
noncomputable def o99 : Ora := ⟨[.val, .val], false, G99⟩
def un99 : Out → Option (Bool)
  | ⟨[.x (.bool r1)], []⟩ => some r1
  | _ => none
theorem un99_ok {o : Out} {r : Bool} (h : un99 o = some r) : o = ⟨[.x (.bool r)], []⟩ := by
  unfold un99 at h
  split at h
  · injection h with h
    subst h
    rfl
  · cases h
theorem n99 : ∀ k o, lk O99 k = some o → Nat1 o := fun k o h => (ook_list (P := Try.prog) (l := O99) (List.forall_mem_cons.2 ⟨m75, (List.forall_mem_nil _)⟩)).nat k o h
theorem u99 (fuel : Nat) (p0 : Int) (p1 : Int) : runFn TT (lk O99) kp99 fuel [.val, .val] false 11 [.tmp 4] b99 [.x (.int .i64 p0), .x (.int .i64 p1)] un99 = F99 fuel p0 p1 (fun r1 => some r1) := f99 fuel p0 p1 un99
theorem m99 : MeetsO Try.prog 99 o99 := by
  refine ⟨fun ρ ds K => ?_, ⟨_, meets_run (kp := kp99) tsOk (ook_list (l := O99) (List.forall_mem_cons.2 ⟨m75, (List.forall_mem_nil _)⟩)) mixed Try.func99 (body := b99) (by kernel_rfl) (ntmps := 11) (by kernel_rfl) (rs := [.tmp 4]) (by kernel_rfl), fun ds out h => ?_⟩, ⟨_, Try.func99, by kernel_rfl, by kernel_rfl⟩⟩
  · show G99 ds K = (G99 ds some).bind K
    unfold G99
    split
    · cases sh99 _ _ <;> rfl
    · rfl
  · replace h : G99 ds some = some out := h
    unfold G99 at h
    split at h
    · obtain ⟨r, hr, h⟩ := Option.bind_eq_some_iff.1 h
      injection h with h
      subst h
      have hn := (u99 0 _ _).trans hr
      rw [runFn_bind (K := un99) (K' := some) (f := un99) n99 (fun _ => rfl)] at hn
      obtain ⟨o, h1, h2⟩ := Option.bind_eq_some_iff.1 hn
      rw [un99_ok h2] at h1
      exact ⟨0, h1⟩
    · cases h
/-! f100 loop.example.g01239.spec.l1All -/
noncomputable def b100 : Code := Try.f100.body.getD .skip
def kp100 : Nat → Option Keep := lk [(2, ⟨[1, 2, 9, 10, 11], [], [], []⟩)]
def O100 : List (FuncId × Ora) := [(75, o75)]
noncomputable def D100_0 {ρ : Type} (fuel : Nat) (p0 : List Int) (p1 : Int) (p2 : Int) (n : Nat) (v1 : Int) (v2 : Int) (v9 : List Int) (v10 : Int) (v11 : Int) (Kk : Out → Option ρ) : Option ρ :=
  iter (run TT (lk O100) kp100 fuel (cL (cB (cS2 (cS1 (cS2 (b100))))))) (nrmAt kp100 (firstRid (cL (cB (cS2 (cS1 (cS2 (b100)))))))) n (⟨[uu, .u (.x (.int .i64 v1)), .u (.x (.int .i64 v2)), uu, uu, uu, uu, uu, uu, .u (.x (.ro (.ints .i64 v9))), .u (.x (.int .i64 v10)), .u (.x (.int .i64 v11)), uu, uu, uu, uu, uu, uu, uu, uu, uu], [], []⟩) (blkK 0 (seqK (run TT (lk O100) kp100 fuel (cS2 (cS2 (b100)))) (nrmAt kp100 (200000 + firstRid (cS2 (cS2 (b100))))) (topK TT [.val, .val, .val] false [.tmp 6] [.x (.sl (.ints .i64 p0)), .x (.int .i64 p1), .x (.int .i64 p2)] Kk)))
def S100_e {ρ : Type} (p0 : List Int) (p1 : Int) (p2 : Int)  (k0 : (Int → Int → List Int → Int → Int → Option ρ)) : Option ρ :=
  k0 p1 p2 p0 (p0.length : Int) (0 : Int)
theorem s100_e {ρ : Type} (fuel : Nat) (p0 : List Int) (p1 : Int) (p2 : Int) (Kk : Out → Option ρ) : runFn TT (lk O100) kp100 fuel [.val, .val, .val] false 21 [.tmp 6] b100 [.x (.sl (.ints .i64 p0)), .x (.int .i64 p1), .x (.int .i64 p2)] Kk = S100_e p0 p1 p2  (fun v1 v2 v9 v10 v11 => D100_0 fuel p0 p1 p2 fuel v1 v2 v9 v10 v11 Kk) := by
  kernel_rfl
def S100_0 {ρ : Type}  (v1 : Int) (v2 : Int) (v9 : List Int) (v10 : Int) (v11 : Int) (b0 : (Int → Int → List Int → Int → Int → Option ρ)) (K : Bool → Option ρ) : Option ρ :=
  (bif decide (v11 < v10) then (if 0 ≤ v11 then (if v11 < (v9.length : Int) then ((sh75 (v9.getD v11.toNat 0) v1 v2).bind fun r1 => (bif !r1 then K false else b0 v1 v2 v9 v10 (IntKind.i64.wrap (v11 + (1 : Int))))) else none) else none) else K true)
theorem s100_0 {ρ : Type} (fuel : Nat) (p0 : List Int) (p1 : Int) (p2 : Int) (n : Nat) (v1 : Int) (v2 : Int) (v9 : List Int) (v10 : Int) (v11 : Int) (Kk : Out → Option ρ) : D100_0 fuel p0 p1 p2  (n + 1) v1 v2 v9 v10 v11 Kk = S100_0  v1 v2 v9 v10 v11 (fun v1 v2 v9 v10 v11 => D100_0 fuel p0 p1 p2 n v1 v2 v9 v10 v11 Kk) (fun r1 => Kk ⟨[.x (.bool r1)], []⟩) := by
  kernel_rfl
def F100_0 {ρ : Type} (fuel : Nat)   (K : Bool → Option ρ) : Nat → Int → Int → List Int → Int → Int → Option ρ
  | 0, _, _, _, _, _ => none
  | n + 1, v1, v2, v9, v10, v11 => S100_0  v1 v2 v9 v10 v11 (F100_0 fuel   K n) K
theorem f100_0 {ρ : Type} (fuel : Nat) (p0 : List Int) (p1 : Int) (p2 : Int) (Kk : Out → Option ρ) : ∀ (n : Nat) (v1 : Int) (v2 : Int) (v9 : List Int) (v10 : Int) (v11 : Int), D100_0 fuel p0 p1 p2  n v1 v2 v9 v10 v11 Kk = F100_0 fuel   (fun r1 => Kk ⟨[.x (.bool r1)], []⟩) n v1 v2 v9 v10 v11 := by
  intro n
  induction n with
  | zero => intros; rfl
  | succ n ih =>
    intro v1 v2 v9 v10 v11
    rw [s100_0, F100_0]
    try simp only [ih]
def F100 {ρ : Type} (fuel : Nat) (p0 : List Int) (p1 : Int) (p2 : Int)  (K : Bool → Option ρ) : Option ρ := S100_e p0 p1 p2  (F100_0 fuel   K fuel)
theorem f100 {ρ : Type} (fuel : Nat) (p0 : List Int) (p1 : Int) (p2 : Int) (Kk : Out → Option ρ) : runFn TT (lk O100) kp100 fuel [.val, .val, .val] false 21 [.tmp 6] b100 [.x (.sl (.ints .i64 p0)), .x (.int .i64 p1), .x (.int .i64 p2)] Kk = F100 fuel p0 p1 p2 (fun r1 => Kk ⟨[.x (.bool r1)], []⟩) := by
  rw [s100_e, F100]
  try simp only [f100_0]
noncomputable def sh100 (p0 : List Int) (p1 : Int) (p2 : Int) : Option (Bool) := val fun n => F100 n p0 p1 p2 (fun r1 => some r1)
noncomputable def G100 {ρ : Type} : List DU → (Out → Option ρ) → Option ρ
  | [.x (.sl (.ints .i64 p0)), .x (.int .i64 p1), .x (.int .i64 p2)], K => (sh100 p0 p1 p2).bind fun r => K ⟨[.x (.bool r)], []⟩
  | _, _ => none
noncomputable def o100 : Ora := ⟨[.val, .val, .val], false, G100⟩
def un100 : Out → Option (Bool)
  | ⟨[.x (.bool r1)], []⟩ => some r1
  | _ => none
theorem un100_ok {o : Out} {r : Bool} (h : un100 o = some r) : o = ⟨[.x (.bool r)], []⟩ := by
  unfold un100 at h
  split at h
  · injection h with h
    subst h
    rfl
  · cases h
theorem n100 : ∀ k o, lk O100 k = some o → Nat1 o := fun k o h => (ook_list (P := Try.prog) (l := O100) (List.forall_mem_cons.2 ⟨m75, (List.forall_mem_nil _)⟩)).nat k o h
theorem u100 (fuel : Nat) (p0 : List Int) (p1 : Int) (p2 : Int) : runFn TT (lk O100) kp100 fuel [.val, .val, .val] false 21 [.tmp 6] b100 [.x (.sl (.ints .i64 p0)), .x (.int .i64 p1), .x (.int .i64 p2)] un100 = F100 fuel p0 p1 p2 (fun r1 => some r1) := f100 fuel p0 p1 p2 un100
theorem sh100_of {n : Nat} {p0 : List Int} {p1 : Int} {p2 : Int} {r : Bool} (h : F100 n p0 p1 p2 (fun r1 => some r1) = some r) : sh100 p0 p1 p2 = some r := val_of (fun n m r hm h => by rw [← u100] at h ⊢; exact runFn_mono n100 hm h) h
theorem m100 : MeetsO Try.prog 100 o100 := by
  refine ⟨fun ρ ds K => ?_, ⟨_, meets_run (kp := kp100) tsOk (ook_list (l := O100) (List.forall_mem_cons.2 ⟨m75, (List.forall_mem_nil _)⟩)) mixed Try.func100 (body := b100) (by kernel_rfl) (ntmps := 21) (by kernel_rfl) (rs := [.tmp 6]) (by kernel_rfl), fun ds out h => ?_⟩, ⟨_, Try.func100, by kernel_rfl, by kernel_rfl⟩⟩
  · show G100 ds K = (G100 ds some).bind K
    unfold G100
    split
    · cases sh100 _ _ _ <;> rfl
    · rfl
  · replace h : G100 ds some = some out := h
    unfold G100 at h
    split at h
    · obtain ⟨r, hr, h⟩ := Option.bind_eq_some_iff.1 h
      injection h with h
      subst h
      obtain ⟨n, hn⟩ := val_some hr
      replace hn := (u100 n _ _ _).trans hn
      rw [runFn_bind (K := un100) (K' := some) (f := un100) n100 (fun _ => rfl)] at hn
      obtain ⟨o, h1, h2⟩ := Option.bind_eq_some_iff.1 hn
      rw [un100_ok h2] at h1
      exact ⟨n, h1⟩
    · cases h
/-! f91 loop.example.g01239.spec.boGood -/
noncomputable def b91 : Code := Try.f91.body.getD .skip
def kp91 : Nat → Option Keep := lk [(4, ⟨[1, 3], [4096], [], []⟩)]
def O91 : List (FuncId × Ora) := [(99, o99), (100, o100)]
noncomputable def D91_0 {ρ : Type} (fuel : Nat) (p0_0 : Int) (p0_1 : Int) (p0_2 : List Int) (n : Nat) (v3 : Int) (c4096_0 : Int) (c4096_1 : Int) (c4096_2 : List Int) (Kk : Out → Option ρ) : Option ρ :=
  iter (run TT (lk O91) kp91 fuel (cL (cB (cS2 (cS1 (cS2 (cS2 (b91)))))))) (nrmAt kp91 (firstRid (cL (cB (cS2 (cS1 (cS2 (cS2 (b91))))))))) n (⟨[uu, .u (.x (.ptr 4096 0)), uu, .u (.x (.int .i64 v3)), uu, uu, uu, uu, uu, uu, uu, uu, uu, uu, uu, uu, uu, uu, uu, uu, uu, uu, uu, uu, uu, uu, uu, uu, uu, uu, uu, uu, uu, uu, uu, uu, uu, uu, uu, uu, uu, uu, uu, uu, uu, uu, uu, uu, uu, uu, uu, uu], [(4096, [.int .i64 c4096_0, .int .i64 c4096_1, .ro (.ints .i64 c4096_2)])], []⟩) (blkK 0 (seqK (run TT (lk O91) kp91 fuel (cS2 (cS2 (cS2 (b91))))) (nrmAt kp91 (200000 + firstRid (cS2 (cS2 (cS2 (b91)))))) (topK TT [.val] false [.tmp 2] [.agg [.int .i64 p0_0, .int .i64 p0_1, .sl (.ints .i64 p0_2)]] Kk)))
def S91_e {ρ : Type} (p0_0 : Int) (p0_1 : Int) (p0_2 : List Int)  (k0 : (Int → Int → Int → List Int → Option ρ)) (K : Bool → Option ρ) : Option ρ :=
  ((sh99 p0_0 p0_1).bind fun r1 => (bif !r1 then K false else (bif decide ((p0_2.length : Int) ≥ (IntKind.i64.wrap (p0_0 * p0_1))) then K false else ((sh100 p0_2 (0 : Int) (IntKind.i64.wrap ((IntKind.i64.wrap (p0_0 * p0_1)) - (1 : Int)))).bind fun r2 => (bif !r2 then K false else k0 (1 : Int) p0_0 p0_1 p0_2)))))
theorem s91_e {ρ : Type} (fuel : Nat) (p0_0 : Int) (p0_1 : Int) (p0_2 : List Int) (Kk : Out → Option ρ) : runFn TT (lk O91) kp91 fuel [.val] false 52 [.tmp 2] b91 [.agg [.int .i64 p0_0, .int .i64 p0_1, .sl (.ints .i64 p0_2)]] Kk = S91_e p0_0 p0_1 p0_2  (fun v3 c4096_0 c4096_1 c4096_2 => D91_0 fuel p0_0 p0_1 p0_2 fuel v3 c4096_0 c4096_1 c4096_2 Kk) (fun r1 => Kk ⟨[.x (.bool r1)], []⟩) := by
  kernel_rfl
def S91_0 {ρ : Type}  (v3 : Int) (c4096_0 : Int) (c4096_1 : Int) (c4096_2 : List Int) (b0 : (Int → Int → Int → List Int → Option ρ)) (K : Bool → Option ρ) : Option ρ :=
  (bif decide (v3 < (c4096_2.length : Int)) then (if 0 ≤ (IntKind.i64.wrap (v3 - (1 : Int))) then (if (IntKind.i64.wrap (v3 - (1 : Int))) < (c4096_2.length : Int) then (if 0 ≤ v3 then (if v3 < (c4096_2.length : Int) then (bif decide ((c4096_2.getD ((IntKind.i64.wrap (v3 - (1 : Int))).toNat) 0) ≥ (c4096_2.getD v3.toNat 0)) then K false else b0 (IntKind.i64.wrap (v3 + (1 : Int))) c4096_0 c4096_1 c4096_2) else none) else none) else none) else none) else K true)
theorem s91_0 {ρ : Type} (fuel : Nat) (p0_0 : Int) (p0_1 : Int) (p0_2 : List Int) (n : Nat) (v3 : Int) (c4096_0 : Int) (c4096_1 : Int) (c4096_2 : List Int) (Kk : Out → Option ρ) : D91_0 fuel p0_0 p0_1 p0_2  (n + 1) v3 c4096_0 c4096_1 c4096_2 Kk = S91_0  v3 c4096_0 c4096_1 c4096_2 (fun v3 c4096_0 c4096_1 c4096_2 => D91_0 fuel p0_0 p0_1 p0_2 n v3 c4096_0 c4096_1 c4096_2 Kk) (fun r1 => Kk ⟨[.x (.bool r1)], []⟩) := by
  kernel_rfl
def F91_0 {ρ : Type} (fuel : Nat)   (K : Bool → Option ρ) : Nat → Int → Int → Int → List Int → Option ρ
  | 0, _, _, _, _ => none
  | n + 1, v3, c4096_0, c4096_1, c4096_2 => S91_0  v3 c4096_0 c4096_1 c4096_2 (F91_0 fuel   K n) K
theorem f91_0 {ρ : Type} (fuel : Nat) (p0_0 : Int) (p0_1 : Int) (p0_2 : List Int) (Kk : Out → Option ρ) : ∀ (n : Nat) (v3 : Int) (c4096_0 : Int) (c4096_1 : Int) (c4096_2 : List Int), D91_0 fuel p0_0 p0_1 p0_2  n v3 c4096_0 c4096_1 c4096_2 Kk = F91_0 fuel   (fun r1 => Kk ⟨[.x (.bool r1)], []⟩) n v3 c4096_0 c4096_1 c4096_2 := by
  intro n
  induction n with
  | zero => intros; rfl
  | succ n ih =>
    intro v3 c4096_0 c4096_1 c4096_2
    rw [s91_0, F91_0]
    try simp only [ih]
def F91 {ρ : Type} (fuel : Nat) (p0_0 : Int) (p0_1 : Int) (p0_2 : List Int)  (K : Bool → Option ρ) : Option ρ := S91_e p0_0 p0_1 p0_2  (F91_0 fuel   K fuel) K
theorem f91 {ρ : Type} (fuel : Nat) (p0_0 : Int) (p0_1 : Int) (p0_2 : List Int) (Kk : Out → Option ρ) : runFn TT (lk O91) kp91 fuel [.val] false 52 [.tmp 2] b91 [.agg [.int .i64 p0_0, .int .i64 p0_1, .sl (.ints .i64 p0_2)]] Kk = F91 fuel p0_0 p0_1 p0_2 (fun r1 => Kk ⟨[.x (.bool r1)], []⟩) := by
  rw [s91_e, F91]
  try simp only [f91_0]
noncomputable def sh91 (p0_0 : Int) (p0_1 : Int) (p0_2 : List Int) : Option (Bool) := val fun n => F91 n p0_0 p0_1 p0_2 (fun r1 => some r1)
noncomputable def G91 {ρ : Type} : List DU → (Out → Option ρ) → Option ρ
  | [.agg [.int .i64 p0_0, .int .i64 p0_1, .sl (.ints .i64 p0_2)]], K => (sh91 p0_0 p0_1 p0_2).bind fun r => K ⟨[.x (.bool r)], []⟩
  | _, _ => none
noncomputable def o91 : Ora := ⟨[.val], false, G91⟩
def un91 : Out → Option (Bool)
  | ⟨[.x (.bool r1)], []⟩ => some r1
  | _ => none
theorem un91_ok {o : Out} {r : Bool} (h : un91 o = some r) : o = ⟨[.x (.bool r)], []⟩ := by
  unfold un91 at h
  split at h
  · injection h with h
    subst h
    rfl
  · cases h
theorem n91 : ∀ k o, lk O91 k = some o → Nat1 o := fun k o h => (ook_list (P := Try.prog) (l := O91) (List.forall_mem_cons.2 ⟨m99, (List.forall_mem_cons.2 ⟨m100, (List.forall_mem_nil _)⟩)⟩)).nat k o h
theorem u91 (fuel : Nat) (p0_0 : Int) (p0_1 : Int) (p0_2 : List Int) : runFn TT (lk O91) kp91 fuel [.val] false 52 [.tmp 2] b91 [.agg [.int .i64 p0_0, .int .i64 p0_1, .sl (.ints .i64 p0_2)]] un91 = F91 fuel p0_0 p0_1 p0_2 (fun r1 => some r1) := f91 fuel p0_0 p0_1 p0_2 un91
theorem sh91_of {n : Nat} {p0_0 : Int} {p0_1 : Int} {p0_2 : List Int} {r : Bool} (h : F91 n p0_0 p0_1 p0_2 (fun r1 => some r1) = some r) : sh91 p0_0 p0_1 p0_2 = some r := val_of (fun n m r hm h => by rw [← u91] at h ⊢; exact runFn_mono n91 hm h) h
theorem m91 : MeetsO Try.prog 91 o91 := by
  refine ⟨fun ρ ds K => ?_, ⟨_, meets_run (kp := kp91) tsOk (ook_list (l := O91) (List.forall_mem_cons.2 ⟨m99, (List.forall_mem_cons.2 ⟨m100, (List.forall_mem_nil _)⟩)⟩)) mixed Try.func91 (body := b91) (by kernel_rfl) (ntmps := 52) (by kernel_rfl) (rs := [.tmp 2]) (by kernel_rfl), fun ds out h => ?_⟩, ⟨_, Try.func91, by kernel_rfl, by kernel_rfl⟩⟩
  · show G91 ds K = (G91 ds some).bind K
    unfold G91
    split
    · cases sh91 _ _ _ <;> rfl
    · rfl
  · replace h : G91 ds some = some out := h
    unfold G91 at h
    split at h
    · obtain ⟨r, hr, h⟩ := Option.bind_eq_some_iff.1 h
      injection h with h
      subst h
      obtain ⟨n, hn⟩ := val_some hr
      replace hn := (u91 n _ _ _).trans hn
      rw [runFn_bind (K := un91) (K' := some) (f := un91) n91 (fun _ => rfl)] at hn
      obtain ⟨o, h1, h2⟩ := Option.bind_eq_some_iff.1 hn
      rw [un91_ok h2] at h1
      exact ⟨n, h1⟩
    · cases h
/-! f92 loop.example.g01239.spec.boLeaper -/
noncomputable def b92 : Code := Try.f92.body.getD .skip
def kp92 : Nat → Option Keep := lk []
def O92 : List (FuncId × Ora) := [(75, o75)]
def S92_e {ρ : Type} (p0_0 : Int) (p0_1 : Int)   (K : Bool → Option ρ) : Option ρ :=
  ((sh75 p0_1 (1 : Int) (5 : Int)).bind fun r1 => (bif r1 then ((sh75 p0_0 (0 : Int) p0_1).bind fun r2 => K r2) else K false))
theorem s92_e {ρ : Type} (fuel : Nat) (p0_0 : Int) (p0_1 : Int) (Kk : Out → Option ρ) : runFn TT (lk O92) kp92 fuel [.val] false 13 [.tmp 2] b92 [.agg [.int .i64 p0_0, .int .i64 p0_1]] Kk = S92_e p0_0 p0_1   (fun r1 => Kk ⟨[.x (.bool r1)], []⟩) := by
  kernel_rfl
def F92 {ρ : Type} (fuel : Nat) (p0_0 : Int) (p0_1 : Int)  (K : Bool → Option ρ) : Option ρ := S92_e p0_0 p0_1   K
theorem f92 {ρ : Type} (fuel : Nat) (p0_0 : Int) (p0_1 : Int) (Kk : Out → Option ρ) : runFn TT (lk O92) kp92 fuel [.val] false 13 [.tmp 2] b92 [.agg [.int .i64 p0_0, .int .i64 p0_1]] Kk = F92 fuel p0_0 p0_1 (fun r1 => Kk ⟨[.x (.bool r1)], []⟩) := by
  rw [s92_e, F92]
noncomputable def sh92 (p0_0 : Int) (p0_1 : Int) : Option (Bool) := F92 0 p0_0 p0_1 (fun r1 => some r1)
noncomputable def G92 {ρ : Type} : List DU → (Out → Option ρ) → Option ρ
  | [.agg [.int .i64 p0_0, .int .i64 p0_1]], K => (sh92 p0_0 p0_1).bind fun r => K ⟨[.x (.bool r)], []⟩
  | _, _ => none
noncomputable def o92 : Ora := ⟨[.val], false, G92⟩
def un92 : Out → Option (Bool)
  | ⟨[.x (.bool r1)], []⟩ => some r1
  | _ => none
theorem un92_ok {o : Out} {r : Bool} (h : un92 o = some r) : o = ⟨[.x (.bool r)], []⟩ := by
  unfold un92 at h
  split at h
  · injection h with h
    subst h
    rfl
  · cases h
theorem n92 : ∀ k o, lk O92 k = some o → Nat1 o := fun k o h => (ook_list (P := Try.prog) (l := O92) (List.forall_mem_cons.2 ⟨m75, (List.forall_mem_nil _)⟩)).nat k o h
theorem u92 (fuel : Nat) (p0_0 : Int) (p0_1 : Int) : runFn TT (lk O92) kp92 fuel [.val] false 13 [.tmp 2] b92 [.agg [.int .i64 p0_0, .int .i64 p0_1]] un92 = F92 fuel p0_0 p0_1 (fun r1 => some r1) := f92 fuel p0_0 p0_1 un92
theorem m92 : MeetsO Try.prog 92 o92 := by
  refine ⟨fun ρ ds K => ?_, ⟨_, meets_run (kp := kp92) tsOk (ook_list (l := O92) (List.forall_mem_cons.2 ⟨m75, (List.forall_mem_nil _)⟩)) mixed Try.func92 (body := b92) (by kernel_rfl) (ntmps := 13) (by kernel_rfl) (rs := [.tmp 2]) (by kernel_rfl), fun ds out h => ?_⟩, ⟨_, Try.func92, by kernel_rfl, by kernel_rfl⟩⟩
  · show G92 ds K = (G92 ds some).bind K
    unfold G92
    split
    · cases sh92 _ _ <;> rfl
    · rfl
  · replace h : G92 ds some = some out := h
    unfold G92 at h
    split at h
    · obtain ⟨r, hr, h⟩ := Option.bind_eq_some_iff.1 h
      injection h with h
      subst h
      have hn := (u92 0 _ _).trans hr
      rw [runFn_bind (K := un92) (K' := some) (f := un92) n92 (fun _ => rfl)] at hn
      obtain ⟨o, h1, h2⟩ := Option.bind_eq_some_iff.1 hn
      rw [un92_ok h2] at h1
      exact ⟨0, h1⟩
    · cases h
/-! f74 loop.example.g01239.spec.boTwo -/
noncomputable def b74 : Code := Try.f74.body.getD .skip
def kp74 : Nat → Option Keep := lk []
def O74 : List (FuncId × Ora) := [(91, o91), (92, o92)]
def S74_e {ρ : Type} (p0_0 : Int) (p0_1 : Int) (p0_2 : List Int) (p1_0 : Int) (p1_1 : Int)   (K : Bool → Option ρ) : Option ρ :=
  ((sh91 p0_0 p0_1 p0_2).bind fun r1 => (bif r1 then ((sh92 p1_0 p1_1).bind fun r2 => K r2) else K false))
theorem s74_e {ρ : Type} (fuel : Nat) (p0_0 : Int) (p0_1 : Int) (p0_2 : List Int) (p1_0 : Int) (p1_1 : Int) (Kk : Out → Option ρ) : runFn TT (lk O74) kp74 fuel [.val, .val] false 11 [.tmp 4] b74 [.agg [.int .i64 p0_0, .int .i64 p0_1, .sl (.ints .i64 p0_2)], .agg [.int .i64 p1_0, .int .i64 p1_1]] Kk = S74_e p0_0 p0_1 p0_2 p1_0 p1_1   (fun r1 => Kk ⟨[.x (.bool r1)], []⟩) := by
  kernel_rfl
def F74 {ρ : Type} (fuel : Nat) (p0_0 : Int) (p0_1 : Int) (p0_2 : List Int) (p1_0 : Int) (p1_1 : Int)  (K : Bool → Option ρ) : Option ρ := S74_e p0_0 p0_1 p0_2 p1_0 p1_1   K
theorem f74 {ρ : Type} (fuel : Nat) (p0_0 : Int) (p0_1 : Int) (p0_2 : List Int) (p1_0 : Int) (p1_1 : Int) (Kk : Out → Option ρ) : runFn TT (lk O74) kp74 fuel [.val, .val] false 11 [.tmp 4] b74 [.agg [.int .i64 p0_0, .int .i64 p0_1, .sl (.ints .i64 p0_2)], .agg [.int .i64 p1_0, .int .i64 p1_1]] Kk = F74 fuel p0_0 p0_1 p0_2 p1_0 p1_1 (fun r1 => Kk ⟨[.x (.bool r1)], []⟩) := by
  rw [s74_e, F74]
noncomputable def sh74 (p0_0 : Int) (p0_1 : Int) (p0_2 : List Int) (p1_0 : Int) (p1_1 : Int) : Option (Bool) := F74 0 p0_0 p0_1 p0_2 p1_0 p1_1 (fun r1 => some r1)
noncomputable def G74 {ρ : Type} : List DU → (Out → Option ρ) → Option ρ
  | [.agg [.int .i64 p0_0, .int .i64 p0_1, .sl (.ints .i64 p0_2)], .agg [.int .i64 p1_0, .int .i64 p1_1]], K => (sh74 p0_0 p0_1 p0_2 p1_0 p1_1).bind fun r => K ⟨[.x (.bool r)], []⟩
  | _, _ => none
noncomputable def o74 : Ora := ⟨[.val, .val], false, G74⟩
def un74 : Out → Option (Bool)
  | ⟨[.x (.bool r1)], []⟩ => some r1
  | _ => none
theorem un74_ok {o : Out} {r : Bool} (h : un74 o = some r) : o = ⟨[.x (.bool r)], []⟩ := by
  unfold un74 at h
  split at h
  · injection h with h
    subst h
    rfl
  · cases h
theorem n74 : ∀ k o, lk O74 k = some o → Nat1 o := fun k o h => (ook_list (P := Try.prog) (l := O74) (List.forall_mem_cons.2 ⟨m91, (List.forall_mem_cons.2 ⟨m92, (List.forall_mem_nil _)⟩)⟩)).nat k o h
theorem u74 (fuel : Nat) (p0_0 : Int) (p0_1 : Int) (p0_2 : List Int) (p1_0 : Int) (p1_1 : Int) : runFn TT (lk O74) kp74 fuel [.val, .val] false 11 [.tmp 4] b74 [.agg [.int .i64 p0_0, .int .i64 p0_1, .sl (.ints .i64 p0_2)], .agg [.int .i64 p1_0, .int .i64 p1_1]] un74 = F74 fuel p0_0 p0_1 p0_2 p1_0 p1_1 (fun r1 => some r1) := f74 fuel p0_0 p0_1 p0_2 p1_0 p1_1 un74
theorem m74 : MeetsO Try.prog 74 o74 := by
  refine ⟨fun ρ ds K => ?_, ⟨_, meets_run (kp := kp74) tsOk (ook_list (l := O74) (List.forall_mem_cons.2 ⟨m91, (List.forall_mem_cons.2 ⟨m92, (List.forall_mem_nil _)⟩)⟩)) mixed Try.func74 (body := b74) (by kernel_rfl) (ntmps := 11) (by kernel_rfl) (rs := [.tmp 4]) (by kernel_rfl), fun ds out h => ?_⟩, ⟨_, Try.func74, by kernel_rfl, by kernel_rfl⟩⟩
  · show G74 ds K = (G74 ds some).bind K
    unfold G74
    split
    · cases sh74 _ _ _ _ _ <;> rfl
    · rfl
  · replace h : G74 ds some = some out := h
    unfold G74 at h
    split at h
    · obtain ⟨r, hr, h⟩ := Option.bind_eq_some_iff.1 h
      injection h with h
      subst h
      have hn := (u74 0 _ _ _ _ _).trans hr
      rw [runFn_bind (K := un74) (K' := some) (f := un74) n74 (fun _ => rfl)] at hn
      obtain ⟨o, h1, h2⟩ := Option.bind_eq_some_iff.1 hn
      rw [un74_ok h2] at h1
      exact ⟨0, h1⟩
    · cases h
/-! f55 loop.example.g01239.spec.pzGood -/
noncomputable def b55 : Code := Try.f55.body.getD .skip
def kp55 : Nat → Option Keep := lk [(7, ⟨[1, 3, 32, 33, 34], [4096], [], []⟩)]
def O55 : List (FuncId × Ora) := [(59, o59), (74, o74), (75, o75), (79, o79), (80, o80)]
noncomputable def D55_0 {ρ : Type} (fuel : Nat) (p0_0 : Int) (p0_1 : Int) (p0_2 : List Int) (p0_3 : Int) (p0_4 : Int) (p0_5 : List Int) (n : Nat) (v3 : Int) (v32 : List Int) (v33 : Int) (v34 : Int) (c4096_0 : Int) (c4096_1 : Int) (c4096_2 : List Int) (c4096_3 : Int) (c4096_4 : Int) (Kk : Out → Option ρ) : Option ρ :=
  iter (run TT (lk O55) kp55 fuel (cL (cB (cS2 (cS1 (cS2 (cS2 (cS2 (cS2 (b55)))))))))) (nrmAt kp55 (firstRid (cL (cB (cS2 (cS1 (cS2 (cS2 (cS2 (cS2 (b55))))))))))) n (⟨[uu, .u (.x (.ptr 4096 0)), uu, .u (.x (.int .i64 v3)), uu, uu, uu, uu, uu, uu, uu, uu, uu, uu, uu, uu, uu, uu, uu, uu, uu, uu, uu, uu, uu, uu, uu, uu, uu, uu, uu, uu, .u (.x (.ro (.ints .i64 v32))), .u (.x (.int .i64 v33)), .u (.x (.int .i64 v34)), uu, uu, uu, uu, uu, uu, uu, uu, uu, uu, uu, uu, uu, uu, uu, uu, uu, uu, uu, uu, uu, uu, uu, uu, uu, uu, uu, uu], [(4096, [.int .i64 c4096_0, .int .i64 c4096_1, .ro (.ints .i64 c4096_2), .int .i64 c4096_3, .int .i64 c4096_4, .ro (.ints .i64 v32)])], []⟩) (blkK 0 (seqK (run TT (lk O55) kp55 fuel (cS2 (cS2 (cS2 (cS2 (cS2 (b55))))))) (nrmAt kp55 (200000 + firstRid (cS2 (cS2 (cS2 (cS2 (cS2 (b55)))))))) (topK TT [.val] false [.tmp 2] [.agg [.int .i64 p0_0, .int .i64 p0_1, .sl (.ints .i64 p0_2), .int .i64 p0_3, .int .i64 p0_4, .sl (.ints .i64 p0_5)]] Kk)))
def S55_e {ρ : Type} (p0_0 : Int) (p0_1 : Int) (p0_2 : List Int) (p0_3 : Int) (p0_4 : Int) (p0_5 : List Int)  (k0 : (Int → List Int → Int → Int → Int → Int → List Int → Int → Int → Option ρ)) (K : Bool → Option ρ) : Option ρ :=
  ((sh74 p0_0 p0_1 p0_2 p0_3 p0_4).bind fun r1 => (bif !r1 then K false else (bif !decide ((p0_5.length : Int) = (IntKind.i64.wrap (p0_0 * p0_1))) then K false else ((sh59 p0_0 p0_1 p0_2).bind fun r2 => (bif decide ((r2.length : Int) > (16 : Int)) then K false else k0 (r2.length : Int) p0_5 (p0_5.length : Int) (0 : Int) p0_0 p0_1 p0_2 p0_3 p0_4)))))
theorem s55_e {ρ : Type} (fuel : Nat) (p0_0 : Int) (p0_1 : Int) (p0_2 : List Int) (p0_3 : Int) (p0_4 : Int) (p0_5 : List Int) (Kk : Out → Option ρ) : runFn TT (lk O55) kp55 fuel [.val] false 63 [.tmp 2] b55 [.agg [.int .i64 p0_0, .int .i64 p0_1, .sl (.ints .i64 p0_2), .int .i64 p0_3, .int .i64 p0_4, .sl (.ints .i64 p0_5)]] Kk = S55_e p0_0 p0_1 p0_2 p0_3 p0_4 p0_5  (fun v3 v32 v33 v34 c4096_0 c4096_1 c4096_2 c4096_3 c4096_4 => D55_0 fuel p0_0 p0_1 p0_2 p0_3 p0_4 p0_5 fuel v3 v32 v33 v34 c4096_0 c4096_1 c4096_2 c4096_3 c4096_4 Kk) (fun r1 => Kk ⟨[.x (.bool r1)], []⟩) := by
  kernel_rfl
def S55_0 {ρ : Type}  (v3 : Int) (v32 : List Int) (v33 : Int) (v34 : Int) (c4096_0 : Int) (c4096_1 : Int) (c4096_2 : List Int) (c4096_3 : Int) (c4096_4 : Int) (b0 : (Int → List Int → Int → Int → Int → Int → List Int → Int → Int → Option ρ)) (K : Bool → Option ρ) : Option ρ :=
  (bif decide (v34 < v33) then (if 0 ≤ v34 then (if v34 < (v32.length : Int) then ((sh75 (v32.getD v34.toNat 0) (0 : Int) v3).bind fun r1 => (bif !r1 then K false else (bif !decide ((v32.getD v34.toNat 0) = (0 : Int)) then ((sh79 c4096_0 c4096_1 c4096_2 v34).bind fun r2 => (bif !r2 then K false else (if 0 ≤ v34 then (if v34 ≤ (v32.length : Int) then ((sh80 ((v32.take v34.toNat).drop 0) (v32.getD v34.toNat 0)).bind fun r3 => (bif r3 then K false else b0 v3 v32 v33 (IntKind.i64.wrap (v34 + (1 : Int))) c4096_0 c4096_1 c4096_2 c4096_3 c4096_4)) else none) else none))) else b0 v3 v32 v33 (IntKind.i64.wrap (v34 + (1 : Int))) c4096_0 c4096_1 c4096_2 c4096_3 c4096_4))) else none) else none) else K true)
theorem s55_0 {ρ : Type} (fuel : Nat) (p0_0 : Int) (p0_1 : Int) (p0_2 : List Int) (p0_3 : Int) (p0_4 : Int) (p0_5 : List Int) (n : Nat) (v3 : Int) (v32 : List Int) (v33 : Int) (v34 : Int) (c4096_0 : Int) (c4096_1 : Int) (c4096_2 : List Int) (c4096_3 : Int) (c4096_4 : Int) (Kk : Out → Option ρ) : D55_0 fuel p0_0 p0_1 p0_2 p0_3 p0_4 p0_5  (n + 1) v3 v32 v33 v34 c4096_0 c4096_1 c4096_2 c4096_3 c4096_4 Kk = S55_0  v3 v32 v33 v34 c4096_0 c4096_1 c4096_2 c4096_3 c4096_4 (fun v3 v32 v33 v34 c4096_0 c4096_1 c4096_2 c4096_3 c4096_4 => D55_0 fuel p0_0 p0_1 p0_2 p0_3 p0_4 p0_5 n v3 v32 v33 v34 c4096_0 c4096_1 c4096_2 c4096_3 c4096_4 Kk) (fun r1 => Kk ⟨[.x (.bool r1)], []⟩) := by
  kernel_rfl
def F55_0 {ρ : Type} (fuel : Nat)   (K : Bool → Option ρ) : Nat → Int → List Int → Int → Int → Int → Int → List Int → Int → Int → Option ρ
  | 0, _, _, _, _, _, _, _, _, _ => none
  | n + 1, v3, v32, v33, v34, c4096_0, c4096_1, c4096_2, c4096_3, c4096_4 => S55_0  v3 v32 v33 v34 c4096_0 c4096_1 c4096_2 c4096_3 c4096_4 (F55_0 fuel   K n) K
theorem f55_0 {ρ : Type} (fuel : Nat) (p0_0 : Int) (p0_1 : Int) (p0_2 : List Int) (p0_3 : Int) (p0_4 : Int) (p0_5 : List Int) (Kk : Out → Option ρ) : ∀ (n : Nat) (v3 : Int) (v32 : List Int) (v33 : Int) (v34 : Int) (c4096_0 : Int) (c4096_1 : Int) (c4096_2 : List Int) (c4096_3 : Int) (c4096_4 : Int), D55_0 fuel p0_0 p0_1 p0_2 p0_3 p0_4 p0_5  n v3 v32 v33 v34 c4096_0 c4096_1 c4096_2 c4096_3 c4096_4 Kk = F55_0 fuel   (fun r1 => Kk ⟨[.x (.bool r1)], []⟩) n v3 v32 v33 v34 c4096_0 c4096_1 c4096_2 c4096_3 c4096_4 := by
  intro n
  induction n with
  | zero => intros; rfl
  | succ n ih =>
    intro v3 v32 v33 v34 c4096_0 c4096_1 c4096_2 c4096_3 c4096_4
    rw [s55_0, F55_0]
    try simp only [ih]
def F55 {ρ : Type} (fuel : Nat) (p0_0 : Int) (p0_1 : Int) (p0_2 : List Int) (p0_3 : Int) (p0_4 : Int) (p0_5 : List Int)  (K : Bool → Option ρ) : Option ρ := S55_e p0_0 p0_1 p0_2 p0_3 p0_4 p0_5  (F55_0 fuel   K fuel) K
theorem f55 {ρ : Type} (fuel : Nat) (p0_0 : Int) (p0_1 : Int) (p0_2 : List Int) (p0_3 : Int) (p0_4 : Int) (p0_5 : List Int) (Kk : Out → Option ρ) : runFn TT (lk O55) kp55 fuel [.val] false 63 [.tmp 2] b55 [.agg [.int .i64 p0_0, .int .i64 p0_1, .sl (.ints .i64 p0_2), .int .i64 p0_3, .int .i64 p0_4, .sl (.ints .i64 p0_5)]] Kk = F55 fuel p0_0 p0_1 p0_2 p0_3 p0_4 p0_5 (fun r1 => Kk ⟨[.x (.bool r1)], []⟩) := by
  rw [s55_e, F55]
  try simp only [f55_0]
noncomputable def sh55 (p0_0 : Int) (p0_1 : Int) (p0_2 : List Int) (p0_3 : Int) (p0_4 : Int) (p0_5 : List Int) : Option (Bool) := val fun n => F55 n p0_0 p0_1 p0_2 p0_3 p0_4 p0_5 (fun r1 => some r1)
noncomputable def G55 {ρ : Type} : List DU → (Out → Option ρ) → Option ρ
  | [.agg [.int .i64 p0_0, .int .i64 p0_1, .sl (.ints .i64 p0_2), .int .i64 p0_3, .int .i64 p0_4, .sl (.ints .i64 p0_5)]], K => (sh55 p0_0 p0_1 p0_2 p0_3 p0_4 p0_5).bind fun r => K ⟨[.x (.bool r)], []⟩
  | _, _ => none
noncomputable def o55 : Ora := ⟨[.val], false, G55⟩
def un55 : Out → Option (Bool)
  | ⟨[.x (.bool r1)], []⟩ => some r1
  | _ => none
theorem un55_ok {o : Out} {r : Bool} (h : un55 o = some r) : o = ⟨[.x (.bool r)], []⟩ := by
  unfold un55 at h
  split at h
  · injection h with h
    subst h
    rfl
  · cases h
theorem n55 : ∀ k o, lk O55 k = some o → Nat1 o := fun k o h => (ook_list (P := Try.prog) (l := O55) (List.forall_mem_cons.2 ⟨m59, (List.forall_mem_cons.2 ⟨m74, (List.forall_mem_cons.2 ⟨m75, (List.forall_mem_cons.2 ⟨m79, (List.forall_mem_cons.2 ⟨m80, (List.forall_mem_nil _)⟩)⟩)⟩)⟩)⟩)).nat k o h
theorem u55 (fuel : Nat) (p0_0 : Int) (p0_1 : Int) (p0_2 : List Int) (p0_3 : Int) (p0_4 : Int) (p0_5 : List Int) : runFn TT (lk O55) kp55 fuel [.val] false 63 [.tmp 2] b55 [.agg [.int .i64 p0_0, .int .i64 p0_1, .sl (.ints .i64 p0_2), .int .i64 p0_3, .int .i64 p0_4, .sl (.ints .i64 p0_5)]] un55 = F55 fuel p0_0 p0_1 p0_2 p0_3 p0_4 p0_5 (fun r1 => some r1) := f55 fuel p0_0 p0_1 p0_2 p0_3 p0_4 p0_5 un55
theorem sh55_of {n : Nat} {p0_0 : Int} {p0_1 : Int} {p0_2 : List Int} {p0_3 : Int} {p0_4 : Int} {p0_5 : List Int} {r : Bool} (h : F55 n p0_0 p0_1 p0_2 p0_3 p0_4 p0_5 (fun r1 => some r1) = some r) : sh55 p0_0 p0_1 p0_2 p0_3 p0_4 p0_5 = some r := val_of (fun n m r hm h => by rw [← u55] at h ⊢; exact runFn_mono n55 hm h) h
theorem m55 : MeetsO Try.prog 55 o55 := by
  refine ⟨fun ρ ds K => ?_, ⟨_, meets_run (kp := kp55) tsOk (ook_list (l := O55) (List.forall_mem_cons.2 ⟨m59, (List.forall_mem_cons.2 ⟨m74, (List.forall_mem_cons.2 ⟨m75, (List.forall_mem_cons.2 ⟨m79, (List.forall_mem_cons.2 ⟨m80, (List.forall_mem_nil _)⟩)⟩)⟩)⟩)⟩)) mixed Try.func55 (body := b55) (by kernel_rfl) (ntmps := 63) (by kernel_rfl) (rs := [.tmp 2]) (by kernel_rfl), fun ds out h => ?_⟩, ⟨_, Try.func55, by kernel_rfl, by kernel_rfl⟩⟩
  · show G55 ds K = (G55 ds some).bind K
    unfold G55
    split
    · cases sh55 _ _ _ _ _ _ <;> rfl
    · rfl
  · replace h : G55 ds some = some out := h
    unfold G55 at h
    split at h
    · obtain ⟨r, hr, h⟩ := Option.bind_eq_some_iff.1 h
      injection h with h
      subst h
      obtain ⟨n, hn⟩ := val_some hr
      replace hn := (u55 n _ _ _ _ _ _).trans hn
      rw [runFn_bind (K := un55) (K' := some) (f := un55) n55 (fun _ => rfl)] at hn
      obtain ⟨o, h1, h2⟩ := Option.bind_eq_some_iff.1 hn
      rw [un55_ok h2] at h1
      exact ⟨n, h1⟩
    · cases h
/-! f19 loop.example.g01239.spec.IsPuzzle -/
noncomputable def b19 : Code := Try.f19.body.getD .skip
def kp19 : Nat → Option Keep := lk []
def O19 : List (FuncId × Ora) := [(55, o55)]
def S19_e {ρ : Type} (p0_0 : Int) (p0_1 : Int) (p0_2 : List Int) (p0_3 : Int) (p0_4 : Int) (p0_5 : List Int)   (K : Bool → Option ρ) : Option ρ :=
  ((sh55 p0_0 p0_1 p0_2 p0_3 p0_4 p0_5).bind fun r1 => K r1)
theorem s19_e {ρ : Type} (fuel : Nat) (p0_0 : Int) (p0_1 : Int) (p0_2 : List Int) (p0_3 : Int) (p0_4 : Int) (p0_5 : List Int) (Kk : Out → Option ρ) : runFn TT (lk O19) kp19 fuel [.val] false 5 [.tmp 2] b19 [.agg [.int .i64 p0_0, .int .i64 p0_1, .sl (.ints .i64 p0_2), .int .i64 p0_3, .int .i64 p0_4, .sl (.ints .i64 p0_5)]] Kk = S19_e p0_0 p0_1 p0_2 p0_3 p0_4 p0_5   (fun r1 => Kk ⟨[.x (.bool r1)], []⟩) := by
  kernel_rfl
def F19 {ρ : Type} (fuel : Nat) (p0_0 : Int) (p0_1 : Int) (p0_2 : List Int) (p0_3 : Int) (p0_4 : Int) (p0_5 : List Int)  (K : Bool → Option ρ) : Option ρ := S19_e p0_0 p0_1 p0_2 p0_3 p0_4 p0_5   K
theorem f19 {ρ : Type} (fuel : Nat) (p0_0 : Int) (p0_1 : Int) (p0_2 : List Int) (p0_3 : Int) (p0_4 : Int) (p0_5 : List Int) (Kk : Out → Option ρ) : runFn TT (lk O19) kp19 fuel [.val] false 5 [.tmp 2] b19 [.agg [.int .i64 p0_0, .int .i64 p0_1, .sl (.ints .i64 p0_2), .int .i64 p0_3, .int .i64 p0_4, .sl (.ints .i64 p0_5)]] Kk = F19 fuel p0_0 p0_1 p0_2 p0_3 p0_4 p0_5 (fun r1 => Kk ⟨[.x (.bool r1)], []⟩) := by
  rw [s19_e, F19]
noncomputable def sh19 (p0_0 : Int) (p0_1 : Int) (p0_2 : List Int) (p0_3 : Int) (p0_4 : Int) (p0_5 : List Int) : Option (Bool) := F19 0 p0_0 p0_1 p0_2 p0_3 p0_4 p0_5 (fun r1 => some r1)
noncomputable def G19 {ρ : Type} : List DU → (Out → Option ρ) → Option ρ
  | [.agg [.int .i64 p0_0, .int .i64 p0_1, .sl (.ints .i64 p0_2), .int .i64 p0_3, .int .i64 p0_4, .sl (.ints .i64 p0_5)]], K => (sh19 p0_0 p0_1 p0_2 p0_3 p0_4 p0_5).bind fun r => K ⟨[.x (.bool r)], []⟩
  | _, _ => none
noncomputable def o19 : Ora := ⟨[.val], false, G19⟩
def un19 : Out → Option (Bool)
  | ⟨[.x (.bool r1)], []⟩ => some r1
  | _ => none
theorem un19_ok {o : Out} {r : Bool} (h : un19 o = some r) : o = ⟨[.x (.bool r)], []⟩ := by
  unfold un19 at h
  split at h
  · injection h with h
    subst h
    rfl
  · cases h
theorem n19 : ∀ k o, lk O19 k = some o → Nat1 o := fun k o h => (ook_list (P := Try.prog) (l := O19) (List.forall_mem_cons.2 ⟨m55, (List.forall_mem_nil _)⟩)).nat k o h
theorem u19 (fuel : Nat) (p0_0 : Int) (p0_1 : Int) (p0_2 : List Int) (p0_3 : Int) (p0_4 : Int) (p0_5 : List Int) : runFn TT (lk O19) kp19 fuel [.val] false 5 [.tmp 2] b19 [.agg [.int .i64 p0_0, .int .i64 p0_1, .sl (.ints .i64 p0_2), .int .i64 p0_3, .int .i64 p0_4, .sl (.ints .i64 p0_5)]] un19 = F19 fuel p0_0 p0_1 p0_2 p0_3 p0_4 p0_5 (fun r1 => some r1) := f19 fuel p0_0 p0_1 p0_2 p0_3 p0_4 p0_5 un19
theorem m19 : MeetsO Try.prog 19 o19 := by
  refine ⟨fun ρ ds K => ?_, ⟨_, meets_run (kp := kp19) tsOk (ook_list (l := O19) (List.forall_mem_cons.2 ⟨m55, (List.forall_mem_nil _)⟩)) mixed Try.func19 (body := b19) (by kernel_rfl) (ntmps := 5) (by kernel_rfl) (rs := [.tmp 2]) (by kernel_rfl), fun ds out h => ?_⟩, ⟨_, Try.func19, by kernel_rfl, by kernel_rfl⟩⟩
  · show G19 ds K = (G19 ds some).bind K
    unfold G19
    split
    · cases sh19 _ _ _ _ _ _ <;> rfl
    · rfl
  · replace h : G19 ds some = some out := h
    unfold G19 at h
    split at h
    · obtain ⟨r, hr, h⟩ := Option.bind_eq_some_iff.1 h
      injection h with h
      subst h
      have hn := (u19 0 _ _ _ _ _ _).trans hr
      rw [runFn_bind (K := un19) (K' := some) (f := un19) n19 (fun _ => rfl)] at hn
      obtain ⟨o, h1, h2⟩ := Option.bind_eq_some_iff.1 hn
      rw [un19_ok h2] at h1
      exact ⟨0, h1⟩
    · cases h
/-! f40 loop.example.g01239.laws.toIntS -/
noncomputable def b40 : Code := Try.f40.body.getD .skip
def kp40 : Nat → Option Keep := lk [(3, ⟨[0, 3, 4], [], [], []⟩)]
def O40 : List (FuncId × Ora) := []
noncomputable def D40_0 {ρ : Type} (fuel : Nat) (p0 : List Int) (n : Nat) (v0 : List Int) (v3 : List Int) (v4 : Int) (Kk : Out → Option ρ) : Option ρ :=
  iter (run TT (lk O40) kp40 fuel (cL (cB (cS2 (cS1 (cS2 (cS2 (b40)))))))) (nrmAt kp40 (firstRid (cL (cB (cS2 (cS1 (cS2 (cS2 (b40))))))))) n (⟨[.u (.x (.ro (.ints .i64 v0))), uu, uu, .u (.x (.own 5152 (.ints .i64 v3))), .u (.x (.int .i64 v4)), uu, uu, uu, uu, uu, uu, uu, uu, uu, uu, uu, uu, uu, uu, uu, uu, uu], [], []⟩) (blkK 0 (seqK (run TT (lk O40) kp40 fuel (cS2 (cS2 (cS2 (b40))))) (nrmAt kp40 (200000 + firstRid (cS2 (cS2 (cS2 (b40)))))) (topK TT [.val] false [.tmp 2] [.x (.sl (.ints .i64 p0))] Kk)))
def S40_e {ρ : Type} (p0 : List Int)  (k0 : (List Int → List Int → Int → Option ρ)) : Option ρ :=
  (if 0 ≤ (p0.length : Int) then (if (p0.length : Int) ≤ 1099511627776 then k0 p0 (List.replicate (p0.length : Int).toNat (0 : Int)) (0 : Int) else none) else none)
theorem s40_e {ρ : Type} (fuel : Nat) (p0 : List Int) (Kk : Out → Option ρ) : runFn TT (lk O40) kp40 fuel [.val] false 22 [.tmp 2] b40 [.x (.sl (.ints .i64 p0))] Kk = S40_e p0  (fun v0 v3 v4 => D40_0 fuel p0 fuel v0 v3 v4 Kk) := by
  kernel_rfl
def S40_0 {ρ : Type}  (v0 : List Int) (v3 : List Int) (v4 : Int) (b0 : (List Int → List Int → Int → Option ρ)) (K : List Int → Option ρ) : Option ρ :=
  (bif decide (v4 < (v0.length : Int)) then (if 0 ≤ v4 then (if v4 < (v0.length : Int) then (if 0 ≤ v4 then (if v4 < (v3.length : Int) then b0 v0 (v3.set v4.toNat (v0.getD v4.toNat 0)) (IntKind.i64.wrap (v4 + (1 : Int))) else none) else none) else none) else none) else K v3)
theorem s40_0 {ρ : Type} (fuel : Nat) (p0 : List Int) (n : Nat) (v0 : List Int) (v3 : List Int) (v4 : Int) (Kk : Out → Option ρ) : D40_0 fuel p0  (n + 1) v0 v3 v4 Kk = S40_0  v0 v3 v4 (fun v0 v3 v4 => D40_0 fuel p0 n v0 v3 v4 Kk) (fun r1 => Kk ⟨[.x (.sl (.ints .i64 r1))], []⟩) := by
  kernel_rfl
def F40_0 {ρ : Type} (fuel : Nat)   (K : List Int → Option ρ) : Nat → List Int → List Int → Int → Option ρ
  | 0, _, _, _ => none
  | n + 1, v0, v3, v4 => S40_0  v0 v3 v4 (F40_0 fuel   K n) K
theorem f40_0 {ρ : Type} (fuel : Nat) (p0 : List Int) (Kk : Out → Option ρ) : ∀ (n : Nat) (v0 : List Int) (v3 : List Int) (v4 : Int), D40_0 fuel p0  n v0 v3 v4 Kk = F40_0 fuel   (fun r1 => Kk ⟨[.x (.sl (.ints .i64 r1))], []⟩) n v0 v3 v4 := by
  intro n
  induction n with
  | zero => intros; rfl
  | succ n ih =>
    intro v0 v3 v4
    rw [s40_0, F40_0]
    try simp only [ih]
def F40 {ρ : Type} (fuel : Nat) (p0 : List Int)  (K : List Int → Option ρ) : Option ρ := S40_e p0  (F40_0 fuel   K fuel)
theorem f40 {ρ : Type} (fuel : Nat) (p0 : List Int) (Kk : Out → Option ρ) : runFn TT (lk O40) kp40 fuel [.val] false 22 [.tmp 2] b40 [.x (.sl (.ints .i64 p0))] Kk = F40 fuel p0 (fun r1 => Kk ⟨[.x (.sl (.ints .i64 r1))], []⟩) := by
  rw [s40_e, F40]
  try simp only [f40_0]
noncomputable def sh40 (p0 : List Int) : Option (List Int) := val fun n => F40 n p0 (fun r1 => some r1)
noncomputable def G40 {ρ : Type} : List DU → (Out → Option ρ) → Option ρ
  | [.x (.sl (.ints .i64 p0))], K => (sh40 p0).bind fun r => K ⟨[.x (.sl (.ints .i64 r))], []⟩
  | _, _ => none
noncomputable def o40 : Ora := ⟨[.val], false, G40⟩
def un40 : Out → Option (List Int)
  | ⟨[.x (.sl (.ints .i64 r1))], []⟩ => some r1
  | _ => none
theorem un40_ok {o : Out} {r : List Int} (h : un40 o = some r) : o = ⟨[.x (.sl (.ints .i64 r))], []⟩ := by
  unfold un40 at h
  split at h
  · injection h with h
    subst h
    rfl
  · cases h
theorem n40 : ∀ k o, lk O40 k = some o → Nat1 o := fun k o h => (ook_list (P := Try.prog) (l := O40) (List.forall_mem_nil _)).nat k o h
theorem u40 (fuel : Nat) (p0 : List Int) : runFn TT (lk O40) kp40 fuel [.val] false 22 [.tmp 2] b40 [.x (.sl (.ints .i64 p0))] un40 = F40 fuel p0 (fun r1 => some r1) := f40 fuel p0 un40
theorem sh40_of {n : Nat} {p0 : List Int} {r : List Int} (h : F40 n p0 (fun r1 => some r1) = some r) : sh40 p0 = some r := val_of (fun n m r hm h => by rw [← u40] at h ⊢; exact runFn_mono n40 hm h) h
theorem m40 : MeetsO Try.prog 40 o40 := by
  refine ⟨fun ρ ds K => ?_, ⟨_, meets_run (kp := kp40) tsOk (ook_list (l := O40) (List.forall_mem_nil _)) mixed Try.func40 (body := b40) (by kernel_rfl) (ntmps := 22) (by kernel_rfl) (rs := [.tmp 2]) (by kernel_rfl), fun ds out h => ?_⟩, ⟨_, Try.func40, by kernel_rfl, by kernel_rfl⟩⟩
  · show G40 ds K = (G40 ds some).bind K
    unfold G40
    split
    · cases sh40 _ <;> rfl
    · rfl
  · replace h : G40 ds some = some out := h
    unfold G40 at h
    split at h
    · obtain ⟨r, hr, h⟩ := Option.bind_eq_some_iff.1 h
      injection h with h
      subst h
      obtain ⟨n, hn⟩ := val_some hr
      replace hn := (u40 n _).trans hn
      rw [runFn_bind (K := un40) (K' := some) (f := un40) n40 (fun _ => rfl)] at hn
      obtain ⟨o, h1, h2⟩ := Option.bind_eq_some_iff.1 hn
      rw [un40_ok h2] at h1
      exact ⟨n, h1⟩
    · cases h
/-! f45 loop.example.g01239.laws.toBoard -/
noncomputable def b45 : Code := Try.f45.body.getD .skip
def kp45 : Nat → Option Keep := lk []
def O45 : List (FuncId × Ora) := [(40, o40)]
def S45_e {ρ : Type} (p0_0 : Int) (p0_1 : Int) (p0_2 : List Int)   (K : Int → Int → List Int → Option ρ) : Option ρ :=
  ((sh40 p0_2).bind fun r1 => K p0_0 p0_1 r1)
theorem s45_e {ρ : Type} (fuel : Nat) (p0_0 : Int) (p0_1 : Int) (p0_2 : List Int) (Kk : Out → Option ρ) : runFn TT (lk O45) kp45 fuel [.val] false 15 [.cell 2 24] b45 [.agg [.int .i64 p0_0, .int .i64 p0_1, .sl (.ints .i64 p0_2)]] Kk = S45_e p0_0 p0_1 p0_2   (fun r1 r2 r3 => Kk ⟨[.agg [.int .i64 r1, .int .i64 r2, .sl (.ints .i64 r3)]], []⟩) := by
  kernel_rfl
def F45 {ρ : Type} (fuel : Nat) (p0_0 : Int) (p0_1 : Int) (p0_2 : List Int)  (K : Int → Int → List Int → Option ρ) : Option ρ := S45_e p0_0 p0_1 p0_2   K
theorem f45 {ρ : Type} (fuel : Nat) (p0_0 : Int) (p0_1 : Int) (p0_2 : List Int) (Kk : Out → Option ρ) : runFn TT (lk O45) kp45 fuel [.val] false 15 [.cell 2 24] b45 [.agg [.int .i64 p0_0, .int .i64 p0_1, .sl (.ints .i64 p0_2)]] Kk = F45 fuel p0_0 p0_1 p0_2 (fun r1 r2 r3 => Kk ⟨[.agg [.int .i64 r1, .int .i64 r2, .sl (.ints .i64 r3)]], []⟩) := by
  rw [s45_e, F45]
noncomputable def sh45 (p0_0 : Int) (p0_1 : Int) (p0_2 : List Int) : Option (Int × Int × List Int) := F45 0 p0_0 p0_1 p0_2 (fun r1 r2 r3 => some (r1, r2, r3))
noncomputable def G45 {ρ : Type} : List DU → (Out → Option ρ) → Option ρ
  | [.agg [.int .i64 p0_0, .int .i64 p0_1, .sl (.ints .i64 p0_2)]], K => (sh45 p0_0 p0_1 p0_2).bind fun r => K ⟨[.agg [.int .i64 r.1, .int .i64 r.2.1, .sl (.ints .i64 r.2.2)]], []⟩
  | _, _ => none
noncomputable def o45 : Ora := ⟨[.val], false, G45⟩
def un45 : Out → Option (Int × Int × List Int)
  | ⟨[.agg [.int .i64 r1, .int .i64 r2, .sl (.ints .i64 r3)]], []⟩ => some (r1, r2, r3)
  | _ => none
theorem un45_ok {o : Out} {r : Int × Int × List Int} (h : un45 o = some r) : o = ⟨[.agg [.int .i64 r.1, .int .i64 r.2.1, .sl (.ints .i64 r.2.2)]], []⟩ := by
  unfold un45 at h
  split at h
  · injection h with h
    subst h
    rfl
  · cases h
theorem n45 : ∀ k o, lk O45 k = some o → Nat1 o := fun k o h => (ook_list (P := Try.prog) (l := O45) (List.forall_mem_cons.2 ⟨m40, (List.forall_mem_nil _)⟩)).nat k o h
theorem u45 (fuel : Nat) (p0_0 : Int) (p0_1 : Int) (p0_2 : List Int) : runFn TT (lk O45) kp45 fuel [.val] false 15 [.cell 2 24] b45 [.agg [.int .i64 p0_0, .int .i64 p0_1, .sl (.ints .i64 p0_2)]] un45 = F45 fuel p0_0 p0_1 p0_2 (fun r1 r2 r3 => some (r1, r2, r3)) := f45 fuel p0_0 p0_1 p0_2 un45
theorem m45 : MeetsO Try.prog 45 o45 := by
  refine ⟨fun ρ ds K => ?_, ⟨_, meets_run (kp := kp45) tsOk (ook_list (l := O45) (List.forall_mem_cons.2 ⟨m40, (List.forall_mem_nil _)⟩)) mixed Try.func45 (body := b45) (by kernel_rfl) (ntmps := 15) (by kernel_rfl) (rs := [.cell 2 24]) (by kernel_rfl), fun ds out h => ?_⟩, ⟨_, Try.func45, by kernel_rfl, by kernel_rfl⟩⟩
  · show G45 ds K = (G45 ds some).bind K
    unfold G45
    split
    · cases sh45 _ _ _ <;> rfl
    · rfl
  · replace h : G45 ds some = some out := h
    unfold G45 at h
    split at h
    · obtain ⟨r, hr, h⟩ := Option.bind_eq_some_iff.1 h
      injection h with h
      subst h
      have hn := (u45 0 _ _ _).trans hr
      rw [runFn_bind (K := un45) (K' := some) (f := un45) n45 (fun _ => rfl)] at hn
      obtain ⟨o, h1, h2⟩ := Option.bind_eq_some_iff.1 hn
      rw [un45_ok h2] at h1
      exact ⟨0, h1⟩
    · cases h
/-! f46 loop.example.g01239.laws.toLeaper -/
noncomputable def b46 : Code := Try.f46.body.getD .skip
def kp46 : Nat → Option Keep := lk []
def O46 : List (FuncId × Ora) := []
def S46_e {ρ : Type} (p0_0 : Int) (p0_1 : Int)   (K : Int → Int → Option ρ) : Option ρ :=
  K p0_0 p0_1
theorem s46_e {ρ : Type} (fuel : Nat) (p0_0 : Int) (p0_1 : Int) (Kk : Out → Option ρ) : runFn TT (lk O46) kp46 fuel [.val] false 11 [.cell 2 26] b46 [.agg [.int .i64 p0_0, .int .i64 p0_1]] Kk = S46_e p0_0 p0_1   (fun r1 r2 => Kk ⟨[.agg [.int .i64 r1, .int .i64 r2]], []⟩) := by
  kernel_rfl
def F46 {ρ : Type} (fuel : Nat) (p0_0 : Int) (p0_1 : Int)  (K : Int → Int → Option ρ) : Option ρ := S46_e p0_0 p0_1   K
theorem f46 {ρ : Type} (fuel : Nat) (p0_0 : Int) (p0_1 : Int) (Kk : Out → Option ρ) : runFn TT (lk O46) kp46 fuel [.val] false 11 [.cell 2 26] b46 [.agg [.int .i64 p0_0, .int .i64 p0_1]] Kk = F46 fuel p0_0 p0_1 (fun r1 r2 => Kk ⟨[.agg [.int .i64 r1, .int .i64 r2]], []⟩) := by
  rw [s46_e, F46]
noncomputable def sh46 (p0_0 : Int) (p0_1 : Int) : Option (Int × Int) := F46 0 p0_0 p0_1 (fun r1 r2 => some (r1, r2))
noncomputable def G46 {ρ : Type} : List DU → (Out → Option ρ) → Option ρ
  | [.agg [.int .i64 p0_0, .int .i64 p0_1]], K => (sh46 p0_0 p0_1).bind fun r => K ⟨[.agg [.int .i64 r.1, .int .i64 r.2]], []⟩
  | _, _ => none
noncomputable def o46 : Ora := ⟨[.val], false, G46⟩
def un46 : Out → Option (Int × Int)
  | ⟨[.agg [.int .i64 r1, .int .i64 r2]], []⟩ => some (r1, r2)
  | _ => none
theorem un46_ok {o : Out} {r : Int × Int} (h : un46 o = some r) : o = ⟨[.agg [.int .i64 r.1, .int .i64 r.2]], []⟩ := by
  unfold un46 at h
  split at h
  · injection h with h
    subst h
    rfl
  · cases h
theorem n46 : ∀ k o, lk O46 k = some o → Nat1 o := fun k o h => (ook_list (P := Try.prog) (l := O46) (List.forall_mem_nil _)).nat k o h
theorem u46 (fuel : Nat) (p0_0 : Int) (p0_1 : Int) : runFn TT (lk O46) kp46 fuel [.val] false 11 [.cell 2 26] b46 [.agg [.int .i64 p0_0, .int .i64 p0_1]] un46 = F46 fuel p0_0 p0_1 (fun r1 r2 => some (r1, r2)) := f46 fuel p0_0 p0_1 un46
theorem m46 : MeetsO Try.prog 46 o46 := by
  refine ⟨fun ρ ds K => ?_, ⟨_, meets_run (kp := kp46) tsOk (ook_list (l := O46) (List.forall_mem_nil _)) mixed Try.func46 (body := b46) (by kernel_rfl) (ntmps := 11) (by kernel_rfl) (rs := [.cell 2 26]) (by kernel_rfl), fun ds out h => ?_⟩, ⟨_, Try.func46, by kernel_rfl, by kernel_rfl⟩⟩
  · show G46 ds K = (G46 ds some).bind K
    unfold G46
    split
    · cases sh46 _ _ <;> rfl
    · rfl
  · replace h : G46 ds some = some out := h
    unfold G46 at h
    split at h
    · obtain ⟨r, hr, h⟩ := Option.bind_eq_some_iff.1 h
      injection h with h
      subst h
      have hn := (u46 0 _ _).trans hr
      rw [runFn_bind (K := un46) (K' := some) (f := un46) n46 (fun _ => rfl)] at hn
      obtain ⟨o, h1, h2⟩ := Option.bind_eq_some_iff.1 hn
      rw [un46_ok h2] at h1
      exact ⟨0, h1⟩
    · cases h
/-! f20 loop.example.g01239.laws.toPuzzle -/
noncomputable def b20 : Code := Try.f20.body.getD .skip
def kp20 : Nat → Option Keep := lk []
def O20 : List (FuncId × Ora) := [(40, o40), (45, o45), (46, o46)]
def S20_e {ρ : Type} (p0_0 : Int) (p0_1 : Int) (p0_2 : List Int) (p0_3 : Int) (p0_4 : Int) (p0_5 : List Int)   (K : Int → Int → List Int → Int → Int → List Int → Option ρ) : Option ρ :=
  ((sh45 p0_0 p0_1 p0_2).bind fun r1 => ((sh46 p0_3 p0_4).bind fun r2 => ((sh40 p0_5).bind fun r3 => K r1.1 r1.2.1 r1.2.2 r2.1 r2.2 r3)))
theorem s20_e {ρ : Type} (fuel : Nat) (p0_0 : Int) (p0_1 : Int) (p0_2 : List Int) (p0_3 : Int) (p0_4 : Int) (p0_5 : List Int) (Kk : Out → Option ρ) : runFn TT (lk O20) kp20 fuel [.val] false 17 [.cell 2 40] b20 [.agg [.int .i64 p0_0, .int .i64 p0_1, .sl (.ints .i64 p0_2), .int .i64 p0_3, .int .i64 p0_4, .sl (.ints .i64 p0_5)]] Kk = S20_e p0_0 p0_1 p0_2 p0_3 p0_4 p0_5   (fun r1 r2 r3 r4 r5 r6 => Kk ⟨[.agg [.int .i64 r1, .int .i64 r2, .sl (.ints .i64 r3), .int .i64 r4, .int .i64 r5, .sl (.ints .i64 r6)]], []⟩) := by
  kernel_rfl
def F20 {ρ : Type} (fuel : Nat) (p0_0 : Int) (p0_1 : Int) (p0_2 : List Int) (p0_3 : Int) (p0_4 : Int) (p0_5 : List Int)  (K : Int → Int → List Int → Int → Int → List Int → Option ρ) : Option ρ := S20_e p0_0 p0_1 p0_2 p0_3 p0_4 p0_5   K
theorem f20 {ρ : Type} (fuel : Nat) (p0_0 : Int) (p0_1 : Int) (p0_2 : List Int) (p0_3 : Int) (p0_4 : Int) (p0_5 : List Int) (Kk : Out → Option ρ) : runFn TT (lk O20) kp20 fuel [.val] false 17 [.cell 2 40] b20 [.agg [.int .i64 p0_0, .int .i64 p0_1, .sl (.ints .i64 p0_2), .int .i64 p0_3, .int .i64 p0_4, .sl (.ints .i64 p0_5)]] Kk = F20 fuel p0_0 p0_1 p0_2 p0_3 p0_4 p0_5 (fun r1 r2 r3 r4 r5 r6 => Kk ⟨[.agg [.int .i64 r1, .int .i64 r2, .sl (.ints .i64 r3), .int .i64 r4, .int .i64 r5, .sl (.ints .i64 r6)]], []⟩) := by
  rw [s20_e, F20]
noncomputable def sh20 (p0_0 : Int) (p0_1 : Int) (p0_2 : List Int) (p0_3 : Int) (p0_4 : Int) (p0_5 : List Int) : Option (Int × Int × List Int × Int × Int × List Int) := F20 0 p0_0 p0_1 p0_2 p0_3 p0_4 p0_5 (fun r1 r2 r3 r4 r5 r6 => some (r1, r2, r3, r4, r5, r6))
noncomputable def G20 {ρ : Type} : List DU → (Out → Option ρ) → Option ρ
  | [.agg [.int .i64 p0_0, .int .i64 p0_1, .sl (.ints .i64 p0_2), .int .i64 p0_3, .int .i64 p0_4, .sl (.ints .i64 p0_5)]], K => (sh20 p0_0 p0_1 p0_2 p0_3 p0_4 p0_5).bind fun r => K ⟨[.agg [.int .i64 r.1, .int .i64 r.2.1, .sl (.ints .i64 r.2.2.1), .int .i64 r.2.2.2.1, .int .i64 r.2.2.2.2.1, .sl (.ints .i64 r.2.2.2.2.2)]], []⟩
  | _, _ => none
noncomputable def o20 : Ora := ⟨[.val], false, G20⟩
def un20 : Out → Option (Int × Int × List Int × Int × Int × List Int)
  | ⟨[.agg [.int .i64 r1, .int .i64 r2, .sl (.ints .i64 r3), .int .i64 r4, .int .i64 r5, .sl (.ints .i64 r6)]], []⟩ => some (r1, r2, r3, r4, r5, r6)
  | _ => none
theorem un20_ok {o : Out} {r : Int × Int × List Int × Int × Int × List Int} (h : un20 o = some r) : o = ⟨[.agg [.int .i64 r.1, .int .i64 r.2.1, .sl (.ints .i64 r.2.2.1), .int .i64 r.2.2.2.1, .int .i64 r.2.2.2.2.1, .sl (.ints .i64 r.2.2.2.2.2)]], []⟩ := by
  unfold un20 at h
  split at h
  · injection h with h
    subst h
    rfl
  · cases h
theorem n20 : ∀ k o, lk O20 k = some o → Nat1 o := fun k o h => (ook_list (P := Try.prog) (l := O20) (List.forall_mem_cons.2 ⟨m40, (List.forall_mem_cons.2 ⟨m45, (List.forall_mem_cons.2 ⟨m46, (List.forall_mem_nil _)⟩)⟩)⟩)).nat k o h
theorem u20 (fuel : Nat) (p0_0 : Int) (p0_1 : Int) (p0_2 : List Int) (p0_3 : Int) (p0_4 : Int) (p0_5 : List Int) : runFn TT (lk O20) kp20 fuel [.val] false 17 [.cell 2 40] b20 [.agg [.int .i64 p0_0, .int .i64 p0_1, .sl (.ints .i64 p0_2), .int .i64 p0_3, .int .i64 p0_4, .sl (.ints .i64 p0_5)]] un20 = F20 fuel p0_0 p0_1 p0_2 p0_3 p0_4 p0_5 (fun r1 r2 r3 r4 r5 r6 => some (r1, r2, r3, r4, r5, r6)) := f20 fuel p0_0 p0_1 p0_2 p0_3 p0_4 p0_5 un20
theorem m20 : MeetsO Try.prog 20 o20 := by
  refine ⟨fun ρ ds K => ?_, ⟨_, meets_run (kp := kp20) tsOk (ook_list (l := O20) (List.forall_mem_cons.2 ⟨m40, (List.forall_mem_cons.2 ⟨m45, (List.forall_mem_cons.2 ⟨m46, (List.forall_mem_nil _)⟩)⟩)⟩)) mixed Try.func20 (body := b20) (by kernel_rfl) (ntmps := 17) (by kernel_rfl) (rs := [.cell 2 40]) (by kernel_rfl), fun ds out h => ?_⟩, ⟨_, Try.func20, by kernel_rfl, by kernel_rfl⟩⟩
  · show G20 ds K = (G20 ds some).bind K
    unfold G20
    split
    · cases sh20 _ _ _ _ _ _ <;> rfl
    · rfl
  · replace h : G20 ds some = some out := h
    unfold G20 at h
    split at h
    · obtain ⟨r, hr, h⟩ := Option.bind_eq_some_iff.1 h
      injection h with h
      subst h
      have hn := (u20 0 _ _ _ _ _ _).trans hr
      rw [runFn_bind (K := un20) (K' := some) (f := un20) n20 (fun _ => rfl)] at hn
      obtain ⟨o, h1, h2⟩ := Option.bind_eq_some_iff.1 hn
      rw [un20_ok h2] at h1
      exact ⟨0, h1⟩
    · cases h
/-! f81 loop.example.g01239.impl.sized -/
noncomputable def b81 : Code := Try.f81.body.getD .skip
def kp81 : Nat → Option Keep := lk []
def O81 : List (FuncId × Ora) := []
def S81_e {ρ : Type} (p0 : Int)   (K : Bool → Option ρ) : Option ρ :=
  (bif decide (p0 ≥ (1 : Int)) then K (decide (p0 ≤ (8 : Int))) else K false)
theorem s81_e {ρ : Type} (fuel : Nat) (p0 : Int) (Kk : Out → Option ρ) : runFn TT (lk O81) kp81 fuel [.val] false 9 [.tmp 2] b81 [.x (.int .i64 p0)] Kk = S81_e p0   (fun r1 => Kk ⟨[.x (.bool r1)], []⟩) := by
  kernel_rfl
def F81 {ρ : Type} (fuel : Nat) (p0 : Int)  (K : Bool → Option ρ) : Option ρ := S81_e p0   K
theorem f81 {ρ : Type} (fuel : Nat) (p0 : Int) (Kk : Out → Option ρ) : runFn TT (lk O81) kp81 fuel [.val] false 9 [.tmp 2] b81 [.x (.int .i64 p0)] Kk = F81 fuel p0 (fun r1 => Kk ⟨[.x (.bool r1)], []⟩) := by
  rw [s81_e, F81]
noncomputable def sh81 (p0 : Int) : Option (Bool) := F81 0 p0 (fun r1 => some r1)
noncomputable def G81 {ρ : Type} : List DU → (Out → Option ρ) → Option ρ
  | [.x (.int .i64 p0)], K => (sh81 p0).bind fun r => K ⟨[.x (.bool r)], []⟩
  | _, _ => none
noncomputable def o81 : Ora := ⟨[.val], false, G81⟩
def un81 : Out → Option (Bool)
  | ⟨[.x (.bool r1)], []⟩ => some r1
  | _ => none
theorem un81_ok {o : Out} {r : Bool} (h : un81 o = some r) : o = ⟨[.x (.bool r)], []⟩ := by
  unfold un81 at h
  split at h
  · injection h with h
    subst h
    rfl
  · cases h
theorem n81 : ∀ k o, lk O81 k = some o → Nat1 o := fun k o h => (ook_list (P := Try.prog) (l := O81) (List.forall_mem_nil _)).nat k o h
theorem u81 (fuel : Nat) (p0 : Int) : runFn TT (lk O81) kp81 fuel [.val] false 9 [.tmp 2] b81 [.x (.int .i64 p0)] un81 = F81 fuel p0 (fun r1 => some r1) := f81 fuel p0 un81
theorem m81 : MeetsO Try.prog 81 o81 := by
  refine ⟨fun ρ ds K => ?_, ⟨_, meets_run (kp := kp81) tsOk (ook_list (l := O81) (List.forall_mem_nil _)) mixed Try.func81 (body := b81) (by kernel_rfl) (ntmps := 9) (by kernel_rfl) (rs := [.tmp 2]) (by kernel_rfl), fun ds out h => ?_⟩, ⟨_, Try.func81, by kernel_rfl, by kernel_rfl⟩⟩
  · show G81 ds K = (G81 ds some).bind K
    unfold G81
    split
    · cases sh81 _ <;> rfl
    · rfl
  · replace h : G81 ds some = some out := h
    unfold G81 at h
    split at h
    · obtain ⟨r, hr, h⟩ := Option.bind_eq_some_iff.1 h
      injection h with h
      subst h
      have hn := (u81 0 _).trans hr
      rw [runFn_bind (K := un81) (K' := some) (f := un81) n81 (fun _ => rfl)] at hn
      obtain ⟨o, h1, h2⟩ := Option.bind_eq_some_iff.1 hn
      rw [un81_ok h2] at h1
      exact ⟨0, h1⟩
    · cases h
/-! f56 loop.example.g01239.impl.IsBoard -/
noncomputable def b56 : Code := Try.f56.body.getD .skip
def kp56 : Nat → Option Keep := lk [(4, ⟨[1, 27, 28, 29], [4096], [], []⟩)]
def O56 : List (FuncId × Ora) := [(81, o81)]
noncomputable def D56_0 {ρ : Type} (fuel : Nat) (p0_0 : Int) (p0_1 : Int) (p0_2 : List Int) (n : Nat) (v27 : List Int) (v28 : Int) (v29 : Int) (c4096_0 : Int) (c4096_1 : Int) (Kk : Out → Option ρ) : Option ρ :=
  iter (run TT (lk O56) kp56 fuel (cL (cB (cS2 (cS1 (cS2 (cS2 (b56)))))))) (nrmAt kp56 (firstRid (cL (cB (cS2 (cS1 (cS2 (cS2 (b56))))))))) n (⟨[uu, .u (.x (.ptr 4096 0)), uu, uu, uu, uu, uu, uu, uu, uu, uu, uu, uu, uu, uu, uu, uu, uu, uu, uu, uu, uu, uu, uu, uu, uu, uu, .u (.x (.ro (.ints .i64 v27))), .u (.x (.int .i64 v28)), .u (.x (.int .i64 v29)), uu, uu, uu, uu, uu, uu, uu, uu, uu, uu, uu, uu, uu, uu, uu, uu, uu, uu, uu, uu, uu, uu, uu, uu, uu, uu, uu, uu, uu, uu], [(4096, [.int .i64 c4096_0, .int .i64 c4096_1, .ro (.ints .i64 v27)])], []⟩) (blkK 0 (seqK (run TT (lk O56) kp56 fuel (cS2 (cS2 (cS2 (b56))))) (nrmAt kp56 (200000 + firstRid (cS2 (cS2 (cS2 (b56)))))) (topK TT [.val] false [.tmp 2] [.agg [.int .i64 p0_0, .int .i64 p0_1, .sl (.ints .i64 p0_2)]] Kk)))
def S56_e {ρ : Type} (p0_0 : Int) (p0_1 : Int) (p0_2 : List Int)  (k0 : (List Int → Int → Int → Int → Int → Option ρ)) (K : Bool → Option ρ) : Option ρ :=
  ((sh81 p0_0).bind fun r1 => (bif !r1 then K false else ((sh81 p0_1).bind fun r2 => (bif !r2 then K false else (bif decide ((p0_2.length : Int) ≥ (IntKind.i64.wrap (p0_0 * p0_1))) then K false else k0 p0_2 (p0_2.length : Int) (0 : Int) p0_0 p0_1)))))
theorem s56_e {ρ : Type} (fuel : Nat) (p0_0 : Int) (p0_1 : Int) (p0_2 : List Int) (Kk : Out → Option ρ) : runFn TT (lk O56) kp56 fuel [.val] false 60 [.tmp 2] b56 [.agg [.int .i64 p0_0, .int .i64 p0_1, .sl (.ints .i64 p0_2)]] Kk = S56_e p0_0 p0_1 p0_2  (fun v27 v28 v29 c4096_0 c4096_1 => D56_0 fuel p0_0 p0_1 p0_2 fuel v27 v28 v29 c4096_0 c4096_1 Kk) (fun r1 => Kk ⟨[.x (.bool r1)], []⟩) := by
  kernel_rfl
def S56_0 {ρ : Type}  (v27 : List Int) (v28 : Int) (v29 : Int) (c4096_0 : Int) (c4096_1 : Int) (b0 : (List Int → Int → Int → Int → Int → Option ρ)) (K : Bool → Option ρ) : Option ρ :=
  (bif decide (v29 < v28) then (if 0 ≤ v29 then (if v29 < (v27.length : Int) then (bif decide ((v27.getD v29.toNat 0) < (0 : Int)) then K false else (bif decide ((v27.getD v29.toNat 0) ≥ (IntKind.i64.wrap (c4096_0 * c4096_1))) then K false else (bif decide (v29 > (0 : Int)) then (if 0 ≤ (IntKind.i64.wrap (v29 - (1 : Int))) then (if (IntKind.i64.wrap (v29 - (1 : Int))) < (v27.length : Int) then (bif decide ((v27.getD ((IntKind.i64.wrap (v29 - (1 : Int))).toNat) 0) ≥ (v27.getD v29.toNat 0)) then K false else b0 v27 v28 (IntKind.i64.wrap (v29 + (1 : Int))) c4096_0 c4096_1) else none) else none) else b0 v27 v28 (IntKind.i64.wrap (v29 + (1 : Int))) c4096_0 c4096_1))) else none) else none) else K true)
theorem s56_0 {ρ : Type} (fuel : Nat) (p0_0 : Int) (p0_1 : Int) (p0_2 : List Int) (n : Nat) (v27 : List Int) (v28 : Int) (v29 : Int) (c4096_0 : Int) (c4096_1 : Int) (Kk : Out → Option ρ) : D56_0 fuel p0_0 p0_1 p0_2  (n + 1) v27 v28 v29 c4096_0 c4096_1 Kk = S56_0  v27 v28 v29 c4096_0 c4096_1 (fun v27 v28 v29 c4096_0 c4096_1 => D56_0 fuel p0_0 p0_1 p0_2 n v27 v28 v29 c4096_0 c4096_1 Kk) (fun r1 => Kk ⟨[.x (.bool r1)], []⟩) := by
  kernel_rfl
def F56_0 {ρ : Type} (fuel : Nat)   (K : Bool → Option ρ) : Nat → List Int → Int → Int → Int → Int → Option ρ
  | 0, _, _, _, _, _ => none
  | n + 1, v27, v28, v29, c4096_0, c4096_1 => S56_0  v27 v28 v29 c4096_0 c4096_1 (F56_0 fuel   K n) K
theorem f56_0 {ρ : Type} (fuel : Nat) (p0_0 : Int) (p0_1 : Int) (p0_2 : List Int) (Kk : Out → Option ρ) : ∀ (n : Nat) (v27 : List Int) (v28 : Int) (v29 : Int) (c4096_0 : Int) (c4096_1 : Int), D56_0 fuel p0_0 p0_1 p0_2  n v27 v28 v29 c4096_0 c4096_1 Kk = F56_0 fuel   (fun r1 => Kk ⟨[.x (.bool r1)], []⟩) n v27 v28 v29 c4096_0 c4096_1 := by
  intro n
  induction n with
  | zero => intros; rfl
  | succ n ih =>
    intro v27 v28 v29 c4096_0 c4096_1
    rw [s56_0, F56_0]
    try simp only [ih]
def F56 {ρ : Type} (fuel : Nat) (p0_0 : Int) (p0_1 : Int) (p0_2 : List Int)  (K : Bool → Option ρ) : Option ρ := S56_e p0_0 p0_1 p0_2  (F56_0 fuel   K fuel) K
theorem f56 {ρ : Type} (fuel : Nat) (p0_0 : Int) (p0_1 : Int) (p0_2 : List Int) (Kk : Out → Option ρ) : runFn TT (lk O56) kp56 fuel [.val] false 60 [.tmp 2] b56 [.agg [.int .i64 p0_0, .int .i64 p0_1, .sl (.ints .i64 p0_2)]] Kk = F56 fuel p0_0 p0_1 p0_2 (fun r1 => Kk ⟨[.x (.bool r1)], []⟩) := by
  rw [s56_e, F56]
  try simp only [f56_0]
noncomputable def sh56 (p0_0 : Int) (p0_1 : Int) (p0_2 : List Int) : Option (Bool) := val fun n => F56 n p0_0 p0_1 p0_2 (fun r1 => some r1)
noncomputable def G56 {ρ : Type} : List DU → (Out → Option ρ) → Option ρ
  | [.agg [.int .i64 p0_0, .int .i64 p0_1, .sl (.ints .i64 p0_2)]], K => (sh56 p0_0 p0_1 p0_2).bind fun r => K ⟨[.x (.bool r)], []⟩
  | _, _ => none
noncomputable def o56 : Ora := ⟨[.val], false, G56⟩
def un56 : Out → Option (Bool)
  | ⟨[.x (.bool r1)], []⟩ => some r1
  | _ => none
theorem un56_ok {o : Out} {r : Bool} (h : un56 o = some r) : o = ⟨[.x (.bool r)], []⟩ := by
  unfold un56 at h
  split at h
  · injection h with h
    subst h
    rfl
  · cases h
theorem n56 : ∀ k o, lk O56 k = some o → Nat1 o := fun k o h => (ook_list (P := Try.prog) (l := O56) (List.forall_mem_cons.2 ⟨m81, (List.forall_mem_nil _)⟩)).nat k o h
theorem u56 (fuel : Nat) (p0_0 : Int) (p0_1 : Int) (p0_2 : List Int) : runFn TT (lk O56) kp56 fuel [.val] false 60 [.tmp 2] b56 [.agg [.int .i64 p0_0, .int .i64 p0_1, .sl (.ints .i64 p0_2)]] un56 = F56 fuel p0_0 p0_1 p0_2 (fun r1 => some r1) := f56 fuel p0_0 p0_1 p0_2 un56
theorem sh56_of {n : Nat} {p0_0 : Int} {p0_1 : Int} {p0_2 : List Int} {r : Bool} (h : F56 n p0_0 p0_1 p0_2 (fun r1 => some r1) = some r) : sh56 p0_0 p0_1 p0_2 = some r := val_of (fun n m r hm h => by rw [← u56] at h ⊢; exact runFn_mono n56 hm h) h
theorem m56 : MeetsO Try.prog 56 o56 := by
  refine ⟨fun ρ ds K => ?_, ⟨_, meets_run (kp := kp56) tsOk (ook_list (l := O56) (List.forall_mem_cons.2 ⟨m81, (List.forall_mem_nil _)⟩)) mixed Try.func56 (body := b56) (by kernel_rfl) (ntmps := 60) (by kernel_rfl) (rs := [.tmp 2]) (by kernel_rfl), fun ds out h => ?_⟩, ⟨_, Try.func56, by kernel_rfl, by kernel_rfl⟩⟩
  · show G56 ds K = (G56 ds some).bind K
    unfold G56
    split
    · cases sh56 _ _ _ <;> rfl
    · rfl
  · replace h : G56 ds some = some out := h
    unfold G56 at h
    split at h
    · obtain ⟨r, hr, h⟩ := Option.bind_eq_some_iff.1 h
      injection h with h
      subst h
      obtain ⟨n, hn⟩ := val_some hr
      replace hn := (u56 n _ _ _).trans hn
      rw [runFn_bind (K := un56) (K' := some) (f := un56) n56 (fun _ => rfl)] at hn
      obtain ⟨o, h1, h2⟩ := Option.bind_eq_some_iff.1 hn
      rw [un56_ok h2] at h1
      exact ⟨n, h1⟩
    · cases h
/-! f57 loop.example.g01239.impl.IsLeaper -/
noncomputable def b57 : Code := Try.f57.body.getD .skip
def kp57 : Nat → Option Keep := lk []
def O57 : List (FuncId × Ora) := []
def S57_e {ρ : Type} (p0_0 : Int) (p0_1 : Int)   (K : Bool → Option ρ) : Option ρ :=
  (bif decide (p0_0 ≥ (0 : Int)) then (bif decide (p0_0 ≤ p0_1) then (bif decide (p0_1 ≥ (1 : Int)) then K (decide (p0_1 ≤ (5 : Int))) else K false) else K false) else K false)
theorem s57_e {ρ : Type} (fuel : Nat) (p0_0 : Int) (p0_1 : Int) (Kk : Out → Option ρ) : runFn TT (lk O57) kp57 fuel [.val] false 23 [.tmp 2] b57 [.agg [.int .i64 p0_0, .int .i64 p0_1]] Kk = S57_e p0_0 p0_1   (fun r1 => Kk ⟨[.x (.bool r1)], []⟩) := by
  kernel_rfl
def F57 {ρ : Type} (fuel : Nat) (p0_0 : Int) (p0_1 : Int)  (K : Bool → Option ρ) : Option ρ := S57_e p0_0 p0_1   K
theorem f57 {ρ : Type} (fuel : Nat) (p0_0 : Int) (p0_1 : Int) (Kk : Out → Option ρ) : runFn TT (lk O57) kp57 fuel [.val] false 23 [.tmp 2] b57 [.agg [.int .i64 p0_0, .int .i64 p0_1]] Kk = F57 fuel p0_0 p0_1 (fun r1 => Kk ⟨[.x (.bool r1)], []⟩) := by
  rw [s57_e, F57]
noncomputable def sh57 (p0_0 : Int) (p0_1 : Int) : Option (Bool) := F57 0 p0_0 p0_1 (fun r1 => some r1)
noncomputable def G57 {ρ : Type} : List DU → (Out → Option ρ) → Option ρ
  | [.agg [.int .i64 p0_0, .int .i64 p0_1]], K => (sh57 p0_0 p0_1).bind fun r => K ⟨[.x (.bool r)], []⟩
  | _, _ => none
noncomputable def o57 : Ora := ⟨[.val], false, G57⟩
def un57 : Out → Option (Bool)
  | ⟨[.x (.bool r1)], []⟩ => some r1
  | _ => none
theorem un57_ok {o : Out} {r : Bool} (h : un57 o = some r) : o = ⟨[.x (.bool r)], []⟩ := by
  unfold un57 at h
  split at h
  · injection h with h
    subst h
    rfl
  · cases h
theorem n57 : ∀ k o, lk O57 k = some o → Nat1 o := fun k o h => (ook_list (P := Try.prog) (l := O57) (List.forall_mem_nil _)).nat k o h
theorem u57 (fuel : Nat) (p0_0 : Int) (p0_1 : Int) : runFn TT (lk O57) kp57 fuel [.val] false 23 [.tmp 2] b57 [.agg [.int .i64 p0_0, .int .i64 p0_1]] un57 = F57 fuel p0_0 p0_1 (fun r1 => some r1) := f57 fuel p0_0 p0_1 un57
theorem m57 : MeetsO Try.prog 57 o57 := by
  refine ⟨fun ρ ds K => ?_, ⟨_, meets_run (kp := kp57) tsOk (ook_list (l := O57) (List.forall_mem_nil _)) mixed Try.func57 (body := b57) (by kernel_rfl) (ntmps := 23) (by kernel_rfl) (rs := [.tmp 2]) (by kernel_rfl), fun ds out h => ?_⟩, ⟨_, Try.func57, by kernel_rfl, by kernel_rfl⟩⟩
  · show G57 ds K = (G57 ds some).bind K
    unfold G57
    split
    · cases sh57 _ _ <;> rfl
    · rfl
  · replace h : G57 ds some = some out := h
    unfold G57 at h
    split at h
    · obtain ⟨r, hr, h⟩ := Option.bind_eq_some_iff.1 h
      injection h with h
      subst h
      have hn := (u57 0 _ _).trans hr
      rw [runFn_bind (K := un57) (K' := some) (f := un57) n57 (fun _ => rfl)] at hn
      obtain ⟨o, h1, h2⟩ := Option.bind_eq_some_iff.1 hn
      rw [un57_ok h2] at h1
      exact ⟨0, h1⟩
    · cases h
/-! f93 slices.Index[[]int,int] -/
noncomputable def b93 : Code := Try.f93.body.getD .skip
def kp93 : Nat → Option Keep := lk [(2, ⟨[0, 1, 7, 8], [], [], []⟩)]
def O93 : List (FuncId × Ora) := []
noncomputable def D93_0 {ρ : Type} (fuel : Nat) (p0 : List Int) (p1 : Int) (n : Nat) (v0 : List Int) (v1 : Int) (v7 : Int) (v8 : Int) (Kk : Out → Option ρ) : Option ρ :=
  iter (run TT (lk O93) kp93 fuel (cL (cB (cS2 (cS1 (cS2 (b93))))))) (nrmAt kp93 (firstRid (cL (cB (cS2 (cS1 (cS2 (b93)))))))) n (⟨[.u (.x (.ro (.ints .i64 v0))), .u (.x (.int .i64 v1)), uu, uu, uu, uu, uu, .u (.x (.int .i64 v7)), .u (.x (.int .i64 v8)), uu, uu, uu, uu, uu, uu, uu, uu, uu, uu], [], []⟩) (blkK 0 (seqK (run TT (lk O93) kp93 fuel (cS2 (cS2 (b93)))) (nrmAt kp93 (200000 + firstRid (cS2 (cS2 (b93))))) (topK TT [.val, .val] false [.tmp 4] [.x (.sl (.ints .i64 p0)), .x (.int .i64 p1)] Kk)))
def S93_e {ρ : Type} (p0 : List Int) (p1 : Int)  (k0 : (List Int → Int → Int → Int → Option ρ)) : Option ρ :=
  k0 p0 p1 (p0.length : Int) (0 : Int)
theorem s93_e {ρ : Type} (fuel : Nat) (p0 : List Int) (p1 : Int) (Kk : Out → Option ρ) : runFn TT (lk O93) kp93 fuel [.val, .val] false 19 [.tmp 4] b93 [.x (.sl (.ints .i64 p0)), .x (.int .i64 p1)] Kk = S93_e p0 p1  (fun v0 v1 v7 v8 => D93_0 fuel p0 p1 fuel v0 v1 v7 v8 Kk) := by
  kernel_rfl
def S93_0 {ρ : Type}  (v0 : List Int) (v1 : Int) (v7 : Int) (v8 : Int) (b0 : (List Int → Int → Int → Int → Option ρ)) (K : Int → Option ρ) : Option ρ :=
  (bif decide (v8 < v7) then (if 0 ≤ v8 then (if v8 < (v0.length : Int) then (bif decide (v1 = (v0.getD v8.toNat 0)) then K v8 else b0 v0 v1 v7 (IntKind.i64.wrap (v8 + (1 : Int)))) else none) else none) else K (-1 : Int))
theorem s93_0 {ρ : Type} (fuel : Nat) (p0 : List Int) (p1 : Int) (n : Nat) (v0 : List Int) (v1 : Int) (v7 : Int) (v8 : Int) (Kk : Out → Option ρ) : D93_0 fuel p0 p1  (n + 1) v0 v1 v7 v8 Kk = S93_0  v0 v1 v7 v8 (fun v0 v1 v7 v8 => D93_0 fuel p0 p1 n v0 v1 v7 v8 Kk) (fun r1 => Kk ⟨[.x (.int .i64 r1)], []⟩) := by
  kernel_rfl
def F93_0 {ρ : Type} (fuel : Nat)   (K : Int → Option ρ) : Nat → List Int → Int → Int → Int → Option ρ
  | 0, _, _, _, _ => none
  | n + 1, v0, v1, v7, v8 => S93_0  v0 v1 v7 v8 (F93_0 fuel   K n) K
theorem f93_0 {ρ : Type} (fuel : Nat) (p0 : List Int) (p1 : Int) (Kk : Out → Option ρ) : ∀ (n : Nat) (v0 : List Int) (v1 : Int) (v7 : Int) (v8 : Int), D93_0 fuel p0 p1  n v0 v1 v7 v8 Kk = F93_0 fuel   (fun r1 => Kk ⟨[.x (.int .i64 r1)], []⟩) n v0 v1 v7 v8 := by
  intro n
  induction n with
  | zero => intros; rfl
  | succ n ih =>
    intro v0 v1 v7 v8
    rw [s93_0, F93_0]
    try simp only [ih]
def F93 {ρ : Type} (fuel : Nat) (p0 : List Int) (p1 : Int)  (K : Int → Option ρ) : Option ρ := S93_e p0 p1  (F93_0 fuel   K fuel)
theorem f93 {ρ : Type} (fuel : Nat) (p0 : List Int) (p1 : Int) (Kk : Out → Option ρ) : runFn TT (lk O93) kp93 fuel [.val, .val] false 19 [.tmp 4] b93 [.x (.sl (.ints .i64 p0)), .x (.int .i64 p1)] Kk = F93 fuel p0 p1 (fun r1 => Kk ⟨[.x (.int .i64 r1)], []⟩) := by
  rw [s93_e, F93]
  try simp only [f93_0]
noncomputable def sh93 (p0 : List Int) (p1 : Int) : Option (Int) := val fun n => F93 n p0 p1 (fun r1 => some r1)
noncomputable def G93 {ρ : Type} : List DU → (Out → Option ρ) → Option ρ
  | [.x (.sl (.ints .i64 p0)), .x (.int .i64 p1)], K => (sh93 p0 p1).bind fun r => K ⟨[.x (.int .i64 r)], []⟩
  | _, _ => none
noncomputable def o93 : Ora := ⟨[.val, .val], false, G93⟩
def un93 : Out → Option (Int)
  | ⟨[.x (.int .i64 r1)], []⟩ => some r1
  | _ => none
theorem un93_ok {o : Out} {r : Int} (h : un93 o = some r) : o = ⟨[.x (.int .i64 r)], []⟩ := by
  unfold un93 at h
  split at h
  · injection h with h
    subst h
    rfl
  · cases h
theorem n93 : ∀ k o, lk O93 k = some o → Nat1 o := fun k o h => (ook_list (P := Try.prog) (l := O93) (List.forall_mem_nil _)).nat k o h
theorem u93 (fuel : Nat) (p0 : List Int) (p1 : Int) : runFn TT (lk O93) kp93 fuel [.val, .val] false 19 [.tmp 4] b93 [.x (.sl (.ints .i64 p0)), .x (.int .i64 p1)] un93 = F93 fuel p0 p1 (fun r1 => some r1) := f93 fuel p0 p1 un93
theorem sh93_of {n : Nat} {p0 : List Int} {p1 : Int} {r : Int} (h : F93 n p0 p1 (fun r1 => some r1) = some r) : sh93 p0 p1 = some r := val_of (fun n m r hm h => by rw [← u93] at h ⊢; exact runFn_mono n93 hm h) h
theorem m93 : MeetsO Try.prog 93 o93 := by
  refine ⟨fun ρ ds K => ?_, ⟨_, meets_run (kp := kp93) tsOk (ook_list (l := O93) (List.forall_mem_nil _)) mixed Try.func93 (body := b93) (by kernel_rfl) (ntmps := 19) (by kernel_rfl) (rs := [.tmp 4]) (by kernel_rfl), fun ds out h => ?_⟩, ⟨_, Try.func93, by kernel_rfl, by kernel_rfl⟩⟩
  · show G93 ds K = (G93 ds some).bind K
    unfold G93
    split
    · cases sh93 _ _ <;> rfl
    · rfl
  · replace h : G93 ds some = some out := h
    unfold G93 at h
    split at h
    · obtain ⟨r, hr, h⟩ := Option.bind_eq_some_iff.1 h
      injection h with h
      subst h
      obtain ⟨n, hn⟩ := val_some hr
      replace hn := (u93 n _ _).trans hn
      rw [runFn_bind (K := un93) (K' := some) (f := un93) n93 (fun _ => rfl)] at hn
      obtain ⟨o, h1, h2⟩ := Option.bind_eq_some_iff.1 hn
      rw [un93_ok h2] at h1
      exact ⟨n, h1⟩
    · cases h
/-! f82 slices.Contains[[]int,int] -/
noncomputable def b82 : Code := Try.f82.body.getD .skip
def kp82 : Nat → Option Keep := lk []
def O82 : List (FuncId × Ora) := [(93, o93)]
def S82_e {ρ : Type} (p0 : List Int) (p1 : Int)   (K : Bool → Option ρ) : Option ρ :=
  ((sh93 p0 p1).bind fun r1 => K (decide (r1 ≥ (0 : Int))))
theorem s82_e {ρ : Type} (fuel : Nat) (p0 : List Int) (p1 : Int) (Kk : Out → Option ρ) : runFn TT (lk O82) kp82 fuel [.val, .val] false 9 [.tmp 4] b82 [.x (.sl (.ints .i64 p0)), .x (.int .i64 p1)] Kk = S82_e p0 p1   (fun r1 => Kk ⟨[.x (.bool r1)], []⟩) := by
  kernel_rfl
def F82 {ρ : Type} (fuel : Nat) (p0 : List Int) (p1 : Int)  (K : Bool → Option ρ) : Option ρ := S82_e p0 p1   K
theorem f82 {ρ : Type} (fuel : Nat) (p0 : List Int) (p1 : Int) (Kk : Out → Option ρ) : runFn TT (lk O82) kp82 fuel [.val, .val] false 9 [.tmp 4] b82 [.x (.sl (.ints .i64 p0)), .x (.int .i64 p1)] Kk = F82 fuel p0 p1 (fun r1 => Kk ⟨[.x (.bool r1)], []⟩) := by
  rw [s82_e, F82]
noncomputable def sh82 (p0 : List Int) (p1 : Int) : Option (Bool) := F82 0 p0 p1 (fun r1 => some r1)
noncomputable def G82 {ρ : Type} : List DU → (Out → Option ρ) → Option ρ
  | [.x (.sl (.ints .i64 p0)), .x (.int .i64 p1)], K => (sh82 p0 p1).bind fun r => K ⟨[.x (.bool r)], []⟩
  | _, _ => none
noncomputable def o82 : Ora := ⟨[.val, .val], false, G82⟩
def un82 : Out → Option (Bool)
  | ⟨[.x (.bool r1)], []⟩ => some r1
  | _ => none
theorem un82_ok {o : Out} {r : Bool} (h : un82 o = some r) : o = ⟨[.x (.bool r)], []⟩ := by
  unfold un82 at h
  split at h
  · injection h with h
    subst h
    rfl
  · cases h
theorem n82 : ∀ k o, lk O82 k = some o → Nat1 o := fun k o h => (ook_list (P := Try.prog) (l := O82) (List.forall_mem_cons.2 ⟨m93, (List.forall_mem_nil _)⟩)).nat k o h
theorem u82 (fuel : Nat) (p0 : List Int) (p1 : Int) : runFn TT (lk O82) kp82 fuel [.val, .val] false 9 [.tmp 4] b82 [.x (.sl (.ints .i64 p0)), .x (.int .i64 p1)] un82 = F82 fuel p0 p1 (fun r1 => some r1) := f82 fuel p0 p1 un82
theorem m82 : MeetsO Try.prog 82 o82 := by
  refine ⟨fun ρ ds K => ?_, ⟨_, meets_run (kp := kp82) tsOk (ook_list (l := O82) (List.forall_mem_cons.2 ⟨m93, (List.forall_mem_nil _)⟩)) mixed Try.func82 (body := b82) (by kernel_rfl) (ntmps := 9) (by kernel_rfl) (rs := [.tmp 4]) (by kernel_rfl), fun ds out h => ?_⟩, ⟨_, Try.func82, by kernel_rfl, by kernel_rfl⟩⟩
  · show G82 ds K = (G82 ds some).bind K
    unfold G82
    split
    · cases sh82 _ _ <;> rfl
    · rfl
  · replace h : G82 ds some = some out := h
    unfold G82 at h
    split at h
    · obtain ⟨r, hr, h⟩ := Option.bind_eq_some_iff.1 h
      injection h with h
      subst h
      have hn := (u82 0 _ _).trans hr
      rw [runFn_bind (K := un82) (K' := some) (f := un82) n82 (fun _ => rfl)] at hn
      obtain ⟨o, h1, h2⟩ := Option.bind_eq_some_iff.1 hn
      rw [un82_ok h2] at h1
      exact ⟨0, h1⟩
    · cases h
/-! f58 (loop.example.g01239.impl.Board).has -/
noncomputable def b58 : Code := Try.f58.body.getD .skip
def kp58 : Nat → Option Keep := lk []
def O58 : List (FuncId × Ora) := [(82, o82)]
def S58_e {ρ : Type} (p0_0 : Int) (p0_1 : Int) (p0_2 : List Int) (p1 : Int)   (K : Bool → Option ρ) : Option ρ :=
  (bif decide (p1 ≥ (0 : Int)) then (bif decide (p1 < (IntKind.i64.wrap (p0_0 * p0_1))) then ((sh82 p0_2 p1).bind fun r1 => K !r1) else K false) else K false)
theorem s58_e {ρ : Type} (fuel : Nat) (p0_0 : Int) (p0_1 : Int) (p0_2 : List Int) (p1 : Int) (Kk : Out → Option ρ) : runFn TT (lk O58) kp58 fuel [.val, .val] false 23 [.tmp 4] b58 [.agg [.int .i64 p0_0, .int .i64 p0_1, .sl (.ints .i64 p0_2)], .x (.int .i64 p1)] Kk = S58_e p0_0 p0_1 p0_2 p1   (fun r1 => Kk ⟨[.x (.bool r1)], []⟩) := by
  kernel_rfl
def F58 {ρ : Type} (fuel : Nat) (p0_0 : Int) (p0_1 : Int) (p0_2 : List Int) (p1 : Int)  (K : Bool → Option ρ) : Option ρ := S58_e p0_0 p0_1 p0_2 p1   K
theorem f58 {ρ : Type} (fuel : Nat) (p0_0 : Int) (p0_1 : Int) (p0_2 : List Int) (p1 : Int) (Kk : Out → Option ρ) : runFn TT (lk O58) kp58 fuel [.val, .val] false 23 [.tmp 4] b58 [.agg [.int .i64 p0_0, .int .i64 p0_1, .sl (.ints .i64 p0_2)], .x (.int .i64 p1)] Kk = F58 fuel p0_0 p0_1 p0_2 p1 (fun r1 => Kk ⟨[.x (.bool r1)], []⟩) := by
  rw [s58_e, F58]
noncomputable def sh58 (p0_0 : Int) (p0_1 : Int) (p0_2 : List Int) (p1 : Int) : Option (Bool) := F58 0 p0_0 p0_1 p0_2 p1 (fun r1 => some r1)
noncomputable def G58 {ρ : Type} : List DU → (Out → Option ρ) → Option ρ
  | [.agg [.int .i64 p0_0, .int .i64 p0_1, .sl (.ints .i64 p0_2)], .x (.int .i64 p1)], K => (sh58 p0_0 p0_1 p0_2 p1).bind fun r => K ⟨[.x (.bool r)], []⟩
  | _, _ => none
noncomputable def o58 : Ora := ⟨[.val, .val], false, G58⟩
def un58 : Out → Option (Bool)
  | ⟨[.x (.bool r1)], []⟩ => some r1
  | _ => none
theorem un58_ok {o : Out} {r : Bool} (h : un58 o = some r) : o = ⟨[.x (.bool r)], []⟩ := by
  unfold un58 at h
  split at h
  · injection h with h
    subst h
    rfl
  · cases h
theorem n58 : ∀ k o, lk O58 k = some o → Nat1 o := fun k o h => (ook_list (P := Try.prog) (l := O58) (List.forall_mem_cons.2 ⟨m82, (List.forall_mem_nil _)⟩)).nat k o h
theorem u58 (fuel : Nat) (p0_0 : Int) (p0_1 : Int) (p0_2 : List Int) (p1 : Int) : runFn TT (lk O58) kp58 fuel [.val, .val] false 23 [.tmp 4] b58 [.agg [.int .i64 p0_0, .int .i64 p0_1, .sl (.ints .i64 p0_2)], .x (.int .i64 p1)] un58 = F58 fuel p0_0 p0_1 p0_2 p1 (fun r1 => some r1) := f58 fuel p0_0 p0_1 p0_2 p1 un58
theorem m58 : MeetsO Try.prog 58 o58 := by
  refine ⟨fun ρ ds K => ?_, ⟨_, meets_run (kp := kp58) tsOk (ook_list (l := O58) (List.forall_mem_cons.2 ⟨m82, (List.forall_mem_nil _)⟩)) mixed Try.func58 (body := b58) (by kernel_rfl) (ntmps := 23) (by kernel_rfl) (rs := [.tmp 4]) (by kernel_rfl), fun ds out h => ?_⟩, ⟨_, Try.func58, by kernel_rfl, by kernel_rfl⟩⟩
  · show G58 ds K = (G58 ds some).bind K
    unfold G58
    split
    · cases sh58 _ _ _ _ <;> rfl
    · rfl
  · replace h : G58 ds some = some out := h
    unfold G58 at h
    split at h
    · obtain ⟨r, hr, h⟩ := Option.bind_eq_some_iff.1 h
      injection h with h
      subst h
      have hn := (u58 0 _ _ _ _).trans hr
      rw [runFn_bind (K := un58) (K' := some) (f := un58) n58 (fun _ => rfl)] at hn
      obtain ⟨o, h1, h2⟩ := Option.bind_eq_some_iff.1 hn
      rw [un58_ok h2] at h1
      exact ⟨0, h1⟩
    · cases h
/-! f21 loop.example.g01239.impl.IsPuzzle -/
noncomputable def b21 : Code := Try.f21.body.getD .skip
def kp21 : Nat → Option Keep := lk [(8, ⟨[1, 3, 4, 44, 45, 46], [4096], [], []⟩)]
def O21 : List (FuncId × Ora) := [(56, o56), (57, o57), (58, o58)]
noncomputable def D21_0 {ρ : Type} (fuel : Nat) (p0_0 : Int) (p0_1 : Int) (p0_2 : List Int) (p0_3 : Int) (p0_4 : Int) (p0_5 : List Int) (n : Nat) (v3 : Int) (v4 : List Bool) (v44 : List Int) (v45 : Int) (v46 : Int) (c4096_0 : Int) (c4096_1 : Int) (c4096_2 : List Int) (c4096_3 : Int) (c4096_4 : Int) (Kk : Out → Option ρ) : Option ρ :=
  iter (run TT (lk O21) kp21 fuel (cL (cB (cS2 (cS1 (cS2 (cS2 (cS2 (cS2 (cS2 (b21))))))))))) (nrmAt kp21 (firstRid (cL (cB (cS2 (cS1 (cS2 (cS2 (cS2 (cS2 (cS2 (b21)))))))))))) n (⟨[uu, .u (.x (.ptr 4096 0)), uu, .u (.x (.int .i64 v3)), .u (.x (.own 10272 (.bools v4))), uu, uu, uu, uu, uu, uu, uu, uu, uu, uu, uu, uu, uu, uu, uu, uu, uu, uu, uu, uu, uu, uu, uu, uu, uu, uu, uu, uu, uu, uu, uu, uu, uu, uu, uu, uu, uu, uu, uu, .u (.x (.ro (.ints .i64 v44))), .u (.x (.int .i64 v45)), .u (.x (.int .i64 v46)), uu, uu, uu, uu, uu, uu, uu, uu, uu, uu, uu, uu, uu, uu, uu, uu, uu, uu, uu, uu, uu, uu, uu, uu, uu, uu, uu, uu, uu, uu], [(4096, [.int .i64 c4096_0, .int .i64 c4096_1, .ro (.ints .i64 c4096_2), .int .i64 c4096_3, .int .i64 c4096_4, .ro (.ints .i64 v44)])], []⟩) (blkK 0 (seqK (run TT (lk O21) kp21 fuel (cS2 (cS2 (cS2 (cS2 (cS2 (cS2 (b21)))))))) (nrmAt kp21 (200000 + firstRid (cS2 (cS2 (cS2 (cS2 (cS2 (cS2 (b21))))))))) (topK TT [.val] false [.tmp 2] [.agg [.int .i64 p0_0, .int .i64 p0_1, .sl (.ints .i64 p0_2), .int .i64 p0_3, .int .i64 p0_4, .sl (.ints .i64 p0_5)]] Kk)))
def S21_e {ρ : Type} (p0_0 : Int) (p0_1 : Int) (p0_2 : List Int) (p0_3 : Int) (p0_4 : Int) (p0_5 : List Int)  (k0 : (Int → List Bool → List Int → Int → Int → Int → Int → List Int → Int → Int → Option ρ)) (K : Bool → Option ρ) : Option ρ :=
  ((sh56 p0_0 p0_1 p0_2).bind fun r1 => (bif !r1 then K false else ((sh57 p0_3 p0_4).bind fun r2 => (bif !r2 then K false else (bif !decide ((p0_5.length : Int) = (IntKind.i64.wrap (p0_0 * p0_1))) then K false else (bif decide ((IntKind.i64.wrap ((p0_5.length : Int) - (p0_2.length : Int))) > (16 : Int)) then K false else (if 0 ≤ (IntKind.i64.wrap ((IntKind.i64.wrap ((p0_5.length : Int) - (p0_2.length : Int))) + (1 : Int))) then (if (IntKind.i64.wrap ((IntKind.i64.wrap ((p0_5.length : Int) - (p0_2.length : Int))) + (1 : Int))) ≤ 1099511627776 then k0 (IntKind.i64.wrap ((p0_5.length : Int) - (p0_2.length : Int))) (List.replicate (IntKind.i64.wrap ((IntKind.i64.wrap ((p0_5.length : Int) - (p0_2.length : Int))) + (1 : Int))).toNat false) p0_5 (p0_5.length : Int) (0 : Int) p0_0 p0_1 p0_2 p0_3 p0_4 else none) else none)))))))
theorem s21_e {ρ : Type} (fuel : Nat) (p0_0 : Int) (p0_1 : Int) (p0_2 : List Int) (p0_3 : Int) (p0_4 : Int) (p0_5 : List Int) (Kk : Out → Option ρ) : runFn TT (lk O21) kp21 fuel [.val] false 77 [.tmp 2] b21 [.agg [.int .i64 p0_0, .int .i64 p0_1, .sl (.ints .i64 p0_2), .int .i64 p0_3, .int .i64 p0_4, .sl (.ints .i64 p0_5)]] Kk = S21_e p0_0 p0_1 p0_2 p0_3 p0_4 p0_5  (fun v3 v4 v44 v45 v46 c4096_0 c4096_1 c4096_2 c4096_3 c4096_4 => D21_0 fuel p0_0 p0_1 p0_2 p0_3 p0_4 p0_5 fuel v3 v4 v44 v45 v46 c4096_0 c4096_1 c4096_2 c4096_3 c4096_4 Kk) (fun r1 => Kk ⟨[.x (.bool r1)], []⟩) := by
  kernel_rfl
def S21_0 {ρ : Type}  (v3 : Int) (v4 : List Bool) (v44 : List Int) (v45 : Int) (v46 : Int) (c4096_0 : Int) (c4096_1 : Int) (c4096_2 : List Int) (c4096_3 : Int) (c4096_4 : Int) (b0 : (Int → List Bool → List Int → Int → Int → Int → Int → List Int → Int → Int → Option ρ)) (K : Bool → Option ρ) : Option ρ :=
  (bif decide (v46 < v45) then (if 0 ≤ v46 then (if v46 < (v44.length : Int) then (bif decide ((v44.getD v46.toNat 0) = (0 : Int)) then b0 v3 v4 v44 v45 (IntKind.i64.wrap (v46 + (1 : Int))) c4096_0 c4096_1 c4096_2 c4096_3 c4096_4 else (bif decide ((v44.getD v46.toNat 0) < (0 : Int)) then K false else (bif decide ((v44.getD v46.toNat 0) > v3) then K false else ((sh58 c4096_0 c4096_1 c4096_2 v46).bind fun r1 => (bif !r1 then K false else (if 0 ≤ (v44.getD v46.toNat 0) then (if (v44.getD v46.toNat 0) < (v4.length : Int) then (bif v4.getD ((v44.getD v46.toNat 0).toNat) false then K false else (if 0 ≤ (v44.getD v46.toNat 0) then (if (v44.getD v46.toNat 0) < (v4.length : Int) then b0 v3 (v4.set ((v44.getD v46.toNat 0).toNat) true) v44 v45 (IntKind.i64.wrap (v46 + (1 : Int))) c4096_0 c4096_1 c4096_2 c4096_3 c4096_4 else none) else none)) else none) else none)))))) else none) else none) else K true)
theorem s21_0 {ρ : Type} (fuel : Nat) (p0_0 : Int) (p0_1 : Int) (p0_2 : List Int) (p0_3 : Int) (p0_4 : Int) (p0_5 : List Int) (n : Nat) (v3 : Int) (v4 : List Bool) (v44 : List Int) (v45 : Int) (v46 : Int) (c4096_0 : Int) (c4096_1 : Int) (c4096_2 : List Int) (c4096_3 : Int) (c4096_4 : Int) (Kk : Out → Option ρ) : D21_0 fuel p0_0 p0_1 p0_2 p0_3 p0_4 p0_5  (n + 1) v3 v4 v44 v45 v46 c4096_0 c4096_1 c4096_2 c4096_3 c4096_4 Kk = S21_0  v3 v4 v44 v45 v46 c4096_0 c4096_1 c4096_2 c4096_3 c4096_4 (fun v3 v4 v44 v45 v46 c4096_0 c4096_1 c4096_2 c4096_3 c4096_4 => D21_0 fuel p0_0 p0_1 p0_2 p0_3 p0_4 p0_5 n v3 v4 v44 v45 v46 c4096_0 c4096_1 c4096_2 c4096_3 c4096_4 Kk) (fun r1 => Kk ⟨[.x (.bool r1)], []⟩) := by
  kernel_rfl
def F21_0 {ρ : Type} (fuel : Nat)   (K : Bool → Option ρ) : Nat → Int → List Bool → List Int → Int → Int → Int → Int → List Int → Int → Int → Option ρ
  | 0, _, _, _, _, _, _, _, _, _, _ => none
  | n + 1, v3, v4, v44, v45, v46, c4096_0, c4096_1, c4096_2, c4096_3, c4096_4 => S21_0  v3 v4 v44 v45 v46 c4096_0 c4096_1 c4096_2 c4096_3 c4096_4 (F21_0 fuel   K n) K
theorem f21_0 {ρ : Type} (fuel : Nat) (p0_0 : Int) (p0_1 : Int) (p0_2 : List Int) (p0_3 : Int) (p0_4 : Int) (p0_5 : List Int) (Kk : Out → Option ρ) : ∀ (n : Nat) (v3 : Int) (v4 : List Bool) (v44 : List Int) (v45 : Int) (v46 : Int) (c4096_0 : Int) (c4096_1 : Int) (c4096_2 : List Int) (c4096_3 : Int) (c4096_4 : Int), D21_0 fuel p0_0 p0_1 p0_2 p0_3 p0_4 p0_5  n v3 v4 v44 v45 v46 c4096_0 c4096_1 c4096_2 c4096_3 c4096_4 Kk = F21_0 fuel   (fun r1 => Kk ⟨[.x (.bool r1)], []⟩) n v3 v4 v44 v45 v46 c4096_0 c4096_1 c4096_2 c4096_3 c4096_4 := by
  intro n
  induction n with
  | zero => intros; rfl
  | succ n ih =>
    intro v3 v4 v44 v45 v46 c4096_0 c4096_1 c4096_2 c4096_3 c4096_4
    rw [s21_0, F21_0]
    try simp only [ih]
def F21 {ρ : Type} (fuel : Nat) (p0_0 : Int) (p0_1 : Int) (p0_2 : List Int) (p0_3 : Int) (p0_4 : Int) (p0_5 : List Int)  (K : Bool → Option ρ) : Option ρ := S21_e p0_0 p0_1 p0_2 p0_3 p0_4 p0_5  (F21_0 fuel   K fuel) K
theorem f21 {ρ : Type} (fuel : Nat) (p0_0 : Int) (p0_1 : Int) (p0_2 : List Int) (p0_3 : Int) (p0_4 : Int) (p0_5 : List Int) (Kk : Out → Option ρ) : runFn TT (lk O21) kp21 fuel [.val] false 77 [.tmp 2] b21 [.agg [.int .i64 p0_0, .int .i64 p0_1, .sl (.ints .i64 p0_2), .int .i64 p0_3, .int .i64 p0_4, .sl (.ints .i64 p0_5)]] Kk = F21 fuel p0_0 p0_1 p0_2 p0_3 p0_4 p0_5 (fun r1 => Kk ⟨[.x (.bool r1)], []⟩) := by
  rw [s21_e, F21]
  try simp only [f21_0]
noncomputable def sh21 (p0_0 : Int) (p0_1 : Int) (p0_2 : List Int) (p0_3 : Int) (p0_4 : Int) (p0_5 : List Int) : Option (Bool) := val fun n => F21 n p0_0 p0_1 p0_2 p0_3 p0_4 p0_5 (fun r1 => some r1)
noncomputable def G21 {ρ : Type} : List DU → (Out → Option ρ) → Option ρ
  | [.agg [.int .i64 p0_0, .int .i64 p0_1, .sl (.ints .i64 p0_2), .int .i64 p0_3, .int .i64 p0_4, .sl (.ints .i64 p0_5)]], K => (sh21 p0_0 p0_1 p0_2 p0_3 p0_4 p0_5).bind fun r => K ⟨[.x (.bool r)], []⟩
  | _, _ => none
noncomputable def o21 : Ora := ⟨[.val], false, G21⟩
def un21 : Out → Option (Bool)
  | ⟨[.x (.bool r1)], []⟩ => some r1
  | _ => none
theorem un21_ok {o : Out} {r : Bool} (h : un21 o = some r) : o = ⟨[.x (.bool r)], []⟩ := by
  unfold un21 at h
  split at h
  · injection h with h
    subst h
    rfl
  · cases h
theorem n21 : ∀ k o, lk O21 k = some o → Nat1 o := fun k o h => (ook_list (P := Try.prog) (l := O21) (List.forall_mem_cons.2 ⟨m56, (List.forall_mem_cons.2 ⟨m57, (List.forall_mem_cons.2 ⟨m58, (List.forall_mem_nil _)⟩)⟩)⟩)).nat k o h
theorem u21 (fuel : Nat) (p0_0 : Int) (p0_1 : Int) (p0_2 : List Int) (p0_3 : Int) (p0_4 : Int) (p0_5 : List Int) : runFn TT (lk O21) kp21 fuel [.val] false 77 [.tmp 2] b21 [.agg [.int .i64 p0_0, .int .i64 p0_1, .sl (.ints .i64 p0_2), .int .i64 p0_3, .int .i64 p0_4, .sl (.ints .i64 p0_5)]] un21 = F21 fuel p0_0 p0_1 p0_2 p0_3 p0_4 p0_5 (fun r1 => some r1) := f21 fuel p0_0 p0_1 p0_2 p0_3 p0_4 p0_5 un21
theorem sh21_of {n : Nat} {p0_0 : Int} {p0_1 : Int} {p0_2 : List Int} {p0_3 : Int} {p0_4 : Int} {p0_5 : List Int} {r : Bool} (h : F21 n p0_0 p0_1 p0_2 p0_3 p0_4 p0_5 (fun r1 => some r1) = some r) : sh21 p0_0 p0_1 p0_2 p0_3 p0_4 p0_5 = some r := val_of (fun n m r hm h => by rw [← u21] at h ⊢; exact runFn_mono n21 hm h) h
theorem m21 : MeetsO Try.prog 21 o21 := by
  refine ⟨fun ρ ds K => ?_, ⟨_, meets_run (kp := kp21) tsOk (ook_list (l := O21) (List.forall_mem_cons.2 ⟨m56, (List.forall_mem_cons.2 ⟨m57, (List.forall_mem_cons.2 ⟨m58, (List.forall_mem_nil _)⟩)⟩)⟩)) mixed Try.func21 (body := b21) (by kernel_rfl) (ntmps := 77) (by kernel_rfl) (rs := [.tmp 2]) (by kernel_rfl), fun ds out h => ?_⟩, ⟨_, Try.func21, by kernel_rfl, by kernel_rfl⟩⟩
  · show G21 ds K = (G21 ds some).bind K
    unfold G21
    split
    · cases sh21 _ _ _ _ _ _ <;> rfl
    · rfl
  · replace h : G21 ds some = some out := h
    unfold G21 at h
    split at h
    · obtain ⟨r, hr, h⟩ := Option.bind_eq_some_iff.1 h
      injection h with h
      subst h
      obtain ⟨n, hn⟩ := val_some hr
      replace hn := (u21 n _ _ _ _ _ _).trans hn
      rw [runFn_bind (K := un21) (K' := some) (f := un21) n21 (fun _ => rfl)] at hn
      obtain ⟨o, h1, h2⟩ := Option.bind_eq_some_iff.1 hn
      rw [un21_ok h2] at h1
      exact ⟨n, h1⟩
    · cases h
/-! f42 loop.example.g01239.laws.eqIntS -/
noncomputable def b42 : Code := Try.f42.body.getD .skip
def kp42 : Nat → Option Keep := lk [(4, ⟨[0, 1, 5], [], [], []⟩)]
def O42 : List (FuncId × Ora) := []
noncomputable def D42_0 {ρ : Type} (fuel : Nat) (p0 : List Int) (p1 : List Int) (n : Nat) (v0 : List Int) (v1 : List Int) (v5 : Int) (Kk : Out → Option ρ) : Option ρ :=
  iter (run TT (lk O42) kp42 fuel (cL (cB (cS2 (cS1 (cS2 (cS2 (b42)))))))) (nrmAt kp42 (firstRid (cL (cB (cS2 (cS1 (cS2 (cS2 (b42))))))))) n (⟨[.u (.x (.ro (.ints .i64 v0))), .u (.x (.ro (.ints .i64 v1))), uu, uu, uu, .u (.x (.int .i64 v5)), uu, uu, uu, uu, uu, uu, uu, uu, uu, uu, uu, uu, uu, uu, uu, uu, uu, uu, uu, uu], [], []⟩) (blkK 0 (seqK (run TT (lk O42) kp42 fuel (cS2 (cS2 (cS2 (b42))))) (nrmAt kp42 (200000 + firstRid (cS2 (cS2 (cS2 (b42)))))) (topK TT [.val, .val] false [.tmp 4] [.x (.sl (.ints .i64 p0)), .x (.sl (.ints .i64 p1))] Kk)))
def S42_e {ρ : Type} (p0 : List Int) (p1 : List Int)  (k0 : (List Int → List Int → Int → Option ρ)) (K : Bool → Option ρ) : Option ρ :=
  (bif !decide ((p0.length : Int) = (p1.length : Int)) then K false else k0 p0 p1 (0 : Int))
theorem s42_e {ρ : Type} (fuel : Nat) (p0 : List Int) (p1 : List Int) (Kk : Out → Option ρ) : runFn TT (lk O42) kp42 fuel [.val, .val] false 26 [.tmp 4] b42 [.x (.sl (.ints .i64 p0)), .x (.sl (.ints .i64 p1))] Kk = S42_e p0 p1  (fun v0 v1 v5 => D42_0 fuel p0 p1 fuel v0 v1 v5 Kk) (fun r1 => Kk ⟨[.x (.bool r1)], []⟩) := by
  kernel_rfl
def S42_0 {ρ : Type}  (v0 : List Int) (v1 : List Int) (v5 : Int) (b0 : (List Int → List Int → Int → Option ρ)) (K : Bool → Option ρ) : Option ρ :=
  (bif decide (v5 < (v0.length : Int)) then (if 0 ≤ v5 then (if v5 < (v0.length : Int) then (if 0 ≤ v5 then (if v5 < (v1.length : Int) then (bif !decide ((v0.getD v5.toNat 0) = (v1.getD v5.toNat 0)) then K false else b0 v0 v1 (IntKind.i64.wrap (v5 + (1 : Int)))) else none) else none) else none) else none) else K true)
theorem s42_0 {ρ : Type} (fuel : Nat) (p0 : List Int) (p1 : List Int) (n : Nat) (v0 : List Int) (v1 : List Int) (v5 : Int) (Kk : Out → Option ρ) : D42_0 fuel p0 p1  (n + 1) v0 v1 v5 Kk = S42_0  v0 v1 v5 (fun v0 v1 v5 => D42_0 fuel p0 p1 n v0 v1 v5 Kk) (fun r1 => Kk ⟨[.x (.bool r1)], []⟩) := by
  kernel_rfl
def F42_0 {ρ : Type} (fuel : Nat)   (K : Bool → Option ρ) : Nat → List Int → List Int → Int → Option ρ
  | 0, _, _, _ => none
  | n + 1, v0, v1, v5 => S42_0  v0 v1 v5 (F42_0 fuel   K n) K
theorem f42_0 {ρ : Type} (fuel : Nat) (p0 : List Int) (p1 : List Int) (Kk : Out → Option ρ) : ∀ (n : Nat) (v0 : List Int) (v1 : List Int) (v5 : Int), D42_0 fuel p0 p1  n v0 v1 v5 Kk = F42_0 fuel   (fun r1 => Kk ⟨[.x (.bool r1)], []⟩) n v0 v1 v5 := by
  intro n
  induction n with
  | zero => intros; rfl
  | succ n ih =>
    intro v0 v1 v5
    rw [s42_0, F42_0]
    try simp only [ih]
def F42 {ρ : Type} (fuel : Nat) (p0 : List Int) (p1 : List Int)  (K : Bool → Option ρ) : Option ρ := S42_e p0 p1  (F42_0 fuel   K fuel) K
theorem f42 {ρ : Type} (fuel : Nat) (p0 : List Int) (p1 : List Int) (Kk : Out → Option ρ) : runFn TT (lk O42) kp42 fuel [.val, .val] false 26 [.tmp 4] b42 [.x (.sl (.ints .i64 p0)), .x (.sl (.ints .i64 p1))] Kk = F42 fuel p0 p1 (fun r1 => Kk ⟨[.x (.bool r1)], []⟩) := by
  rw [s42_e, F42]
  try simp only [f42_0]
noncomputable def sh42 (p0 : List Int) (p1 : List Int) : Option (Bool) := val fun n => F42 n p0 p1 (fun r1 => some r1)
noncomputable def G42 {ρ : Type} : List DU → (Out → Option ρ) → Option ρ
  | [.x (.sl (.ints .i64 p0)), .x (.sl (.ints .i64 p1))], K => (sh42 p0 p1).bind fun r => K ⟨[.x (.bool r)], []⟩
  | _, _ => none
noncomputable def o42 : Ora := ⟨[.val, .val], false, G42⟩
def un42 : Out → Option (Bool)
  | ⟨[.x (.bool r1)], []⟩ => some r1
  | _ => none
theorem un42_ok {o : Out} {r : Bool} (h : un42 o = some r) : o = ⟨[.x (.bool r)], []⟩ := by
  unfold un42 at h
  split at h
  · injection h with h
    subst h
    rfl
  · cases h
theorem n42 : ∀ k o, lk O42 k = some o → Nat1 o := fun k o h => (ook_list (P := Try.prog) (l := O42) (List.forall_mem_nil _)).nat k o h
theorem u42 (fuel : Nat) (p0 : List Int) (p1 : List Int) : runFn TT (lk O42) kp42 fuel [.val, .val] false 26 [.tmp 4] b42 [.x (.sl (.ints .i64 p0)), .x (.sl (.ints .i64 p1))] un42 = F42 fuel p0 p1 (fun r1 => some r1) := f42 fuel p0 p1 un42
theorem sh42_of {n : Nat} {p0 : List Int} {p1 : List Int} {r : Bool} (h : F42 n p0 p1 (fun r1 => some r1) = some r) : sh42 p0 p1 = some r := val_of (fun n m r hm h => by rw [← u42] at h ⊢; exact runFn_mono n42 hm h) h
theorem m42 : MeetsO Try.prog 42 o42 := by
  refine ⟨fun ρ ds K => ?_, ⟨_, meets_run (kp := kp42) tsOk (ook_list (l := O42) (List.forall_mem_nil _)) mixed Try.func42 (body := b42) (by kernel_rfl) (ntmps := 26) (by kernel_rfl) (rs := [.tmp 4]) (by kernel_rfl), fun ds out h => ?_⟩, ⟨_, Try.func42, by kernel_rfl, by kernel_rfl⟩⟩
  · show G42 ds K = (G42 ds some).bind K
    unfold G42
    split
    · cases sh42 _ _ <;> rfl
    · rfl
  · replace h : G42 ds some = some out := h
    unfold G42 at h
    split at h
    · obtain ⟨r, hr, h⟩ := Option.bind_eq_some_iff.1 h
      injection h with h
      subst h
      obtain ⟨n, hn⟩ := val_some hr
      replace hn := (u42 n _ _).trans hn
      rw [runFn_bind (K := un42) (K' := some) (f := un42) n42 (fun _ => rfl)] at hn
      obtain ⟨o, h1, h2⟩ := Option.bind_eq_some_iff.1 hn
      rw [un42_ok h2] at h1
      exact ⟨n, h1⟩
    · cases h
/-! f48 loop.example.g01239.laws.eqBoard -/
noncomputable def b48 : Code := Try.f48.body.getD .skip
def kp48 : Nat → Option Keep := lk []
def O48 : List (FuncId × Ora) := [(42, o42)]
def S48_e {ρ : Type} (p0_0 : Int) (p0_1 : Int) (p0_2 : List Int) (p1_0 : Int) (p1_1 : Int) (p1_2 : List Int)   (K : Bool → Option ρ) : Option ρ :=
  (bif !decide (p0_0 = p1_0) then K false else (bif !decide (p0_1 = p1_1) then K false else ((sh42 p0_2 p1_2).bind fun r1 => (bif !r1 then K false else K true))))
theorem s48_e {ρ : Type} (fuel : Nat) (p0_0 : Int) (p0_1 : Int) (p0_2 : List Int) (p1_0 : Int) (p1_1 : Int) (p1_2 : List Int) (Kk : Out → Option ρ) : runFn TT (lk O48) kp48 fuel [.val, .val] false 21 [.tmp 4] b48 [.agg [.int .i64 p0_0, .int .i64 p0_1, .sl (.ints .i64 p0_2)], .agg [.int .i64 p1_0, .int .i64 p1_1, .sl (.ints .i64 p1_2)]] Kk = S48_e p0_0 p0_1 p0_2 p1_0 p1_1 p1_2   (fun r1 => Kk ⟨[.x (.bool r1)], []⟩) := by
  kernel_rfl
def F48 {ρ : Type} (fuel : Nat) (p0_0 : Int) (p0_1 : Int) (p0_2 : List Int) (p1_0 : Int) (p1_1 : Int) (p1_2 : List Int)  (K : Bool → Option ρ) : Option ρ := S48_e p0_0 p0_1 p0_2 p1_0 p1_1 p1_2   K
theorem f48 {ρ : Type} (fuel : Nat) (p0_0 : Int) (p0_1 : Int) (p0_2 : List Int) (p1_0 : Int) (p1_1 : Int) (p1_2 : List Int) (Kk : Out → Option ρ) : runFn TT (lk O48) kp48 fuel [.val, .val] false 21 [.tmp 4] b48 [.agg [.int .i64 p0_0, .int .i64 p0_1, .sl (.ints .i64 p0_2)], .agg [.int .i64 p1_0, .int .i64 p1_1, .sl (.ints .i64 p1_2)]] Kk = F48 fuel p0_0 p0_1 p0_2 p1_0 p1_1 p1_2 (fun r1 => Kk ⟨[.x (.bool r1)], []⟩) := by
  rw [s48_e, F48]
noncomputable def sh48 (p0_0 : Int) (p0_1 : Int) (p0_2 : List Int) (p1_0 : Int) (p1_1 : Int) (p1_2 : List Int) : Option (Bool) := F48 0 p0_0 p0_1 p0_2 p1_0 p1_1 p1_2 (fun r1 => some r1)
noncomputable def G48 {ρ : Type} : List DU → (Out → Option ρ) → Option ρ
  | [.agg [.int .i64 p0_0, .int .i64 p0_1, .sl (.ints .i64 p0_2)], .agg [.int .i64 p1_0, .int .i64 p1_1, .sl (.ints .i64 p1_2)]], K => (sh48 p0_0 p0_1 p0_2 p1_0 p1_1 p1_2).bind fun r => K ⟨[.x (.bool r)], []⟩
  | _, _ => none
noncomputable def o48 : Ora := ⟨[.val, .val], false, G48⟩
def un48 : Out → Option (Bool)
  | ⟨[.x (.bool r1)], []⟩ => some r1
  | _ => none
theorem un48_ok {o : Out} {r : Bool} (h : un48 o = some r) : o = ⟨[.x (.bool r)], []⟩ := by
  unfold un48 at h
  split at h
  · injection h with h
    subst h
    rfl
  · cases h
theorem n48 : ∀ k o, lk O48 k = some o → Nat1 o := fun k o h => (ook_list (P := Try.prog) (l := O48) (List.forall_mem_cons.2 ⟨m42, (List.forall_mem_nil _)⟩)).nat k o h
theorem u48 (fuel : Nat) (p0_0 : Int) (p0_1 : Int) (p0_2 : List Int) (p1_0 : Int) (p1_1 : Int) (p1_2 : List Int) : runFn TT (lk O48) kp48 fuel [.val, .val] false 21 [.tmp 4] b48 [.agg [.int .i64 p0_0, .int .i64 p0_1, .sl (.ints .i64 p0_2)], .agg [.int .i64 p1_0, .int .i64 p1_1, .sl (.ints .i64 p1_2)]] un48 = F48 fuel p0_0 p0_1 p0_2 p1_0 p1_1 p1_2 (fun r1 => some r1) := f48 fuel p0_0 p0_1 p0_2 p1_0 p1_1 p1_2 un48
theorem m48 : MeetsO Try.prog 48 o48 := by
  refine ⟨fun ρ ds K => ?_, ⟨_, meets_run (kp := kp48) tsOk (ook_list (l := O48) (List.forall_mem_cons.2 ⟨m42, (List.forall_mem_nil _)⟩)) mixed Try.func48 (body := b48) (by kernel_rfl) (ntmps := 21) (by kernel_rfl) (rs := [.tmp 4]) (by kernel_rfl), fun ds out h => ?_⟩, ⟨_, Try.func48, by kernel_rfl, by kernel_rfl⟩⟩
  · show G48 ds K = (G48 ds some).bind K
    unfold G48
    split
    · cases sh48 _ _ _ _ _ _ <;> rfl
    · rfl
  · replace h : G48 ds some = some out := h
    unfold G48 at h
    split at h
    · obtain ⟨r, hr, h⟩ := Option.bind_eq_some_iff.1 h
      injection h with h
      subst h
      have hn := (u48 0 _ _ _ _ _ _).trans hr
      rw [runFn_bind (K := un48) (K' := some) (f := un48) n48 (fun _ => rfl)] at hn
      obtain ⟨o, h1, h2⟩ := Option.bind_eq_some_iff.1 hn
      rw [un48_ok h2] at h1
      exact ⟨0, h1⟩
    · cases h
/-! f51 loop.example.g01239.laws.eqLeaper -/
noncomputable def b51 : Code := Try.f51.body.getD .skip
def kp51 : Nat → Option Keep := lk []
def O51 : List (FuncId × Ora) := []
def S51_e {ρ : Type} (p0_0 : Int) (p0_1 : Int) (p1_0 : Int) (p1_1 : Int)   (K : Bool → Option ρ) : Option ρ :=
  (bif !decide (p0_0 = p1_0) then K false else (bif !decide (p0_1 = p1_1) then K false else K true))
theorem s51_e {ρ : Type} (fuel : Nat) (p0_0 : Int) (p0_1 : Int) (p1_0 : Int) (p1_1 : Int) (Kk : Out → Option ρ) : runFn TT (lk O51) kp51 fuel [.val, .val] false 15 [.tmp 4] b51 [.agg [.int .i64 p0_0, .int .i64 p0_1], .agg [.int .i64 p1_0, .int .i64 p1_1]] Kk = S51_e p0_0 p0_1 p1_0 p1_1   (fun r1 => Kk ⟨[.x (.bool r1)], []⟩) := by
  kernel_rfl
def F51 {ρ : Type} (fuel : Nat) (p0_0 : Int) (p0_1 : Int) (p1_0 : Int) (p1_1 : Int)  (K : Bool → Option ρ) : Option ρ := S51_e p0_0 p0_1 p1_0 p1_1   K
theorem f51 {ρ : Type} (fuel : Nat) (p0_0 : Int) (p0_1 : Int) (p1_0 : Int) (p1_1 : Int) (Kk : Out → Option ρ) : runFn TT (lk O51) kp51 fuel [.val, .val] false 15 [.tmp 4] b51 [.agg [.int .i64 p0_0, .int .i64 p0_1], .agg [.int .i64 p1_0, .int .i64 p1_1]] Kk = F51 fuel p0_0 p0_1 p1_0 p1_1 (fun r1 => Kk ⟨[.x (.bool r1)], []⟩) := by
  rw [s51_e, F51]
noncomputable def sh51 (p0_0 : Int) (p0_1 : Int) (p1_0 : Int) (p1_1 : Int) : Option (Bool) := F51 0 p0_0 p0_1 p1_0 p1_1 (fun r1 => some r1)
noncomputable def G51 {ρ : Type} : List DU → (Out → Option ρ) → Option ρ
  | [.agg [.int .i64 p0_0, .int .i64 p0_1], .agg [.int .i64 p1_0, .int .i64 p1_1]], K => (sh51 p0_0 p0_1 p1_0 p1_1).bind fun r => K ⟨[.x (.bool r)], []⟩
  | _, _ => none
noncomputable def o51 : Ora := ⟨[.val, .val], false, G51⟩
def un51 : Out → Option (Bool)
  | ⟨[.x (.bool r1)], []⟩ => some r1
  | _ => none
theorem un51_ok {o : Out} {r : Bool} (h : un51 o = some r) : o = ⟨[.x (.bool r)], []⟩ := by
  unfold un51 at h
  split at h
  · injection h with h
    subst h
    rfl
  · cases h
theorem n51 : ∀ k o, lk O51 k = some o → Nat1 o := fun k o h => (ook_list (P := Try.prog) (l := O51) (List.forall_mem_nil _)).nat k o h
theorem u51 (fuel : Nat) (p0_0 : Int) (p0_1 : Int) (p1_0 : Int) (p1_1 : Int) : runFn TT (lk O51) kp51 fuel [.val, .val] false 15 [.tmp 4] b51 [.agg [.int .i64 p0_0, .int .i64 p0_1], .agg [.int .i64 p1_0, .int .i64 p1_1]] un51 = F51 fuel p0_0 p0_1 p1_0 p1_1 (fun r1 => some r1) := f51 fuel p0_0 p0_1 p1_0 p1_1 un51
theorem m51 : MeetsO Try.prog 51 o51 := by
  refine ⟨fun ρ ds K => ?_, ⟨_, meets_run (kp := kp51) tsOk (ook_list (l := O51) (List.forall_mem_nil _)) mixed Try.func51 (body := b51) (by kernel_rfl) (ntmps := 15) (by kernel_rfl) (rs := [.tmp 4]) (by kernel_rfl), fun ds out h => ?_⟩, ⟨_, Try.func51, by kernel_rfl, by kernel_rfl⟩⟩
  · show G51 ds K = (G51 ds some).bind K
    unfold G51
    split
    · cases sh51 _ _ _ _ <;> rfl
    · rfl
  · replace h : G51 ds some = some out := h
    unfold G51 at h
    split at h
    · obtain ⟨r, hr, h⟩ := Option.bind_eq_some_iff.1 h
      injection h with h
      subst h
      have hn := (u51 0 _ _ _ _).trans hr
      rw [runFn_bind (K := un51) (K' := some) (f := un51) n51 (fun _ => rfl)] at hn
      obtain ⟨o, h1, h2⟩ := Option.bind_eq_some_iff.1 hn
      rw [un51_ok h2] at h1
      exact ⟨0, h1⟩
    · cases h
/-! f22 loop.example.g01239.laws.eqPuzzle -/
noncomputable def b22 : Code := Try.f22.body.getD .skip
def kp22 : Nat → Option Keep := lk []
def O22 : List (FuncId × Ora) := [(42, o42), (48, o48), (51, o51)]
def S22_e {ρ : Type} (p0_0 : Int) (p0_1 : Int) (p0_2 : List Int) (p0_3 : Int) (p0_4 : Int) (p0_5 : List Int) (p1_0 : Int) (p1_1 : Int) (p1_2 : List Int) (p1_3 : Int) (p1_4 : Int) (p1_5 : List Int)   (K : Bool → Option ρ) : Option ρ :=
  ((sh48 p0_0 p0_1 p0_2 p1_0 p1_1 p1_2).bind fun r1 => (bif !r1 then K false else ((sh51 p0_3 p0_4 p1_3 p1_4).bind fun r2 => (bif !r2 then K false else ((sh42 p0_5 p1_5).bind fun r3 => (bif !r3 then K false else K true))))))
theorem s22_e {ρ : Type} (fuel : Nat) (p0_0 : Int) (p0_1 : Int) (p0_2 : List Int) (p0_3 : Int) (p0_4 : Int) (p0_5 : List Int) (p1_0 : Int) (p1_1 : Int) (p1_2 : List Int) (p1_3 : Int) (p1_4 : Int) (p1_5 : List Int) (Kk : Out → Option ρ) : runFn TT (lk O22) kp22 fuel [.val, .val] false 23 [.tmp 4] b22 [.agg [.int .i64 p0_0, .int .i64 p0_1, .sl (.ints .i64 p0_2), .int .i64 p0_3, .int .i64 p0_4, .sl (.ints .i64 p0_5)], .agg [.int .i64 p1_0, .int .i64 p1_1, .sl (.ints .i64 p1_2), .int .i64 p1_3, .int .i64 p1_4, .sl (.ints .i64 p1_5)]] Kk = S22_e p0_0 p0_1 p0_2 p0_3 p0_4 p0_5 p1_0 p1_1 p1_2 p1_3 p1_4 p1_5   (fun r1 => Kk ⟨[.x (.bool r1)], []⟩) := by
  kernel_rfl
def F22 {ρ : Type} (fuel : Nat) (p0_0 : Int) (p0_1 : Int) (p0_2 : List Int) (p0_3 : Int) (p0_4 : Int) (p0_5 : List Int) (p1_0 : Int) (p1_1 : Int) (p1_2 : List Int) (p1_3 : Int) (p1_4 : Int) (p1_5 : List Int)  (K : Bool → Option ρ) : Option ρ := S22_e p0_0 p0_1 p0_2 p0_3 p0_4 p0_5 p1_0 p1_1 p1_2 p1_3 p1_4 p1_5   K
theorem f22 {ρ : Type} (fuel : Nat) (p0_0 : Int) (p0_1 : Int) (p0_2 : List Int) (p0_3 : Int) (p0_4 : Int) (p0_5 : List Int) (p1_0 : Int) (p1_1 : Int) (p1_2 : List Int) (p1_3 : Int) (p1_4 : Int) (p1_5 : List Int) (Kk : Out → Option ρ) : runFn TT (lk O22) kp22 fuel [.val, .val] false 23 [.tmp 4] b22 [.agg [.int .i64 p0_0, .int .i64 p0_1, .sl (.ints .i64 p0_2), .int .i64 p0_3, .int .i64 p0_4, .sl (.ints .i64 p0_5)], .agg [.int .i64 p1_0, .int .i64 p1_1, .sl (.ints .i64 p1_2), .int .i64 p1_3, .int .i64 p1_4, .sl (.ints .i64 p1_5)]] Kk = F22 fuel p0_0 p0_1 p0_2 p0_3 p0_4 p0_5 p1_0 p1_1 p1_2 p1_3 p1_4 p1_5 (fun r1 => Kk ⟨[.x (.bool r1)], []⟩) := by
  rw [s22_e, F22]
noncomputable def sh22 (p0_0 : Int) (p0_1 : Int) (p0_2 : List Int) (p0_3 : Int) (p0_4 : Int) (p0_5 : List Int) (p1_0 : Int) (p1_1 : Int) (p1_2 : List Int) (p1_3 : Int) (p1_4 : Int) (p1_5 : List Int) : Option (Bool) := F22 0 p0_0 p0_1 p0_2 p0_3 p0_4 p0_5 p1_0 p1_1 p1_2 p1_3 p1_4 p1_5 (fun r1 => some r1)
noncomputable def G22 {ρ : Type} : List DU → (Out → Option ρ) → Option ρ
  | [.agg [.int .i64 p0_0, .int .i64 p0_1, .sl (.ints .i64 p0_2), .int .i64 p0_3, .int .i64 p0_4, .sl (.ints .i64 p0_5)], .agg [.int .i64 p1_0, .int .i64 p1_1, .sl (.ints .i64 p1_2), .int .i64 p1_3, .int .i64 p1_4, .sl (.ints .i64 p1_5)]], K => (sh22 p0_0 p0_1 p0_2 p0_3 p0_4 p0_5 p1_0 p1_1 p1_2 p1_3 p1_4 p1_5).bind fun r => K ⟨[.x (.bool r)], []⟩
  | _, _ => none
noncomputable def o22 : Ora := ⟨[.val, .val], false, G22⟩
def un22 : Out → Option (Bool)
  | ⟨[.x (.bool r1)], []⟩ => some r1
  | _ => none
theorem un22_ok {o : Out} {r : Bool} (h : un22 o = some r) : o = ⟨[.x (.bool r)], []⟩ := by
  unfold un22 at h
  split at h
  · injection h with h
    subst h
    rfl
  · cases h
theorem n22 : ∀ k o, lk O22 k = some o → Nat1 o := fun k o h => (ook_list (P := Try.prog) (l := O22) (List.forall_mem_cons.2 ⟨m42, (List.forall_mem_cons.2 ⟨m48, (List.forall_mem_cons.2 ⟨m51, (List.forall_mem_nil _)⟩)⟩)⟩)).nat k o h
theorem u22 (fuel : Nat) (p0_0 : Int) (p0_1 : Int) (p0_2 : List Int) (p0_3 : Int) (p0_4 : Int) (p0_5 : List Int) (p1_0 : Int) (p1_1 : Int) (p1_2 : List Int) (p1_3 : Int) (p1_4 : Int) (p1_5 : List Int) : runFn TT (lk O22) kp22 fuel [.val, .val] false 23 [.tmp 4] b22 [.agg [.int .i64 p0_0, .int .i64 p0_1, .sl (.ints .i64 p0_2), .int .i64 p0_3, .int .i64 p0_4, .sl (.ints .i64 p0_5)], .agg [.int .i64 p1_0, .int .i64 p1_1, .sl (.ints .i64 p1_2), .int .i64 p1_3, .int .i64 p1_4, .sl (.ints .i64 p1_5)]] un22 = F22 fuel p0_0 p0_1 p0_2 p0_3 p0_4 p0_5 p1_0 p1_1 p1_2 p1_3 p1_4 p1_5 (fun r1 => some r1) := f22 fuel p0_0 p0_1 p0_2 p0_3 p0_4 p0_5 p1_0 p1_1 p1_2 p1_3 p1_4 p1_5 un22
theorem m22 : MeetsO Try.prog 22 o22 := by
  refine ⟨fun ρ ds K => ?_, ⟨_, meets_run (kp := kp22) tsOk (ook_list (l := O22) (List.forall_mem_cons.2 ⟨m42, (List.forall_mem_cons.2 ⟨m48, (List.forall_mem_cons.2 ⟨m51, (List.forall_mem_nil _)⟩)⟩)⟩)) mixed Try.func22 (body := b22) (by kernel_rfl) (ntmps := 23) (by kernel_rfl) (rs := [.tmp 4]) (by kernel_rfl), fun ds out h => ?_⟩, ⟨_, Try.func22, by kernel_rfl, by kernel_rfl⟩⟩
  · show G22 ds K = (G22 ds some).bind K
    unfold G22
    split
    · cases sh22 _ _ _ _ _ _ _ _ _ _ _ _ <;> rfl
    · rfl
  · replace h : G22 ds some = some out := h
    unfold G22 at h
    split at h
    · obtain ⟨r, hr, h⟩ := Option.bind_eq_some_iff.1 h
      injection h with h
      subst h
      have hn := (u22 0 _ _ _ _ _ _ _ _ _ _ _ _).trans hr
      rw [runFn_bind (K := un22) (K' := some) (f := un22) n22 (fun _ => rfl)] at hn
      obtain ⟨o, h1, h2⟩ := Option.bind_eq_some_iff.1 hn
      rw [un22_ok h2] at h1
      exact ⟨0, h1⟩
    · cases h
/-! f4 loop.example.g01239.laws.FnExactIsPuzzle -/
noncomputable def b4 : Code := Try.f4.body.getD .skip
def kp4 : Nat → Option Keep := lk []
def O4 : List (FuncId × Ora) := [(18, o18), (19, o19), (20, o20), (21, o21), (22, o22)]
def S4_e {ρ : Type} (p0_0 : Int) (p0_1 : Int) (p0_2 : List Int) (p0_3 : Int) (p0_4 : Int) (p0_5 : List Int)   (K : Bool → Option ρ) : Option ρ :=
  ((sh18 p0_0 p0_1 p0_2 p0_3 p0_4 p0_5 (1048576 : Int)).bind fun r1 => (bif decide (r1 < (0 : Int)) then K true else ((sh20 p0_0 p0_1 p0_2 p0_3 p0_4 p0_5).bind fun r2 => ((sh19 r2.1 r2.2.1 r2.2.2.1 r2.2.2.2.1 r2.2.2.2.2.1 r2.2.2.2.2.2).bind fun r3 => ((sh20 p0_0 p0_1 p0_2 p0_3 p0_4 p0_5).bind fun r4 => ((sh21 r4.1 r4.2.1 r4.2.2.1 r4.2.2.2.1 r4.2.2.2.2.1 r4.2.2.2.2.2).bind fun r5 => (bif !(r5 == r3) then K false else ((sh20 p0_0 p0_1 p0_2 p0_3 p0_4 p0_5).bind fun r6 => ((sh22 r4.1 r4.2.1 r4.2.2.1 r4.2.2.2.1 r4.2.2.2.2.1 r4.2.2.2.2.2 r6.1 r6.2.1 r6.2.2.1 r6.2.2.2.1 r6.2.2.2.2.1 r6.2.2.2.2.2).bind fun r7 => (bif !r7 then K false else K true))))))))))
theorem s4_e {ρ : Type} (fuel : Nat) (p0_0 : Int) (p0_1 : Int) (p0_2 : List Int) (p0_3 : Int) (p0_4 : Int) (p0_5 : List Int) (Kk : Out → Option ρ) : runFn TT (lk O4) kp4 fuel [.val] false 27 [.tmp 2] b4 [.agg [.int .i64 p0_0, .int .i64 p0_1, .sl (.ints .i64 p0_2), .int .i64 p0_3, .int .i64 p0_4, .sl (.ints .i64 p0_5)]] Kk = S4_e p0_0 p0_1 p0_2 p0_3 p0_4 p0_5   (fun r1 => Kk ⟨[.x (.bool r1)], []⟩) := by
  kernel_rfl
def F4 {ρ : Type} (fuel : Nat) (p0_0 : Int) (p0_1 : Int) (p0_2 : List Int) (p0_3 : Int) (p0_4 : Int) (p0_5 : List Int)  (K : Bool → Option ρ) : Option ρ := S4_e p0_0 p0_1 p0_2 p0_3 p0_4 p0_5   K
theorem f4 {ρ : Type} (fuel : Nat) (p0_0 : Int) (p0_1 : Int) (p0_2 : List Int) (p0_3 : Int) (p0_4 : Int) (p0_5 : List Int) (Kk : Out → Option ρ) : runFn TT (lk O4) kp4 fuel [.val] false 27 [.tmp 2] b4 [.agg [.int .i64 p0_0, .int .i64 p0_1, .sl (.ints .i64 p0_2), .int .i64 p0_3, .int .i64 p0_4, .sl (.ints .i64 p0_5)]] Kk = F4 fuel p0_0 p0_1 p0_2 p0_3 p0_4 p0_5 (fun r1 => Kk ⟨[.x (.bool r1)], []⟩) := by
  rw [s4_e, F4]
noncomputable def sh4 (p0_0 : Int) (p0_1 : Int) (p0_2 : List Int) (p0_3 : Int) (p0_4 : Int) (p0_5 : List Int) : Option (Bool) := F4 0 p0_0 p0_1 p0_2 p0_3 p0_4 p0_5 (fun r1 => some r1)
noncomputable def G4 {ρ : Type} : List DU → (Out → Option ρ) → Option ρ
  | [.agg [.int .i64 p0_0, .int .i64 p0_1, .sl (.ints .i64 p0_2), .int .i64 p0_3, .int .i64 p0_4, .sl (.ints .i64 p0_5)]], K => (sh4 p0_0 p0_1 p0_2 p0_3 p0_4 p0_5).bind fun r => K ⟨[.x (.bool r)], []⟩
  | _, _ => none
noncomputable def o4 : Ora := ⟨[.val], false, G4⟩
def un4 : Out → Option (Bool)
  | ⟨[.x (.bool r1)], []⟩ => some r1
  | _ => none
theorem un4_ok {o : Out} {r : Bool} (h : un4 o = some r) : o = ⟨[.x (.bool r)], []⟩ := by
  unfold un4 at h
  split at h
  · injection h with h
    subst h
    rfl
  · cases h
theorem n4 : ∀ k o, lk O4 k = some o → Nat1 o := fun k o h => (ook_list (P := Try.prog) (l := O4) (List.forall_mem_cons.2 ⟨m18, (List.forall_mem_cons.2 ⟨m19, (List.forall_mem_cons.2 ⟨m20, (List.forall_mem_cons.2 ⟨m21, (List.forall_mem_cons.2 ⟨m22, (List.forall_mem_nil _)⟩)⟩)⟩)⟩)⟩)).nat k o h
theorem u4 (fuel : Nat) (p0_0 : Int) (p0_1 : Int) (p0_2 : List Int) (p0_3 : Int) (p0_4 : Int) (p0_5 : List Int) : runFn TT (lk O4) kp4 fuel [.val] false 27 [.tmp 2] b4 [.agg [.int .i64 p0_0, .int .i64 p0_1, .sl (.ints .i64 p0_2), .int .i64 p0_3, .int .i64 p0_4, .sl (.ints .i64 p0_5)]] un4 = F4 fuel p0_0 p0_1 p0_2 p0_3 p0_4 p0_5 (fun r1 => some r1) := f4 fuel p0_0 p0_1 p0_2 p0_3 p0_4 p0_5 un4
theorem m4 : MeetsO Try.prog 4 o4 := by
  refine ⟨fun ρ ds K => ?_, ⟨_, meets_run (kp := kp4) tsOk (ook_list (l := O4) (List.forall_mem_cons.2 ⟨m18, (List.forall_mem_cons.2 ⟨m19, (List.forall_mem_cons.2 ⟨m20, (List.forall_mem_cons.2 ⟨m21, (List.forall_mem_cons.2 ⟨m22, (List.forall_mem_nil _)⟩)⟩)⟩)⟩)⟩)) mixed Try.func4 (body := b4) (by kernel_rfl) (ntmps := 27) (by kernel_rfl) (rs := [.tmp 2]) (by kernel_rfl), fun ds out h => ?_⟩, ⟨_, Try.func4, by kernel_rfl, by kernel_rfl⟩⟩
  · show G4 ds K = (G4 ds some).bind K
    unfold G4
    split
    · cases sh4 _ _ _ _ _ _ <;> rfl
    · rfl
  · replace h : G4 ds some = some out := h
    unfold G4 at h
    split at h
    · obtain ⟨r, hr, h⟩ := Option.bind_eq_some_iff.1 h
      injection h with h
      subst h
      have hn := (u4 0 _ _ _ _ _ _).trans hr
      rw [runFn_bind (K := un4) (K' := some) (f := un4) n4 (fun _ => rfl)] at hn
      obtain ⟨o, h1, h2⟩ := Option.bind_eq_some_iff.1 hn
      rw [un4_ok h2] at h1
      exact ⟨0, h1⟩
    · cases h
end
end Go.Proofs.Ytafdeomdhkmjmaa

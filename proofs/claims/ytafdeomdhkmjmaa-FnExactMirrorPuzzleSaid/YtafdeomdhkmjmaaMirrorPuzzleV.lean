/-
  The walks: what each function of the law answers is what the plain function beside it answers.
-/
import Derived.Test.YtafdeomdhkmjmaaC4
import Derived.KernelRfl
import Derived.Test.YtafdeomdhkmjmaaShelf
set_option linter.unusedVariables false
set_option linter.unusedSimpArgs false
namespace Go.Proofs.Ytafdeomdhkmjmaa
open Go.BV
noncomputable section
theorem tok3 : TOk Try.prog 3 ⟨.int .i64, 1, [.int .i64 0]⟩ := tok_mk (z := .int .i64 0) (by kernel_rfl) (by kernel_rfl) (fun _ _ => ⟨rfl, trivial⟩) (show Try.prog.underlying 3 = some (.int .i64) by kernel_rfl)
theorem tok4 : TOk Try.prog 4 ⟨.bool, 1, [.bool false]⟩ := tok_mk (z := .bool false) (by kernel_rfl) (by kernel_rfl) (fun _ _ => ⟨rfl, trivial⟩) (show Try.prog.underlying 4 = some (.bool) by kernel_rfl)
theorem tok22 : TOk Try.prog 22 ⟨.slice (.ints .i64 []), 1, [.nil (.ints .i64 [])]⟩ := tok_mk (z := .slice none 0 0) (by kernel_rfl) (by kernel_rfl) (fun _ _ => ⟨⟨rfl, rfl⟩, trivial⟩) (desc_slice (e := 3) (c := .ints .i64 []) (d := .int .i64) (ze := .int .i64 0) (b := 8) (by kernel_rfl) (show Try.prog.underlying 3 = some (.int .i64) by kernel_rfl) (by kernel_rfl) rfl (by kernel_rfl) (by kernel_rfl) (by decide) (by kernel_rfl) rfl (.inl rfl) zero_ints)
theorem tok24 : TOk Try.prog 24 ⟨.struct [(0, 1, false), (1, 1, false), (2, 1, false)], 3, [.int .i64 0, .int .i64 0, .nil (.ints .i64 [])]⟩ := tok_mk (z := .agg #[.int .i64 0, .int .i64 0, .slice none 0 0]) (by kernel_rfl) (by kernel_rfl) (fun _ _ => ⟨rfl, rfl, ⟨rfl, rfl⟩, trivial⟩) (desc_struct Try.underlying24 ⟨rfl, by kernel_rfl, rfl, ⟨_, Try.underlying3, rfl⟩, ⟨rfl, by kernel_rfl, rfl, ⟨_, Try.underlying3, rfl⟩, ⟨rfl, by kernel_rfl, rfl, ⟨_, Try.underlying22, rfl⟩, trivial⟩⟩⟩)
theorem tok26 : TOk Try.prog 26 ⟨.struct [(0, 1, false), (1, 1, false)], 2, [.int .i64 0, .int .i64 0]⟩ := tok_mk (z := .agg #[.int .i64 0, .int .i64 0]) (by kernel_rfl) (by kernel_rfl) (fun _ _ => ⟨rfl, rfl, trivial⟩) (desc_struct Try.underlying26 ⟨rfl, by kernel_rfl, rfl, ⟨_, Try.underlying3, rfl⟩, ⟨rfl, by kernel_rfl, rfl, ⟨_, Try.underlying3, rfl⟩, trivial⟩⟩)
theorem tok33 : TOk Try.prog 33 ⟨.struct [(0, 1, false), (1, 1, false), (2, 1, false)], 3, [.int .i64 0, .int .i64 0, .nil (.ints .i64 [])]⟩ := tok_mk (z := .agg #[.int .i64 0, .int .i64 0, .slice none 0 0]) (by kernel_rfl) (by kernel_rfl) (fun _ _ => ⟨rfl, rfl, ⟨rfl, rfl⟩, trivial⟩) (desc_struct Try.underlying33 ⟨rfl, by kernel_rfl, rfl, ⟨_, Try.underlying3, rfl⟩, ⟨rfl, by kernel_rfl, rfl, ⟨_, Try.underlying3, rfl⟩, ⟨rfl, by kernel_rfl, rfl, ⟨_, Try.underlying22, rfl⟩, trivial⟩⟩⟩)
theorem tok34 : TOk Try.prog 34 ⟨.struct [(0, 1, false), (1, 1, false)], 2, [.int .i64 0, .int .i64 0]⟩ := tok_mk (z := .agg #[.int .i64 0, .int .i64 0]) (by kernel_rfl) (by kernel_rfl) (fun _ _ => ⟨rfl, rfl, trivial⟩) (desc_struct Try.underlying34 ⟨rfl, by kernel_rfl, rfl, ⟨_, Try.underlying3, rfl⟩, ⟨rfl, by kernel_rfl, rfl, ⟨_, Try.underlying3, rfl⟩, trivial⟩⟩)
theorem tok36 : TOk Try.prog 36 ⟨.struct [(0, 3, true), (3, 2, true), (5, 1, false)], 6, [.int .i64 0, .int .i64 0, .nil (.ints .i64 []), .int .i64 0, .int .i64 0, .nil (.ints .i64 [])]⟩ := tok_mk (z := .agg #[.int .i64 0, .int .i64 0, .slice none 0 0, .int .i64 0, .int .i64 0, .slice none 0 0]) (by kernel_rfl) (by kernel_rfl) (fun _ _ => ⟨rfl, rfl, ⟨rfl, rfl⟩, rfl, rfl, ⟨rfl, rfl⟩, trivial⟩) (desc_struct Try.underlying36 ⟨rfl, by kernel_rfl, rfl, ⟨_, Try.underlying33, rfl⟩, ⟨rfl, by kernel_rfl, rfl, ⟨_, Try.underlying34, rfl⟩, ⟨rfl, by kernel_rfl, rfl, ⟨_, Try.underlying22, rfl⟩, trivial⟩⟩⟩)
theorem tok40 : TOk Try.prog 40 ⟨.struct [(0, 3, true), (3, 2, true), (5, 1, false)], 6, [.int .i64 0, .int .i64 0, .nil (.ints .i64 []), .int .i64 0, .int .i64 0, .nil (.ints .i64 [])]⟩ := tok_mk (z := .agg #[.int .i64 0, .int .i64 0, .slice none 0 0, .int .i64 0, .int .i64 0, .slice none 0 0]) (by kernel_rfl) (by kernel_rfl) (fun _ _ => ⟨rfl, rfl, ⟨rfl, rfl⟩, rfl, rfl, ⟨rfl, rfl⟩, trivial⟩) (desc_struct Try.underlying40 ⟨rfl, by kernel_rfl, rfl, ⟨_, Try.underlying24, rfl⟩, ⟨rfl, by kernel_rfl, rfl, ⟨_, Try.underlying26, rfl⟩, ⟨rfl, by kernel_rfl, rfl, ⟨_, Try.underlying22, rfl⟩, trivial⟩⟩⟩)
theorem tok75 : TOk Try.prog 75 ⟨.slice (.bools []), 1, [.nil (.bools [])]⟩ := tok_mk (z := .slice none 0 0) (by kernel_rfl) (by kernel_rfl) (fun _ _ => ⟨⟨rfl, rfl⟩, trivial⟩) (desc_slice (e := 4) (c := .bools []) (d := .bool) (ze := .bool false) (b := 1) (by kernel_rfl) trivial (by kernel_rfl) rfl (by kernel_rfl) (by kernel_rfl) (by decide) (by kernel_rfl) rfl (.inl rfl) zero_bools)
def TTl : List (TypeId × TI) := [(3, ⟨.int .i64, 1, [.int .i64 0]⟩), (4, ⟨.bool, 1, [.bool false]⟩), (22, ⟨.slice (.ints .i64 []), 1, [.nil (.ints .i64 [])]⟩), (24, ⟨.struct [(0, 1, false), (1, 1, false), (2, 1, false)], 3, [.int .i64 0, .int .i64 0, .nil (.ints .i64 [])]⟩), (26, ⟨.struct [(0, 1, false), (1, 1, false)], 2, [.int .i64 0, .int .i64 0]⟩), (33, ⟨.struct [(0, 1, false), (1, 1, false), (2, 1, false)], 3, [.int .i64 0, .int .i64 0, .nil (.ints .i64 [])]⟩), (34, ⟨.struct [(0, 1, false), (1, 1, false)], 2, [.int .i64 0, .int .i64 0]⟩), (36, ⟨.struct [(0, 3, true), (3, 2, true), (5, 1, false)], 6, [.int .i64 0, .int .i64 0, .nil (.ints .i64 []), .int .i64 0, .int .i64 0, .nil (.ints .i64 [])]⟩), (40, ⟨.struct [(0, 3, true), (3, 2, true), (5, 1, false)], 6, [.int .i64 0, .int .i64 0, .nil (.ints .i64 []), .int .i64 0, .int .i64 0, .nil (.ints .i64 [])]⟩), (75, ⟨.slice (.bools []), 1, [.nil (.bools [])]⟩)]
def TT : TypeId → TI := tlk TTl
theorem tsOk : TsOk Try.prog TT := tsok_list (l := TTl) (List.forall_mem_cons.2 ⟨⟨by simp, tok3⟩, (List.forall_mem_cons.2 ⟨⟨by simp, tok4⟩, (List.forall_mem_cons.2 ⟨⟨by simp, tok22⟩, (List.forall_mem_cons.2 ⟨⟨by simp, tok24⟩, (List.forall_mem_cons.2 ⟨⟨by simp, tok26⟩, (List.forall_mem_cons.2 ⟨⟨by simp, tok33⟩, (List.forall_mem_cons.2 ⟨⟨by simp, tok34⟩, (List.forall_mem_cons.2 ⟨⟨by simp, tok36⟩, (List.forall_mem_cons.2 ⟨⟨by simp, tok40⟩, (List.forall_mem_cons.2 ⟨⟨by simp, tok75⟩, (List.forall_mem_nil _)⟩)⟩)⟩)⟩)⟩)⟩)⟩)⟩)⟩)⟩)
theorem mixed : Try.prog.follows .mixedOrders = true := by kernel_rfl
/-! f54 loop.example.g01239.laws.szIntS -/
noncomputable def b_laws_szIntS : Code := Try.f54.body.getD .skip
def kp_laws_szIntS (g : Nat) : Nat → Option Keep := lk []
def O_laws_szIntS : List (FuncId × Ora) := []
def E_laws_szIntS : Env := ⟨lk O_laws_szIntS, fun _ => false⟩
def S_laws_szIntS_e {ρ : Type} (p0 : List Int) (p1 : Int)   (K : Int → Option ρ) : Option ρ :=
  (bif decide ((IntKind.i64.wrap (p1 - (p0.length : Int))) < (0 : Int)) then K (-1 : Int) else K (IntKind.i64.wrap (p1 - (p0.length : Int))))
theorem s_laws_szIntS_e {ρ : Type} (g fuel : Nat) (p0 : List Int) (p1 : Int) (Kk : Out → Option ρ) : runFn TT E_laws_szIntS (kp_laws_szIntS g) fuel [.val, .val] 2 false [[]] 12 [.tmp 4] b_laws_szIntS [.x (.sl (.ints .i64 p0)), .x (.int .i64 p1)] Kk = S_laws_szIntS_e p0 p1   (fun r1 => Kk ⟨[.x (.int .i64 r1)], []⟩) := by
  kernel_rfl
def F_laws_szIntS {ρ : Type} (fuel : Nat) (p0 : List Int) (p1 : Int)  (K : Int → Option ρ) : Option ρ := S_laws_szIntS_e p0 p1   K
theorem f_laws_szIntS {ρ : Type} (fuel : Nat) (p0 : List Int) (p1 : Int) (Kk : Out → Option ρ) : runFn TT E_laws_szIntS (kp_laws_szIntS 1) fuel [.val, .val] 2 false [[]] 12 [.tmp 4] b_laws_szIntS [.x (.sl (.ints .i64 p0)), .x (.int .i64 p1)] Kk = F_laws_szIntS fuel p0 p1 (fun r1 => Kk ⟨[.x (.int .i64 r1)], []⟩) := by
  rw [s_laws_szIntS_e, F_laws_szIntS]
noncomputable def sh_laws_szIntS (p0 : List Int) (p1 : Int) : Option (Int) := F_laws_szIntS 0 p0 p1 (fun r1 => some r1)
noncomputable def G_laws_szIntS {ρ : Type} : List DU → (Out → Option ρ) → Option ρ
  | [.x (.sl (.ints .i64 p0)), .x (.int .i64 p1)], K => (sh_laws_szIntS p0 p1).bind fun r => K ⟨[.x (.int .i64 r)], []⟩
  | _, _ => none
noncomputable def o_laws_szIntS : Ora := ⟨[.val, .val], 2, false, G_laws_szIntS⟩
def un_laws_szIntS : Out → Option (Int)
  | ⟨[.x (.int .i64 r1)], []⟩ => some r1
  | _ => none
theorem un_laws_szIntS_ok {o : Out} {r : Int} (h : un_laws_szIntS o = some r) : o = ⟨[.x (.int .i64 r)], []⟩ := by
  unfold un_laws_szIntS at h
  split at h
  · injection h with h
    subst h
    rfl
  · cases h
theorem n_laws_szIntS : ∀ k o, E_laws_szIntS.fn k = some o → Nat1 o := fun k o h => (ook_list (P := Try.prog) (l := O_laws_szIntS) (fk := E_laws_szIntS.fk) (List.forall_mem_nil _)).nat k o h
theorem u_laws_szIntS (fuel : Nat) (p0 : List Int) (p1 : Int) : runFn TT E_laws_szIntS (kp_laws_szIntS 1) fuel [.val, .val] 2 false [[]] 12 [.tmp 4] b_laws_szIntS [.x (.sl (.ints .i64 p0)), .x (.int .i64 p1)] un_laws_szIntS = F_laws_szIntS fuel p0 p1 (fun r1 => some r1) := f_laws_szIntS fuel p0 p1 un_laws_szIntS
theorem m_laws_szIntS : MeetsO Try.prog 54 o_laws_szIntS := by
  refine ⟨fun ρ ds K => ?_, ⟨_, meets_run (kp := kp_laws_szIntS 1) (weak := false) (df := [[]]) tsOk (ook_list (l := O_laws_szIntS) (fk := E_laws_szIntS.fk) (List.forall_mem_nil _)) mixed Try.func54 (body := b_laws_szIntS) (by kernel_rfl) (ntmps := 12) (by kernel_rfl) (rs := [.tmp 4]) (by kernel_rfl), fun ds out h => ?_⟩, ⟨_, Try.func54, by kernel_rfl, by kernel_rfl⟩⟩
  · show G_laws_szIntS ds K = (G_laws_szIntS ds some).bind K
    unfold G_laws_szIntS
    split
    · cases sh_laws_szIntS _ _ <;> rfl
    · rfl
  · replace h : G_laws_szIntS ds some = some out := h
    unfold G_laws_szIntS at h
    split at h
    · obtain ⟨r, hr, h⟩ := Option.bind_eq_some_iff.1 h
      injection h with h
      subst h
      have hn := (u_laws_szIntS 0 _ _).trans hr
      rw [runFn_bind (K := un_laws_szIntS) (K' := some) (f := un_laws_szIntS) n_laws_szIntS (fun _ => rfl)] at hn
      obtain ⟨o, h1, h2⟩ := Option.bind_eq_some_iff.1 hn
      rw [un_laws_szIntS_ok h2] at h1
      exact ⟨0, h1⟩
    · cases h
/-! f43 loop.example.g01239.laws.szBoard -/
noncomputable def b_laws_szBoard : Code := Try.f43.body.getD .skip
def kp_laws_szBoard (g : Nat) : Nat → Option Keep := lk []
def O_laws_szBoard : List (FuncId × Ora) := [(54, o_laws_szIntS)]
def E_laws_szBoard : Env := ⟨lk O_laws_szBoard, fun _ => false⟩
def S_laws_szBoard_e {ρ : Type} (p0_0 : Int) (p0_1 : Int) (p0_2 : List Int) (p1 : Int)   (K : Int → Option ρ) : Option ρ :=
  ((sh_laws_szIntS p0_2 p1).bind fun r1 => (bif decide (r1 < (0 : Int)) then K (-1 : Int) else K r1))
theorem s_laws_szBoard_e {ρ : Type} (g fuel : Nat) (p0_0 : Int) (p0_1 : Int) (p0_2 : List Int) (p1 : Int) (Kk : Out → Option ρ) : runFn TT E_laws_szBoard (kp_laws_szBoard g) fuel [.val, .val] 2 false [[]] 12 [.tmp 4] b_laws_szBoard [.agg [.int .i64 p0_0, .int .i64 p0_1, .sl (.ints .i64 p0_2)], .x (.int .i64 p1)] Kk = S_laws_szBoard_e p0_0 p0_1 p0_2 p1   (fun r1 => Kk ⟨[.x (.int .i64 r1)], []⟩) := by
  kernel_rfl
def F_laws_szBoard {ρ : Type} (fuel : Nat) (p0_0 : Int) (p0_1 : Int) (p0_2 : List Int) (p1 : Int)  (K : Int → Option ρ) : Option ρ := S_laws_szBoard_e p0_0 p0_1 p0_2 p1   K
theorem f_laws_szBoard {ρ : Type} (fuel : Nat) (p0_0 : Int) (p0_1 : Int) (p0_2 : List Int) (p1 : Int) (Kk : Out → Option ρ) : runFn TT E_laws_szBoard (kp_laws_szBoard 1) fuel [.val, .val] 2 false [[]] 12 [.tmp 4] b_laws_szBoard [.agg [.int .i64 p0_0, .int .i64 p0_1, .sl (.ints .i64 p0_2)], .x (.int .i64 p1)] Kk = F_laws_szBoard fuel p0_0 p0_1 p0_2 p1 (fun r1 => Kk ⟨[.x (.int .i64 r1)], []⟩) := by
  rw [s_laws_szBoard_e, F_laws_szBoard]
noncomputable def sh_laws_szBoard (p0_0 : Int) (p0_1 : Int) (p0_2 : List Int) (p1 : Int) : Option (Int) := F_laws_szBoard 0 p0_0 p0_1 p0_2 p1 (fun r1 => some r1)
noncomputable def G_laws_szBoard {ρ : Type} : List DU → (Out → Option ρ) → Option ρ
  | [.agg [.int .i64 p0_0, .int .i64 p0_1, .sl (.ints .i64 p0_2)], .x (.int .i64 p1)], K => (sh_laws_szBoard p0_0 p0_1 p0_2 p1).bind fun r => K ⟨[.x (.int .i64 r)], []⟩
  | _, _ => none
noncomputable def o_laws_szBoard : Ora := ⟨[.val, .val], 2, false, G_laws_szBoard⟩
def un_laws_szBoard : Out → Option (Int)
  | ⟨[.x (.int .i64 r1)], []⟩ => some r1
  | _ => none
theorem un_laws_szBoard_ok {o : Out} {r : Int} (h : un_laws_szBoard o = some r) : o = ⟨[.x (.int .i64 r)], []⟩ := by
  unfold un_laws_szBoard at h
  split at h
  · injection h with h
    subst h
    rfl
  · cases h
theorem n_laws_szBoard : ∀ k o, E_laws_szBoard.fn k = some o → Nat1 o := fun k o h => (ook_list (P := Try.prog) (l := O_laws_szBoard) (fk := E_laws_szBoard.fk) (List.forall_mem_cons.2 ⟨m_laws_szIntS, (List.forall_mem_nil _)⟩)).nat k o h
theorem u_laws_szBoard (fuel : Nat) (p0_0 : Int) (p0_1 : Int) (p0_2 : List Int) (p1 : Int) : runFn TT E_laws_szBoard (kp_laws_szBoard 1) fuel [.val, .val] 2 false [[]] 12 [.tmp 4] b_laws_szBoard [.agg [.int .i64 p0_0, .int .i64 p0_1, .sl (.ints .i64 p0_2)], .x (.int .i64 p1)] un_laws_szBoard = F_laws_szBoard fuel p0_0 p0_1 p0_2 p1 (fun r1 => some r1) := f_laws_szBoard fuel p0_0 p0_1 p0_2 p1 un_laws_szBoard
theorem m_laws_szBoard : MeetsO Try.prog 43 o_laws_szBoard := by
  refine ⟨fun ρ ds K => ?_, ⟨_, meets_run (kp := kp_laws_szBoard 1) (weak := false) (df := [[]]) tsOk (ook_list (l := O_laws_szBoard) (fk := E_laws_szBoard.fk) (List.forall_mem_cons.2 ⟨m_laws_szIntS, (List.forall_mem_nil _)⟩)) mixed Try.func43 (body := b_laws_szBoard) (by kernel_rfl) (ntmps := 12) (by kernel_rfl) (rs := [.tmp 4]) (by kernel_rfl), fun ds out h => ?_⟩, ⟨_, Try.func43, by kernel_rfl, by kernel_rfl⟩⟩
  · show G_laws_szBoard ds K = (G_laws_szBoard ds some).bind K
    unfold G_laws_szBoard
    split
    · cases sh_laws_szBoard _ _ _ _ <;> rfl
    · rfl
  · replace h : G_laws_szBoard ds some = some out := h
    unfold G_laws_szBoard at h
    split at h
    · obtain ⟨r, hr, h⟩ := Option.bind_eq_some_iff.1 h
      injection h with h
      subst h
      have hn := (u_laws_szBoard 0 _ _ _ _).trans hr
      rw [runFn_bind (K := un_laws_szBoard) (K' := some) (f := un_laws_szBoard) n_laws_szBoard (fun _ => rfl)] at hn
      obtain ⟨o, h1, h2⟩ := Option.bind_eq_some_iff.1 hn
      rw [un_laws_szBoard_ok h2] at h1
      exact ⟨0, h1⟩
    · cases h
/-! f18 loop.example.g01239.laws.szPuzzle -/
noncomputable def b_laws_szPuzzle : Code := Try.f18.body.getD .skip
def kp_laws_szPuzzle (g : Nat) : Nat → Option Keep := lk []
def O_laws_szPuzzle : List (FuncId × Ora) := [(43, o_laws_szBoard), (54, o_laws_szIntS)]
def E_laws_szPuzzle : Env := ⟨lk O_laws_szPuzzle, fun _ => false⟩
def S_laws_szPuzzle_e {ρ : Type} (p0_0 : Int) (p0_1 : Int) (p0_2 : List Int) (p0_3 : Int) (p0_4 : Int) (p0_5 : List Int) (p1 : Int)   (K : Int → Option ρ) : Option ρ :=
  ((sh_laws_szBoard p0_0 p0_1 p0_2 p1).bind fun r1 => (bif decide (r1 < (0 : Int)) then K (-1 : Int) else ((sh_laws_szIntS p0_5 r1).bind fun r2 => (bif decide (r2 < (0 : Int)) then K (-1 : Int) else K r2))))
theorem s_laws_szPuzzle_e {ρ : Type} (g fuel : Nat) (p0_0 : Int) (p0_1 : Int) (p0_2 : List Int) (p0_3 : Int) (p0_4 : Int) (p0_5 : List Int) (p1 : Int) (Kk : Out → Option ρ) : runFn TT E_laws_szPuzzle (kp_laws_szPuzzle g) fuel [.val, .val] 2 false [[]] 18 [.tmp 4] b_laws_szPuzzle [.agg [.int .i64 p0_0, .int .i64 p0_1, .sl (.ints .i64 p0_2), .int .i64 p0_3, .int .i64 p0_4, .sl (.ints .i64 p0_5)], .x (.int .i64 p1)] Kk = S_laws_szPuzzle_e p0_0 p0_1 p0_2 p0_3 p0_4 p0_5 p1   (fun r1 => Kk ⟨[.x (.int .i64 r1)], []⟩) := by
  kernel_rfl
def F_laws_szPuzzle {ρ : Type} (fuel : Nat) (p0_0 : Int) (p0_1 : Int) (p0_2 : List Int) (p0_3 : Int) (p0_4 : Int) (p0_5 : List Int) (p1 : Int)  (K : Int → Option ρ) : Option ρ := S_laws_szPuzzle_e p0_0 p0_1 p0_2 p0_3 p0_4 p0_5 p1   K
theorem f_laws_szPuzzle {ρ : Type} (fuel : Nat) (p0_0 : Int) (p0_1 : Int) (p0_2 : List Int) (p0_3 : Int) (p0_4 : Int) (p0_5 : List Int) (p1 : Int) (Kk : Out → Option ρ) : runFn TT E_laws_szPuzzle (kp_laws_szPuzzle 1) fuel [.val, .val] 2 false [[]] 18 [.tmp 4] b_laws_szPuzzle [.agg [.int .i64 p0_0, .int .i64 p0_1, .sl (.ints .i64 p0_2), .int .i64 p0_3, .int .i64 p0_4, .sl (.ints .i64 p0_5)], .x (.int .i64 p1)] Kk = F_laws_szPuzzle fuel p0_0 p0_1 p0_2 p0_3 p0_4 p0_5 p1 (fun r1 => Kk ⟨[.x (.int .i64 r1)], []⟩) := by
  rw [s_laws_szPuzzle_e, F_laws_szPuzzle]
noncomputable def sh_laws_szPuzzle (p0_0 : Int) (p0_1 : Int) (p0_2 : List Int) (p0_3 : Int) (p0_4 : Int) (p0_5 : List Int) (p1 : Int) : Option (Int) := F_laws_szPuzzle 0 p0_0 p0_1 p0_2 p0_3 p0_4 p0_5 p1 (fun r1 => some r1)
noncomputable def G_laws_szPuzzle {ρ : Type} : List DU → (Out → Option ρ) → Option ρ
  | [.agg [.int .i64 p0_0, .int .i64 p0_1, .sl (.ints .i64 p0_2), .int .i64 p0_3, .int .i64 p0_4, .sl (.ints .i64 p0_5)], .x (.int .i64 p1)], K => (sh_laws_szPuzzle p0_0 p0_1 p0_2 p0_3 p0_4 p0_5 p1).bind fun r => K ⟨[.x (.int .i64 r)], []⟩
  | _, _ => none
noncomputable def o_laws_szPuzzle : Ora := ⟨[.val, .val], 2, false, G_laws_szPuzzle⟩
def un_laws_szPuzzle : Out → Option (Int)
  | ⟨[.x (.int .i64 r1)], []⟩ => some r1
  | _ => none
theorem un_laws_szPuzzle_ok {o : Out} {r : Int} (h : un_laws_szPuzzle o = some r) : o = ⟨[.x (.int .i64 r)], []⟩ := by
  unfold un_laws_szPuzzle at h
  split at h
  · injection h with h
    subst h
    rfl
  · cases h
theorem n_laws_szPuzzle : ∀ k o, E_laws_szPuzzle.fn k = some o → Nat1 o := fun k o h => (ook_list (P := Try.prog) (l := O_laws_szPuzzle) (fk := E_laws_szPuzzle.fk) (List.forall_mem_cons.2 ⟨m_laws_szBoard, (List.forall_mem_cons.2 ⟨m_laws_szIntS, (List.forall_mem_nil _)⟩)⟩)).nat k o h
theorem u_laws_szPuzzle (fuel : Nat) (p0_0 : Int) (p0_1 : Int) (p0_2 : List Int) (p0_3 : Int) (p0_4 : Int) (p0_5 : List Int) (p1 : Int) : runFn TT E_laws_szPuzzle (kp_laws_szPuzzle 1) fuel [.val, .val] 2 false [[]] 18 [.tmp 4] b_laws_szPuzzle [.agg [.int .i64 p0_0, .int .i64 p0_1, .sl (.ints .i64 p0_2), .int .i64 p0_3, .int .i64 p0_4, .sl (.ints .i64 p0_5)], .x (.int .i64 p1)] un_laws_szPuzzle = F_laws_szPuzzle fuel p0_0 p0_1 p0_2 p0_3 p0_4 p0_5 p1 (fun r1 => some r1) := f_laws_szPuzzle fuel p0_0 p0_1 p0_2 p0_3 p0_4 p0_5 p1 un_laws_szPuzzle
theorem m_laws_szPuzzle : MeetsO Try.prog 18 o_laws_szPuzzle := by
  refine ⟨fun ρ ds K => ?_, ⟨_, meets_run (kp := kp_laws_szPuzzle 1) (weak := false) (df := [[]]) tsOk (ook_list (l := O_laws_szPuzzle) (fk := E_laws_szPuzzle.fk) (List.forall_mem_cons.2 ⟨m_laws_szBoard, (List.forall_mem_cons.2 ⟨m_laws_szIntS, (List.forall_mem_nil _)⟩)⟩)) mixed Try.func18 (body := b_laws_szPuzzle) (by kernel_rfl) (ntmps := 18) (by kernel_rfl) (rs := [.tmp 4]) (by kernel_rfl), fun ds out h => ?_⟩, ⟨_, Try.func18, by kernel_rfl, by kernel_rfl⟩⟩
  · show G_laws_szPuzzle ds K = (G_laws_szPuzzle ds some).bind K
    unfold G_laws_szPuzzle
    split
    · cases sh_laws_szPuzzle _ _ _ _ _ _ _ <;> rfl
    · rfl
  · replace h : G_laws_szPuzzle ds some = some out := h
    unfold G_laws_szPuzzle at h
    split at h
    · obtain ⟨r, hr, h⟩ := Option.bind_eq_some_iff.1 h
      injection h with h
      subst h
      have hn := (u_laws_szPuzzle 0 _ _ _ _ _ _ _).trans hr
      rw [runFn_bind (K := un_laws_szPuzzle) (K' := some) (f := un_laws_szPuzzle) n_laws_szPuzzle (fun _ => rfl)] at hn
      obtain ⟨o, h1, h2⟩ := Option.bind_eq_some_iff.1 hn
      rw [un_laws_szPuzzle_ok h2] at h1
      exact ⟨0, h1⟩
    · cases h
/-! f40 loop.example.g01239.laws.toIntS -/
noncomputable def b_laws_toIntS : Code := Try.f40.body.getD .skip
def kp_laws_toIntS (g : Nat) : Nat → Option Keep := lk [(3, ⟨[], [0, 3, 4], [], [], [], g⟩)]
def O_laws_toIntS : List (FuncId × Ora) := []
def E_laws_toIntS : Env := ⟨lk O_laws_toIntS, fun _ => false⟩
noncomputable def D_laws_toIntS_0 {ρ : Type} (g fuel : Nat) (p0 : List Int) (n : Nat) (v0 : List Int) (v3 : List Int) (v4 : Int) (Kk : Out → Option ρ) : Option ρ :=
  iter (run TT E_laws_toIntS (kp_laws_toIntS g) fuel (cL (cB (cS2 (cS1 (cS2 (cS2 (b_laws_toIntS)))))))) (nrmAt (kp_laws_toIntS g) (firstRid (cL (cB (cS2 (cS1 (cS2 (cS2 (b_laws_toIntS))))))))) n (⟨[.u (.x (.ro (.ints .i64 v0))), uu, uu, .u (.x (.own 5152 (.ints .i64 v3))), .u (.x (.int .i64 v4)), uu, uu, uu, uu, uu, uu, uu, uu, uu, uu, uu, uu, uu, uu, uu, uu, uu], [], [], []⟩) (blkK 0 (seqK (gateAt (kp_laws_toIntS g) (200000 + firstRid (cS2 (cS2 (cS2 (b_laws_toIntS)))))) (run TT E_laws_toIntS (kp_laws_toIntS g) fuel (cS2 (cS2 (cS2 (b_laws_toIntS))))) (nrmAt (kp_laws_toIntS g) (200000 + firstRid (cS2 (cS2 (cS2 (b_laws_toIntS)))))) (topK TT [.val] false [[]] [.tmp 2] [.x (.sl (.ints .i64 p0))] Kk)))
def S_laws_toIntS_e {ρ : Type} (p0 : List Int)  (k0 : (List Int → List Int → Int → Option ρ)) : Option ρ :=
  (if 0 ≤ (p0.length : Int) then (if (p0.length : Int) ≤ 1099511627776 then k0 p0 (List.replicate (p0.length : Int).toNat (0 : Int)) (0 : Int) else none) else none)
theorem s_laws_toIntS_e {ρ : Type} (g fuel : Nat) (p0 : List Int) (Kk : Out → Option ρ) : runFn TT E_laws_toIntS (kp_laws_toIntS g) fuel [.val] 1 false [[]] 22 [.tmp 2] b_laws_toIntS [.x (.sl (.ints .i64 p0))] Kk = S_laws_toIntS_e p0  (fun v0 v3 v4 => D_laws_toIntS_0 g fuel p0 fuel v0 v3 v4 Kk) := by
  kernel_rfl
def S_laws_toIntS_0 {ρ : Type}  (v0 : List Int) (v3 : List Int) (v4 : Int) (b0 : (List Int → List Int → Int → Option ρ)) (K : List Int → Option ρ) : Option ρ :=
  (bif decide (v4 < (v0.length : Int)) then (if 0 ≤ v4 then (if v4 < (v0.length : Int) then (if 0 ≤ v4 then (if v4 < (v3.length : Int) then b0 v0 (v3.set v4.toNat (v0.getD v4.toNat 0)) (IntKind.i64.wrap (v4 + (1 : Int))) else none) else none) else none) else none) else K v3)
theorem s_laws_toIntS_0 {ρ : Type} (g fuel : Nat) (p0 : List Int) (n : Nat) (v0 : List Int) (v3 : List Int) (v4 : Int) (Kk : Out → Option ρ) : D_laws_toIntS_0 g fuel p0  (n + 1) v0 v3 v4 Kk = S_laws_toIntS_0  v0 v3 v4 (fun v0 v3 v4 => D_laws_toIntS_0 g fuel p0 n v0 v3 v4 Kk) (fun r1 => Kk ⟨[.x (.sl (.ints .i64 r1))], []⟩) := by
  kernel_rfl
def F_laws_toIntS_0 {ρ : Type} (fuel : Nat)   (K : List Int → Option ρ) : Nat → List Int → List Int → Int → Option ρ
  | 0, _, _, _ => none
  | n + 1, v0, v3, v4 => S_laws_toIntS_0  v0 v3 v4 (F_laws_toIntS_0 fuel   K n) K
theorem f_laws_toIntS_0 {ρ : Type} (fuel : Nat) (p0 : List Int) (Kk : Out → Option ρ) : ∀ (n : Nat) (v0 : List Int) (v3 : List Int) (v4 : Int), D_laws_toIntS_0 1 fuel p0  n v0 v3 v4 Kk = F_laws_toIntS_0 fuel   (fun r1 => Kk ⟨[.x (.sl (.ints .i64 r1))], []⟩) n v0 v3 v4 := by
  intro n
  induction n with
  | zero => intros; rfl
  | succ n ih =>
    intro v0 v3 v4
    rw [s_laws_toIntS_0, F_laws_toIntS_0]
    try simp only [ih]
def F_laws_toIntS {ρ : Type} (fuel : Nat) (p0 : List Int)  (K : List Int → Option ρ) : Option ρ := S_laws_toIntS_e p0  (F_laws_toIntS_0 fuel   K fuel)
theorem f_laws_toIntS {ρ : Type} (fuel : Nat) (p0 : List Int) (Kk : Out → Option ρ) : runFn TT E_laws_toIntS (kp_laws_toIntS 1) fuel [.val] 1 false [[]] 22 [.tmp 2] b_laws_toIntS [.x (.sl (.ints .i64 p0))] Kk = F_laws_toIntS fuel p0 (fun r1 => Kk ⟨[.x (.sl (.ints .i64 r1))], []⟩) := by
  rw [s_laws_toIntS_e, F_laws_toIntS]
  try simp only [f_laws_toIntS_0]
noncomputable def sh_laws_toIntS (p0 : List Int) : Option (List Int) := val fun n => F_laws_toIntS n p0 (fun r1 => some r1)
noncomputable def G_laws_toIntS {ρ : Type} : List DU → (Out → Option ρ) → Option ρ
  | [.x (.sl (.ints .i64 p0))], K => (sh_laws_toIntS p0).bind fun r => K ⟨[.x (.sl (.ints .i64 r))], []⟩
  | _, _ => none
noncomputable def o_laws_toIntS : Ora := ⟨[.val], 1, false, G_laws_toIntS⟩
def un_laws_toIntS : Out → Option (List Int)
  | ⟨[.x (.sl (.ints .i64 r1))], []⟩ => some r1
  | _ => none
theorem un_laws_toIntS_ok {o : Out} {r : List Int} (h : un_laws_toIntS o = some r) : o = ⟨[.x (.sl (.ints .i64 r))], []⟩ := by
  unfold un_laws_toIntS at h
  split at h
  · injection h with h
    subst h
    rfl
  · cases h
theorem n_laws_toIntS : ∀ k o, E_laws_toIntS.fn k = some o → Nat1 o := fun k o h => (ook_list (P := Try.prog) (l := O_laws_toIntS) (fk := E_laws_toIntS.fk) (List.forall_mem_nil _)).nat k o h
theorem u_laws_toIntS (fuel : Nat) (p0 : List Int) : runFn TT E_laws_toIntS (kp_laws_toIntS 1) fuel [.val] 1 false [[]] 22 [.tmp 2] b_laws_toIntS [.x (.sl (.ints .i64 p0))] un_laws_toIntS = F_laws_toIntS fuel p0 (fun r1 => some r1) := f_laws_toIntS fuel p0 un_laws_toIntS
theorem sh_laws_toIntS_of {n : Nat} {p0 : List Int} {r : List Int} (h : F_laws_toIntS n p0 (fun r1 => some r1) = some r) : sh_laws_toIntS p0 = some r := val_of (fun n m r hm h => by rw [← u_laws_toIntS] at h ⊢; exact runFn_mono n_laws_toIntS hm h) h
theorem m_laws_toIntS : MeetsO Try.prog 40 o_laws_toIntS := by
  refine ⟨fun ρ ds K => ?_, ⟨_, meets_run (kp := kp_laws_toIntS 1) (weak := false) (df := [[]]) tsOk (ook_list (l := O_laws_toIntS) (fk := E_laws_toIntS.fk) (List.forall_mem_nil _)) mixed Try.func40 (body := b_laws_toIntS) (by kernel_rfl) (ntmps := 22) (by kernel_rfl) (rs := [.tmp 2]) (by kernel_rfl), fun ds out h => ?_⟩, ⟨_, Try.func40, by kernel_rfl, by kernel_rfl⟩⟩
  · show G_laws_toIntS ds K = (G_laws_toIntS ds some).bind K
    unfold G_laws_toIntS
    split
    · cases sh_laws_toIntS _ <;> rfl
    · rfl
  · replace h : G_laws_toIntS ds some = some out := h
    unfold G_laws_toIntS at h
    split at h
    · obtain ⟨r, hr, h⟩ := Option.bind_eq_some_iff.1 h
      injection h with h
      subst h
      obtain ⟨n, hn⟩ := val_some hr
      replace hn := (u_laws_toIntS n _).trans hn
      rw [runFn_bind (K := un_laws_toIntS) (K' := some) (f := un_laws_toIntS) n_laws_toIntS (fun _ => rfl)] at hn
      obtain ⟨o, h1, h2⟩ := Option.bind_eq_some_iff.1 hn
      rw [un_laws_toIntS_ok h2] at h1
      exact ⟨n, h1⟩
    · cases h
/-! f45 loop.example.g01239.laws.toBoard -/
noncomputable def b_laws_toBoard : Code := Try.f45.body.getD .skip
def kp_laws_toBoard (g : Nat) : Nat → Option Keep := lk []
def O_laws_toBoard : List (FuncId × Ora) := [(40, o_laws_toIntS)]
def E_laws_toBoard : Env := ⟨lk O_laws_toBoard, fun _ => false⟩
def S_laws_toBoard_e {ρ : Type} (p0_0 : Int) (p0_1 : Int) (p0_2 : List Int)   (K : Int → Int → List Int → Option ρ) : Option ρ :=
  ((sh_laws_toIntS p0_2).bind fun r1 => K p0_0 p0_1 r1)
theorem s_laws_toBoard_e {ρ : Type} (g fuel : Nat) (p0_0 : Int) (p0_1 : Int) (p0_2 : List Int) (Kk : Out → Option ρ) : runFn TT E_laws_toBoard (kp_laws_toBoard g) fuel [.val] 1 false [[]] 15 [.cell 2 24] b_laws_toBoard [.agg [.int .i64 p0_0, .int .i64 p0_1, .sl (.ints .i64 p0_2)]] Kk = S_laws_toBoard_e p0_0 p0_1 p0_2   (fun r1 r2 r3 => Kk ⟨[.agg [.int .i64 r1, .int .i64 r2, .sl (.ints .i64 r3)]], []⟩) := by
  kernel_rfl
def F_laws_toBoard {ρ : Type} (fuel : Nat) (p0_0 : Int) (p0_1 : Int) (p0_2 : List Int)  (K : Int → Int → List Int → Option ρ) : Option ρ := S_laws_toBoard_e p0_0 p0_1 p0_2   K
theorem f_laws_toBoard {ρ : Type} (fuel : Nat) (p0_0 : Int) (p0_1 : Int) (p0_2 : List Int) (Kk : Out → Option ρ) : runFn TT E_laws_toBoard (kp_laws_toBoard 1) fuel [.val] 1 false [[]] 15 [.cell 2 24] b_laws_toBoard [.agg [.int .i64 p0_0, .int .i64 p0_1, .sl (.ints .i64 p0_2)]] Kk = F_laws_toBoard fuel p0_0 p0_1 p0_2 (fun r1 r2 r3 => Kk ⟨[.agg [.int .i64 r1, .int .i64 r2, .sl (.ints .i64 r3)]], []⟩) := by
  rw [s_laws_toBoard_e, F_laws_toBoard]
noncomputable def sh_laws_toBoard (p0_0 : Int) (p0_1 : Int) (p0_2 : List Int) : Option (Int × Int × List Int) := F_laws_toBoard 0 p0_0 p0_1 p0_2 (fun r1 r2 r3 => some (r1, r2, r3))
noncomputable def G_laws_toBoard {ρ : Type} : List DU → (Out → Option ρ) → Option ρ
  | [.agg [.int .i64 p0_0, .int .i64 p0_1, .sl (.ints .i64 p0_2)]], K => (sh_laws_toBoard p0_0 p0_1 p0_2).bind fun r => K ⟨[.agg [.int .i64 r.1, .int .i64 r.2.1, .sl (.ints .i64 r.2.2)]], []⟩
  | _, _ => none
noncomputable def o_laws_toBoard : Ora := ⟨[.val], 1, false, G_laws_toBoard⟩
def un_laws_toBoard : Out → Option (Int × Int × List Int)
  | ⟨[.agg [.int .i64 r1, .int .i64 r2, .sl (.ints .i64 r3)]], []⟩ => some (r1, r2, r3)
  | _ => none
theorem un_laws_toBoard_ok {o : Out} {r : Int × Int × List Int} (h : un_laws_toBoard o = some r) : o = ⟨[.agg [.int .i64 r.1, .int .i64 r.2.1, .sl (.ints .i64 r.2.2)]], []⟩ := by
  unfold un_laws_toBoard at h
  split at h
  · injection h with h
    subst h
    rfl
  · cases h
theorem n_laws_toBoard : ∀ k o, E_laws_toBoard.fn k = some o → Nat1 o := fun k o h => (ook_list (P := Try.prog) (l := O_laws_toBoard) (fk := E_laws_toBoard.fk) (List.forall_mem_cons.2 ⟨m_laws_toIntS, (List.forall_mem_nil _)⟩)).nat k o h
theorem u_laws_toBoard (fuel : Nat) (p0_0 : Int) (p0_1 : Int) (p0_2 : List Int) : runFn TT E_laws_toBoard (kp_laws_toBoard 1) fuel [.val] 1 false [[]] 15 [.cell 2 24] b_laws_toBoard [.agg [.int .i64 p0_0, .int .i64 p0_1, .sl (.ints .i64 p0_2)]] un_laws_toBoard = F_laws_toBoard fuel p0_0 p0_1 p0_2 (fun r1 r2 r3 => some (r1, r2, r3)) := f_laws_toBoard fuel p0_0 p0_1 p0_2 un_laws_toBoard
theorem m_laws_toBoard : MeetsO Try.prog 45 o_laws_toBoard := by
  refine ⟨fun ρ ds K => ?_, ⟨_, meets_run (kp := kp_laws_toBoard 1) (weak := false) (df := [[]]) tsOk (ook_list (l := O_laws_toBoard) (fk := E_laws_toBoard.fk) (List.forall_mem_cons.2 ⟨m_laws_toIntS, (List.forall_mem_nil _)⟩)) mixed Try.func45 (body := b_laws_toBoard) (by kernel_rfl) (ntmps := 15) (by kernel_rfl) (rs := [.cell 2 24]) (by kernel_rfl), fun ds out h => ?_⟩, ⟨_, Try.func45, by kernel_rfl, by kernel_rfl⟩⟩
  · show G_laws_toBoard ds K = (G_laws_toBoard ds some).bind K
    unfold G_laws_toBoard
    split
    · cases sh_laws_toBoard _ _ _ <;> rfl
    · rfl
  · replace h : G_laws_toBoard ds some = some out := h
    unfold G_laws_toBoard at h
    split at h
    · obtain ⟨r, hr, h⟩ := Option.bind_eq_some_iff.1 h
      injection h with h
      subst h
      have hn := (u_laws_toBoard 0 _ _ _).trans hr
      rw [runFn_bind (K := un_laws_toBoard) (K' := some) (f := un_laws_toBoard) n_laws_toBoard (fun _ => rfl)] at hn
      obtain ⟨o, h1, h2⟩ := Option.bind_eq_some_iff.1 hn
      rw [un_laws_toBoard_ok h2] at h1
      exact ⟨0, h1⟩
    · cases h
/-! f46 loop.example.g01239.laws.toLeaper -/
noncomputable def b_laws_toLeaper : Code := Try.f46.body.getD .skip
def kp_laws_toLeaper (g : Nat) : Nat → Option Keep := lk []
def O_laws_toLeaper : List (FuncId × Ora) := []
def E_laws_toLeaper : Env := ⟨lk O_laws_toLeaper, fun _ => false⟩
def S_laws_toLeaper_e {ρ : Type} (p0_0 : Int) (p0_1 : Int)   (K : Int → Int → Option ρ) : Option ρ :=
  K p0_0 p0_1
theorem s_laws_toLeaper_e {ρ : Type} (g fuel : Nat) (p0_0 : Int) (p0_1 : Int) (Kk : Out → Option ρ) : runFn TT E_laws_toLeaper (kp_laws_toLeaper g) fuel [.val] 1 false [[]] 11 [.cell 2 26] b_laws_toLeaper [.agg [.int .i64 p0_0, .int .i64 p0_1]] Kk = S_laws_toLeaper_e p0_0 p0_1   (fun r1 r2 => Kk ⟨[.agg [.int .i64 r1, .int .i64 r2]], []⟩) := by
  kernel_rfl
def F_laws_toLeaper {ρ : Type} (fuel : Nat) (p0_0 : Int) (p0_1 : Int)  (K : Int → Int → Option ρ) : Option ρ := S_laws_toLeaper_e p0_0 p0_1   K
theorem f_laws_toLeaper {ρ : Type} (fuel : Nat) (p0_0 : Int) (p0_1 : Int) (Kk : Out → Option ρ) : runFn TT E_laws_toLeaper (kp_laws_toLeaper 1) fuel [.val] 1 false [[]] 11 [.cell 2 26] b_laws_toLeaper [.agg [.int .i64 p0_0, .int .i64 p0_1]] Kk = F_laws_toLeaper fuel p0_0 p0_1 (fun r1 r2 => Kk ⟨[.agg [.int .i64 r1, .int .i64 r2]], []⟩) := by
  rw [s_laws_toLeaper_e, F_laws_toLeaper]
noncomputable def sh_laws_toLeaper (p0_0 : Int) (p0_1 : Int) : Option (Int × Int) := F_laws_toLeaper 0 p0_0 p0_1 (fun r1 r2 => some (r1, r2))
noncomputable def G_laws_toLeaper {ρ : Type} : List DU → (Out → Option ρ) → Option ρ
  | [.agg [.int .i64 p0_0, .int .i64 p0_1]], K => (sh_laws_toLeaper p0_0 p0_1).bind fun r => K ⟨[.agg [.int .i64 r.1, .int .i64 r.2]], []⟩
  | _, _ => none
noncomputable def o_laws_toLeaper : Ora := ⟨[.val], 1, false, G_laws_toLeaper⟩
def un_laws_toLeaper : Out → Option (Int × Int)
  | ⟨[.agg [.int .i64 r1, .int .i64 r2]], []⟩ => some (r1, r2)
  | _ => none
theorem un_laws_toLeaper_ok {o : Out} {r : Int × Int} (h : un_laws_toLeaper o = some r) : o = ⟨[.agg [.int .i64 r.1, .int .i64 r.2]], []⟩ := by
  unfold un_laws_toLeaper at h
  split at h
  · injection h with h
    subst h
    rfl
  · cases h
theorem n_laws_toLeaper : ∀ k o, E_laws_toLeaper.fn k = some o → Nat1 o := fun k o h => (ook_list (P := Try.prog) (l := O_laws_toLeaper) (fk := E_laws_toLeaper.fk) (List.forall_mem_nil _)).nat k o h
theorem u_laws_toLeaper (fuel : Nat) (p0_0 : Int) (p0_1 : Int) : runFn TT E_laws_toLeaper (kp_laws_toLeaper 1) fuel [.val] 1 false [[]] 11 [.cell 2 26] b_laws_toLeaper [.agg [.int .i64 p0_0, .int .i64 p0_1]] un_laws_toLeaper = F_laws_toLeaper fuel p0_0 p0_1 (fun r1 r2 => some (r1, r2)) := f_laws_toLeaper fuel p0_0 p0_1 un_laws_toLeaper
theorem m_laws_toLeaper : MeetsO Try.prog 46 o_laws_toLeaper := by
  refine ⟨fun ρ ds K => ?_, ⟨_, meets_run (kp := kp_laws_toLeaper 1) (weak := false) (df := [[]]) tsOk (ook_list (l := O_laws_toLeaper) (fk := E_laws_toLeaper.fk) (List.forall_mem_nil _)) mixed Try.func46 (body := b_laws_toLeaper) (by kernel_rfl) (ntmps := 11) (by kernel_rfl) (rs := [.cell 2 26]) (by kernel_rfl), fun ds out h => ?_⟩, ⟨_, Try.func46, by kernel_rfl, by kernel_rfl⟩⟩
  · show G_laws_toLeaper ds K = (G_laws_toLeaper ds some).bind K
    unfold G_laws_toLeaper
    split
    · cases sh_laws_toLeaper _ _ <;> rfl
    · rfl
  · replace h : G_laws_toLeaper ds some = some out := h
    unfold G_laws_toLeaper at h
    split at h
    · obtain ⟨r, hr, h⟩ := Option.bind_eq_some_iff.1 h
      injection h with h
      subst h
      have hn := (u_laws_toLeaper 0 _ _).trans hr
      rw [runFn_bind (K := un_laws_toLeaper) (K' := some) (f := un_laws_toLeaper) n_laws_toLeaper (fun _ => rfl)] at hn
      obtain ⟨o, h1, h2⟩ := Option.bind_eq_some_iff.1 hn
      rw [un_laws_toLeaper_ok h2] at h1
      exact ⟨0, h1⟩
    · cases h
/-! f20 loop.example.g01239.laws.toPuzzle -/
noncomputable def b_laws_toPuzzle : Code := Try.f20.body.getD .skip
def kp_laws_toPuzzle (g : Nat) : Nat → Option Keep := lk []
def O_laws_toPuzzle : List (FuncId × Ora) := [(40, o_laws_toIntS), (45, o_laws_toBoard), (46, o_laws_toLeaper)]
def E_laws_toPuzzle : Env := ⟨lk O_laws_toPuzzle, fun _ => false⟩
def S_laws_toPuzzle_e {ρ : Type} (p0_0 : Int) (p0_1 : Int) (p0_2 : List Int) (p0_3 : Int) (p0_4 : Int) (p0_5 : List Int)   (K : Int → Int → List Int → Int → Int → List Int → Option ρ) : Option ρ :=
  ((sh_laws_toBoard p0_0 p0_1 p0_2).bind fun r1 => ((sh_laws_toLeaper p0_3 p0_4).bind fun r2 => ((sh_laws_toIntS p0_5).bind fun r3 => K r1.1 r1.2.1 r1.2.2 r2.1 r2.2 r3)))
theorem s_laws_toPuzzle_e {ρ : Type} (g fuel : Nat) (p0_0 : Int) (p0_1 : Int) (p0_2 : List Int) (p0_3 : Int) (p0_4 : Int) (p0_5 : List Int) (Kk : Out → Option ρ) : runFn TT E_laws_toPuzzle (kp_laws_toPuzzle g) fuel [.val] 1 false [[]] 17 [.cell 2 40] b_laws_toPuzzle [.agg [.int .i64 p0_0, .int .i64 p0_1, .sl (.ints .i64 p0_2), .int .i64 p0_3, .int .i64 p0_4, .sl (.ints .i64 p0_5)]] Kk = S_laws_toPuzzle_e p0_0 p0_1 p0_2 p0_3 p0_4 p0_5   (fun r1 r2 r3 r4 r5 r6 => Kk ⟨[.agg [.int .i64 r1, .int .i64 r2, .sl (.ints .i64 r3), .int .i64 r4, .int .i64 r5, .sl (.ints .i64 r6)]], []⟩) := by
  kernel_rfl
def F_laws_toPuzzle {ρ : Type} (fuel : Nat) (p0_0 : Int) (p0_1 : Int) (p0_2 : List Int) (p0_3 : Int) (p0_4 : Int) (p0_5 : List Int)  (K : Int → Int → List Int → Int → Int → List Int → Option ρ) : Option ρ := S_laws_toPuzzle_e p0_0 p0_1 p0_2 p0_3 p0_4 p0_5   K
theorem f_laws_toPuzzle {ρ : Type} (fuel : Nat) (p0_0 : Int) (p0_1 : Int) (p0_2 : List Int) (p0_3 : Int) (p0_4 : Int) (p0_5 : List Int) (Kk : Out → Option ρ) : runFn TT E_laws_toPuzzle (kp_laws_toPuzzle 1) fuel [.val] 1 false [[]] 17 [.cell 2 40] b_laws_toPuzzle [.agg [.int .i64 p0_0, .int .i64 p0_1, .sl (.ints .i64 p0_2), .int .i64 p0_3, .int .i64 p0_4, .sl (.ints .i64 p0_5)]] Kk = F_laws_toPuzzle fuel p0_0 p0_1 p0_2 p0_3 p0_4 p0_5 (fun r1 r2 r3 r4 r5 r6 => Kk ⟨[.agg [.int .i64 r1, .int .i64 r2, .sl (.ints .i64 r3), .int .i64 r4, .int .i64 r5, .sl (.ints .i64 r6)]], []⟩) := by
  rw [s_laws_toPuzzle_e, F_laws_toPuzzle]
noncomputable def sh_laws_toPuzzle (p0_0 : Int) (p0_1 : Int) (p0_2 : List Int) (p0_3 : Int) (p0_4 : Int) (p0_5 : List Int) : Option (Int × Int × List Int × Int × Int × List Int) := F_laws_toPuzzle 0 p0_0 p0_1 p0_2 p0_3 p0_4 p0_5 (fun r1 r2 r3 r4 r5 r6 => some (r1, r2, r3, r4, r5, r6))
noncomputable def G_laws_toPuzzle {ρ : Type} : List DU → (Out → Option ρ) → Option ρ
  | [.agg [.int .i64 p0_0, .int .i64 p0_1, .sl (.ints .i64 p0_2), .int .i64 p0_3, .int .i64 p0_4, .sl (.ints .i64 p0_5)]], K => (sh_laws_toPuzzle p0_0 p0_1 p0_2 p0_3 p0_4 p0_5).bind fun r => K ⟨[.agg [.int .i64 r.1, .int .i64 r.2.1, .sl (.ints .i64 r.2.2.1), .int .i64 r.2.2.2.1, .int .i64 r.2.2.2.2.1, .sl (.ints .i64 r.2.2.2.2.2)]], []⟩
  | _, _ => none
noncomputable def o_laws_toPuzzle : Ora := ⟨[.val], 1, false, G_laws_toPuzzle⟩
def un_laws_toPuzzle : Out → Option (Int × Int × List Int × Int × Int × List Int)
  | ⟨[.agg [.int .i64 r1, .int .i64 r2, .sl (.ints .i64 r3), .int .i64 r4, .int .i64 r5, .sl (.ints .i64 r6)]], []⟩ => some (r1, r2, r3, r4, r5, r6)
  | _ => none
theorem un_laws_toPuzzle_ok {o : Out} {r : Int × Int × List Int × Int × Int × List Int} (h : un_laws_toPuzzle o = some r) : o = ⟨[.agg [.int .i64 r.1, .int .i64 r.2.1, .sl (.ints .i64 r.2.2.1), .int .i64 r.2.2.2.1, .int .i64 r.2.2.2.2.1, .sl (.ints .i64 r.2.2.2.2.2)]], []⟩ := by
  unfold un_laws_toPuzzle at h
  split at h
  · injection h with h
    subst h
    rfl
  · cases h
theorem n_laws_toPuzzle : ∀ k o, E_laws_toPuzzle.fn k = some o → Nat1 o := fun k o h => (ook_list (P := Try.prog) (l := O_laws_toPuzzle) (fk := E_laws_toPuzzle.fk) (List.forall_mem_cons.2 ⟨m_laws_toIntS, (List.forall_mem_cons.2 ⟨m_laws_toBoard, (List.forall_mem_cons.2 ⟨m_laws_toLeaper, (List.forall_mem_nil _)⟩)⟩)⟩)).nat k o h
theorem u_laws_toPuzzle (fuel : Nat) (p0_0 : Int) (p0_1 : Int) (p0_2 : List Int) (p0_3 : Int) (p0_4 : Int) (p0_5 : List Int) : runFn TT E_laws_toPuzzle (kp_laws_toPuzzle 1) fuel [.val] 1 false [[]] 17 [.cell 2 40] b_laws_toPuzzle [.agg [.int .i64 p0_0, .int .i64 p0_1, .sl (.ints .i64 p0_2), .int .i64 p0_3, .int .i64 p0_4, .sl (.ints .i64 p0_5)]] un_laws_toPuzzle = F_laws_toPuzzle fuel p0_0 p0_1 p0_2 p0_3 p0_4 p0_5 (fun r1 r2 r3 r4 r5 r6 => some (r1, r2, r3, r4, r5, r6)) := f_laws_toPuzzle fuel p0_0 p0_1 p0_2 p0_3 p0_4 p0_5 un_laws_toPuzzle
theorem m_laws_toPuzzle : MeetsO Try.prog 20 o_laws_toPuzzle := by
  refine ⟨fun ρ ds K => ?_, ⟨_, meets_run (kp := kp_laws_toPuzzle 1) (weak := false) (df := [[]]) tsOk (ook_list (l := O_laws_toPuzzle) (fk := E_laws_toPuzzle.fk) (List.forall_mem_cons.2 ⟨m_laws_toIntS, (List.forall_mem_cons.2 ⟨m_laws_toBoard, (List.forall_mem_cons.2 ⟨m_laws_toLeaper, (List.forall_mem_nil _)⟩)⟩)⟩)) mixed Try.func20 (body := b_laws_toPuzzle) (by kernel_rfl) (ntmps := 17) (by kernel_rfl) (rs := [.cell 2 40]) (by kernel_rfl), fun ds out h => ?_⟩, ⟨_, Try.func20, by kernel_rfl, by kernel_rfl⟩⟩
  · show G_laws_toPuzzle ds K = (G_laws_toPuzzle ds some).bind K
    unfold G_laws_toPuzzle
    split
    · cases sh_laws_toPuzzle _ _ _ _ _ _ <;> rfl
    · rfl
  · replace h : G_laws_toPuzzle ds some = some out := h
    unfold G_laws_toPuzzle at h
    split at h
    · obtain ⟨r, hr, h⟩ := Option.bind_eq_some_iff.1 h
      injection h with h
      subst h
      have hn := (u_laws_toPuzzle 0 _ _ _ _ _ _).trans hr
      rw [runFn_bind (K := un_laws_toPuzzle) (K' := some) (f := un_laws_toPuzzle) n_laws_toPuzzle (fun _ => rfl)] at hn
      obtain ⟨o, h1, h2⟩ := Option.bind_eq_some_iff.1 hn
      rw [un_laws_toPuzzle_ok h2] at h1
      exact ⟨0, h1⟩
    · cases h
/-! f75 loop.example.g01239.spec.l1In -/
noncomputable def b_spec_l1In : Code := Try.f75.body.getD .skip
def kp_spec_l1In (g : Nat) : Nat → Option Keep := lk []
def O_spec_l1In : List (FuncId × Ora) := []
def E_spec_l1In : Env := ⟨lk O_spec_l1In, fun _ => false⟩
def S_spec_l1In_e {ρ : Type} (p0 : Int) (p1 : Int) (p2 : Int)   (K : Bool → Option ρ) : Option ρ :=
  (bif decide (p0 ≥ p1) then K (decide (p0 ≤ p2)) else K false)
theorem s_spec_l1In_e {ρ : Type} (g fuel : Nat) (p0 : Int) (p1 : Int) (p2 : Int) (Kk : Out → Option ρ) : runFn TT E_spec_l1In (kp_spec_l1In g) fuel [.val, .val, .val] 3 false [[]] 15 [.tmp 6] b_spec_l1In [.x (.int .i64 p0), .x (.int .i64 p1), .x (.int .i64 p2)] Kk = S_spec_l1In_e p0 p1 p2   (fun r1 => Kk ⟨[.x (.bool r1)], []⟩) := by
  kernel_rfl
def F_spec_l1In {ρ : Type} (fuel : Nat) (p0 : Int) (p1 : Int) (p2 : Int)  (K : Bool → Option ρ) : Option ρ := S_spec_l1In_e p0 p1 p2   K
theorem f_spec_l1In {ρ : Type} (fuel : Nat) (p0 : Int) (p1 : Int) (p2 : Int) (Kk : Out → Option ρ) : runFn TT E_spec_l1In (kp_spec_l1In 1) fuel [.val, .val, .val] 3 false [[]] 15 [.tmp 6] b_spec_l1In [.x (.int .i64 p0), .x (.int .i64 p1), .x (.int .i64 p2)] Kk = F_spec_l1In fuel p0 p1 p2 (fun r1 => Kk ⟨[.x (.bool r1)], []⟩) := by
  rw [s_spec_l1In_e, F_spec_l1In]
noncomputable def sh_spec_l1In (p0 : Int) (p1 : Int) (p2 : Int) : Option (Bool) := F_spec_l1In 0 p0 p1 p2 (fun r1 => some r1)
noncomputable def G_spec_l1In {ρ : Type} : List DU → (Out → Option ρ) → Option ρ
  | [.x (.int .i64 p0), .x (.int .i64 p1), .x (.int .i64 p2)], K => (sh_spec_l1In p0 p1 p2).bind fun r => K ⟨[.x (.bool r)], []⟩
  | _, _ => none
noncomputable def o_spec_l1In : Ora := ⟨[.val, .val, .val], 3, false, G_spec_l1In⟩
def un_spec_l1In : Out → Option (Bool)
  | ⟨[.x (.bool r1)], []⟩ => some r1
  | _ => none
theorem un_spec_l1In_ok {o : Out} {r : Bool} (h : un_spec_l1In o = some r) : o = ⟨[.x (.bool r)], []⟩ := by
  unfold un_spec_l1In at h
  split at h
  · injection h with h
    subst h
    rfl
  · cases h
theorem n_spec_l1In : ∀ k o, E_spec_l1In.fn k = some o → Nat1 o := fun k o h => (ook_list (P := Try.prog) (l := O_spec_l1In) (fk := E_spec_l1In.fk) (List.forall_mem_nil _)).nat k o h
theorem u_spec_l1In (fuel : Nat) (p0 : Int) (p1 : Int) (p2 : Int) : runFn TT E_spec_l1In (kp_spec_l1In 1) fuel [.val, .val, .val] 3 false [[]] 15 [.tmp 6] b_spec_l1In [.x (.int .i64 p0), .x (.int .i64 p1), .x (.int .i64 p2)] un_spec_l1In = F_spec_l1In fuel p0 p1 p2 (fun r1 => some r1) := f_spec_l1In fuel p0 p1 p2 un_spec_l1In
theorem m_spec_l1In : MeetsO Try.prog 75 o_spec_l1In := by
  refine ⟨fun ρ ds K => ?_, ⟨_, meets_run (kp := kp_spec_l1In 1) (weak := false) (df := [[]]) tsOk (ook_list (l := O_spec_l1In) (fk := E_spec_l1In.fk) (List.forall_mem_nil _)) mixed Try.func75 (body := b_spec_l1In) (by kernel_rfl) (ntmps := 15) (by kernel_rfl) (rs := [.tmp 6]) (by kernel_rfl), fun ds out h => ?_⟩, ⟨_, Try.func75, by kernel_rfl, by kernel_rfl⟩⟩
  · show G_spec_l1In ds K = (G_spec_l1In ds some).bind K
    unfold G_spec_l1In
    split
    · cases sh_spec_l1In _ _ _ <;> rfl
    · rfl
  · replace h : G_spec_l1In ds some = some out := h
    unfold G_spec_l1In at h
    split at h
    · obtain ⟨r, hr, h⟩ := Option.bind_eq_some_iff.1 h
      injection h with h
      subst h
      have hn := (u_spec_l1In 0 _ _ _).trans hr
      rw [runFn_bind (K := un_spec_l1In) (K' := some) (f := un_spec_l1In) n_spec_l1In (fun _ => rfl)] at hn
      obtain ⟨o, h1, h2⟩ := Option.bind_eq_some_iff.1 hn
      rw [un_spec_l1In_ok h2] at h1
      exact ⟨0, h1⟩
    · cases h
/-! f99 loop.example.g01239.spec.boSize -/
noncomputable def b_spec_boSize : Code := Try.f99.body.getD .skip
def kp_spec_boSize (g : Nat) : Nat → Option Keep := lk []
def O_spec_boSize : List (FuncId × Ora) := [(75, o_spec_l1In)]
def E_spec_boSize : Env := ⟨lk O_spec_boSize, fun _ => false⟩
def S_spec_boSize_e {ρ : Type} (p0 : Int) (p1 : Int)   (K : Bool → Option ρ) : Option ρ :=
  ((sh_spec_l1In p0 (1 : Int) (8 : Int)).bind fun r1 => (bif r1 then ((sh_spec_l1In p1 (1 : Int) (8 : Int)).bind fun r2 => K r2) else K false))
theorem s_spec_boSize_e {ρ : Type} (g fuel : Nat) (p0 : Int) (p1 : Int) (Kk : Out → Option ρ) : runFn TT E_spec_boSize (kp_spec_boSize g) fuel [.val, .val] 2 false [[]] 11 [.tmp 4] b_spec_boSize [.x (.int .i64 p0), .x (.int .i64 p1)] Kk = S_spec_boSize_e p0 p1   (fun r1 => Kk ⟨[.x (.bool r1)], []⟩) := by
  kernel_rfl
def F_spec_boSize {ρ : Type} (fuel : Nat) (p0 : Int) (p1 : Int)  (K : Bool → Option ρ) : Option ρ := S_spec_boSize_e p0 p1   K
theorem f_spec_boSize {ρ : Type} (fuel : Nat) (p0 : Int) (p1 : Int) (Kk : Out → Option ρ) : runFn TT E_spec_boSize (kp_spec_boSize 1) fuel [.val, .val] 2 false [[]] 11 [.tmp 4] b_spec_boSize [.x (.int .i64 p0), .x (.int .i64 p1)] Kk = F_spec_boSize fuel p0 p1 (fun r1 => Kk ⟨[.x (.bool r1)], []⟩) := by
  rw [s_spec_boSize_e, F_spec_boSize]
noncomputable def sh_spec_boSize (p0 : Int) (p1 : Int) : Option (Bool) := F_spec_boSize 0 p0 p1 (fun r1 => some r1)
noncomputable def G_spec_boSize {ρ : Type} : List DU → (Out → Option ρ) → Option ρ
  | [.x (.int .i64 p0), .x (.int .i64 p1)], K => (sh_spec_boSize p0 p1).bind fun r => K ⟨[.x (.bool r)], []⟩
  | _, _ => none
noncomputable def o_spec_boSize : Ora := ⟨[.val, .val], 2, false, G_spec_boSize⟩
def un_spec_boSize : Out → Option (Bool)
  | ⟨[.x (.bool r1)], []⟩ => some r1
  | _ => none
theorem un_spec_boSize_ok {o : Out} {r : Bool} (h : un_spec_boSize o = some r) : o = ⟨[.x (.bool r)], []⟩ := by
  unfold un_spec_boSize at h
  split at h
  · injection h with h
    subst h
    rfl
  · cases h
theorem n_spec_boSize : ∀ k o, E_spec_boSize.fn k = some o → Nat1 o := fun k o h => (ook_list (P := Try.prog) (l := O_spec_boSize) (fk := E_spec_boSize.fk) (List.forall_mem_cons.2 ⟨m_spec_l1In, (List.forall_mem_nil _)⟩)).nat k o h
theorem u_spec_boSize (fuel : Nat) (p0 : Int) (p1 : Int) : runFn TT E_spec_boSize (kp_spec_boSize 1) fuel [.val, .val] 2 false [[]] 11 [.tmp 4] b_spec_boSize [.x (.int .i64 p0), .x (.int .i64 p1)] un_spec_boSize = F_spec_boSize fuel p0 p1 (fun r1 => some r1) := f_spec_boSize fuel p0 p1 un_spec_boSize
theorem m_spec_boSize : MeetsO Try.prog 99 o_spec_boSize := by
  refine ⟨fun ρ ds K => ?_, ⟨_, meets_run (kp := kp_spec_boSize 1) (weak := false) (df := [[]]) tsOk (ook_list (l := O_spec_boSize) (fk := E_spec_boSize.fk) (List.forall_mem_cons.2 ⟨m_spec_l1In, (List.forall_mem_nil _)⟩)) mixed Try.func99 (body := b_spec_boSize) (by kernel_rfl) (ntmps := 11) (by kernel_rfl) (rs := [.tmp 4]) (by kernel_rfl), fun ds out h => ?_⟩, ⟨_, Try.func99, by kernel_rfl, by kernel_rfl⟩⟩
  · show G_spec_boSize ds K = (G_spec_boSize ds some).bind K
    unfold G_spec_boSize
    split
    · cases sh_spec_boSize _ _ <;> rfl
    · rfl
  · replace h : G_spec_boSize ds some = some out := h
    unfold G_spec_boSize at h
    split at h
    · obtain ⟨r, hr, h⟩ := Option.bind_eq_some_iff.1 h
      injection h with h
      subst h
      have hn := (u_spec_boSize 0 _ _).trans hr
      rw [runFn_bind (K := un_spec_boSize) (K' := some) (f := un_spec_boSize) n_spec_boSize (fun _ => rfl)] at hn
      obtain ⟨o, h1, h2⟩ := Option.bind_eq_some_iff.1 hn
      rw [un_spec_boSize_ok h2] at h1
      exact ⟨0, h1⟩
    · cases h
/-! f100 loop.example.g01239.spec.l1All -/
noncomputable def b_spec_l1All : Code := Try.f100.body.getD .skip
def kp_spec_l1All (g : Nat) : Nat → Option Keep := lk [(2, ⟨[], [1, 2, 9, 10, 11], [], [], [], g⟩)]
def O_spec_l1All : List (FuncId × Ora) := [(75, o_spec_l1In)]
def E_spec_l1All : Env := ⟨lk O_spec_l1All, fun _ => false⟩
noncomputable def D_spec_l1All_0 {ρ : Type} (g fuel : Nat) (p0 : List Int) (p1 : Int) (p2 : Int) (n : Nat) (v1 : Int) (v2 : Int) (v9 : List Int) (v10 : Int) (v11 : Int) (Kk : Out → Option ρ) : Option ρ :=
  iter (run TT E_spec_l1All (kp_spec_l1All g) fuel (cL (cB (cS2 (cS1 (cS2 (b_spec_l1All))))))) (nrmAt (kp_spec_l1All g) (firstRid (cL (cB (cS2 (cS1 (cS2 (b_spec_l1All)))))))) n (⟨[uu, .u (.x (.int .i64 v1)), .u (.x (.int .i64 v2)), uu, uu, uu, uu, uu, uu, .u (.x (.ro (.ints .i64 v9))), .u (.x (.int .i64 v10)), .u (.x (.int .i64 v11)), uu, uu, uu, uu, uu, uu, uu, uu, uu], [], [], []⟩) (blkK 0 (seqK (gateAt (kp_spec_l1All g) (200000 + firstRid (cS2 (cS2 (b_spec_l1All))))) (run TT E_spec_l1All (kp_spec_l1All g) fuel (cS2 (cS2 (b_spec_l1All)))) (nrmAt (kp_spec_l1All g) (200000 + firstRid (cS2 (cS2 (b_spec_l1All))))) (topK TT [.val, .val, .val] false [[]] [.tmp 6] [.x (.sl (.ints .i64 p0)), .x (.int .i64 p1), .x (.int .i64 p2)] Kk)))
def S_spec_l1All_e {ρ : Type} (p0 : List Int) (p1 : Int) (p2 : Int)  (k0 : (Int → Int → List Int → Int → Int → Option ρ)) : Option ρ :=
  k0 p1 p2 p0 (p0.length : Int) (0 : Int)
theorem s_spec_l1All_e {ρ : Type} (g fuel : Nat) (p0 : List Int) (p1 : Int) (p2 : Int) (Kk : Out → Option ρ) : runFn TT E_spec_l1All (kp_spec_l1All g) fuel [.val, .val, .val] 3 false [[]] 21 [.tmp 6] b_spec_l1All [.x (.sl (.ints .i64 p0)), .x (.int .i64 p1), .x (.int .i64 p2)] Kk = S_spec_l1All_e p0 p1 p2  (fun v1 v2 v9 v10 v11 => D_spec_l1All_0 g fuel p0 p1 p2 fuel v1 v2 v9 v10 v11 Kk) := by
  kernel_rfl
def S_spec_l1All_0 {ρ : Type}  (v1 : Int) (v2 : Int) (v9 : List Int) (v10 : Int) (v11 : Int) (b0 : (Int → Int → List Int → Int → Int → Option ρ)) (K : Bool → Option ρ) : Option ρ :=
  (bif decide (v11 < v10) then (if 0 ≤ v11 then (if v11 < (v9.length : Int) then ((sh_spec_l1In (v9.getD v11.toNat 0) v1 v2).bind fun r1 => (bif !r1 then K false else b0 v1 v2 v9 v10 (IntKind.i64.wrap (v11 + (1 : Int))))) else none) else none) else K true)
theorem s_spec_l1All_0 {ρ : Type} (g fuel : Nat) (p0 : List Int) (p1 : Int) (p2 : Int) (n : Nat) (v1 : Int) (v2 : Int) (v9 : List Int) (v10 : Int) (v11 : Int) (Kk : Out → Option ρ) : D_spec_l1All_0 g fuel p0 p1 p2  (n + 1) v1 v2 v9 v10 v11 Kk = S_spec_l1All_0  v1 v2 v9 v10 v11 (fun v1 v2 v9 v10 v11 => D_spec_l1All_0 g fuel p0 p1 p2 n v1 v2 v9 v10 v11 Kk) (fun r1 => Kk ⟨[.x (.bool r1)], []⟩) := by
  kernel_rfl
def F_spec_l1All_0 {ρ : Type} (fuel : Nat)   (K : Bool → Option ρ) : Nat → Int → Int → List Int → Int → Int → Option ρ
  | 0, _, _, _, _, _ => none
  | n + 1, v1, v2, v9, v10, v11 => S_spec_l1All_0  v1 v2 v9 v10 v11 (F_spec_l1All_0 fuel   K n) K
theorem f_spec_l1All_0 {ρ : Type} (fuel : Nat) (p0 : List Int) (p1 : Int) (p2 : Int) (Kk : Out → Option ρ) : ∀ (n : Nat) (v1 : Int) (v2 : Int) (v9 : List Int) (v10 : Int) (v11 : Int), D_spec_l1All_0 1 fuel p0 p1 p2  n v1 v2 v9 v10 v11 Kk = F_spec_l1All_0 fuel   (fun r1 => Kk ⟨[.x (.bool r1)], []⟩) n v1 v2 v9 v10 v11 := by
  intro n
  induction n with
  | zero => intros; rfl
  | succ n ih =>
    intro v1 v2 v9 v10 v11
    rw [s_spec_l1All_0, F_spec_l1All_0]
    try simp only [ih]
def F_spec_l1All {ρ : Type} (fuel : Nat) (p0 : List Int) (p1 : Int) (p2 : Int)  (K : Bool → Option ρ) : Option ρ := S_spec_l1All_e p0 p1 p2  (F_spec_l1All_0 fuel   K fuel)
theorem f_spec_l1All {ρ : Type} (fuel : Nat) (p0 : List Int) (p1 : Int) (p2 : Int) (Kk : Out → Option ρ) : runFn TT E_spec_l1All (kp_spec_l1All 1) fuel [.val, .val, .val] 3 false [[]] 21 [.tmp 6] b_spec_l1All [.x (.sl (.ints .i64 p0)), .x (.int .i64 p1), .x (.int .i64 p2)] Kk = F_spec_l1All fuel p0 p1 p2 (fun r1 => Kk ⟨[.x (.bool r1)], []⟩) := by
  rw [s_spec_l1All_e, F_spec_l1All]
  try simp only [f_spec_l1All_0]
noncomputable def sh_spec_l1All (p0 : List Int) (p1 : Int) (p2 : Int) : Option (Bool) := val fun n => F_spec_l1All n p0 p1 p2 (fun r1 => some r1)
noncomputable def G_spec_l1All {ρ : Type} : List DU → (Out → Option ρ) → Option ρ
  | [.x (.sl (.ints .i64 p0)), .x (.int .i64 p1), .x (.int .i64 p2)], K => (sh_spec_l1All p0 p1 p2).bind fun r => K ⟨[.x (.bool r)], []⟩
  | _, _ => none
noncomputable def o_spec_l1All : Ora := ⟨[.val, .val, .val], 3, false, G_spec_l1All⟩
def un_spec_l1All : Out → Option (Bool)
  | ⟨[.x (.bool r1)], []⟩ => some r1
  | _ => none
theorem un_spec_l1All_ok {o : Out} {r : Bool} (h : un_spec_l1All o = some r) : o = ⟨[.x (.bool r)], []⟩ := by
  unfold un_spec_l1All at h
  split at h
  · injection h with h
    subst h
    rfl
  · cases h
theorem n_spec_l1All : ∀ k o, E_spec_l1All.fn k = some o → Nat1 o := fun k o h => (ook_list (P := Try.prog) (l := O_spec_l1All) (fk := E_spec_l1All.fk) (List.forall_mem_cons.2 ⟨m_spec_l1In, (List.forall_mem_nil _)⟩)).nat k o h
theorem u_spec_l1All (fuel : Nat) (p0 : List Int) (p1 : Int) (p2 : Int) : runFn TT E_spec_l1All (kp_spec_l1All 1) fuel [.val, .val, .val] 3 false [[]] 21 [.tmp 6] b_spec_l1All [.x (.sl (.ints .i64 p0)), .x (.int .i64 p1), .x (.int .i64 p2)] un_spec_l1All = F_spec_l1All fuel p0 p1 p2 (fun r1 => some r1) := f_spec_l1All fuel p0 p1 p2 un_spec_l1All
theorem sh_spec_l1All_of {n : Nat} {p0 : List Int} {p1 : Int} {p2 : Int} {r : Bool} (h : F_spec_l1All n p0 p1 p2 (fun r1 => some r1) = some r) : sh_spec_l1All p0 p1 p2 = some r := val_of (fun n m r hm h => by rw [← u_spec_l1All] at h ⊢; exact runFn_mono n_spec_l1All hm h) h
theorem m_spec_l1All : MeetsO Try.prog 100 o_spec_l1All := by
  refine ⟨fun ρ ds K => ?_, ⟨_, meets_run (kp := kp_spec_l1All 1) (weak := false) (df := [[]]) tsOk (ook_list (l := O_spec_l1All) (fk := E_spec_l1All.fk) (List.forall_mem_cons.2 ⟨m_spec_l1In, (List.forall_mem_nil _)⟩)) mixed Try.func100 (body := b_spec_l1All) (by kernel_rfl) (ntmps := 21) (by kernel_rfl) (rs := [.tmp 6]) (by kernel_rfl), fun ds out h => ?_⟩, ⟨_, Try.func100, by kernel_rfl, by kernel_rfl⟩⟩
  · show G_spec_l1All ds K = (G_spec_l1All ds some).bind K
    unfold G_spec_l1All
    split
    · cases sh_spec_l1All _ _ _ <;> rfl
    · rfl
  · replace h : G_spec_l1All ds some = some out := h
    unfold G_spec_l1All at h
    split at h
    · obtain ⟨r, hr, h⟩ := Option.bind_eq_some_iff.1 h
      injection h with h
      subst h
      obtain ⟨n, hn⟩ := val_some hr
      replace hn := (u_spec_l1All n _ _ _).trans hn
      rw [runFn_bind (K := un_spec_l1All) (K' := some) (f := un_spec_l1All) n_spec_l1All (fun _ => rfl)] at hn
      obtain ⟨o, h1, h2⟩ := Option.bind_eq_some_iff.1 hn
      rw [un_spec_l1All_ok h2] at h1
      exact ⟨n, h1⟩
    · cases h
/-! f91 loop.example.g01239.spec.boGood -/
noncomputable def b_spec_boGood : Code := Try.f91.body.getD .skip
def kp_spec_boGood (g : Nat) : Nat → Option Keep := lk [(4, ⟨[], [1, 3], [4096], [], [], g⟩)]
def O_spec_boGood : List (FuncId × Ora) := [(99, o_spec_boSize), (100, o_spec_l1All)]
def E_spec_boGood : Env := ⟨lk O_spec_boGood, fun _ => false⟩
noncomputable def D_spec_boGood_0 {ρ : Type} (g fuel : Nat) (p0_0 : Int) (p0_1 : Int) (p0_2 : List Int) (n : Nat) (v3 : Int) (c4096_0 : Int) (c4096_1 : Int) (c4096_2 : List Int) (Kk : Out → Option ρ) : Option ρ :=
  iter (run TT E_spec_boGood (kp_spec_boGood g) fuel (cL (cB (cS2 (cS1 (cS2 (cS2 (b_spec_boGood)))))))) (nrmAt (kp_spec_boGood g) (firstRid (cL (cB (cS2 (cS1 (cS2 (cS2 (b_spec_boGood))))))))) n (⟨[uu, .u (.x (.ptr 4096 0)), uu, .u (.x (.int .i64 v3)), uu, uu, uu, uu, uu, uu, uu, uu, uu, uu, uu, uu, uu, uu, uu, uu, uu, uu, uu, uu, uu, uu, uu, uu, uu, uu, uu, uu, uu, uu, uu, uu, uu, uu, uu, uu, uu, uu, uu, uu, uu, uu, uu, uu, uu, uu, uu, uu], [(4096, [.int .i64 c4096_0, .int .i64 c4096_1, .ro (.ints .i64 c4096_2)])], [], []⟩) (blkK 0 (seqK (gateAt (kp_spec_boGood g) (200000 + firstRid (cS2 (cS2 (cS2 (b_spec_boGood)))))) (run TT E_spec_boGood (kp_spec_boGood g) fuel (cS2 (cS2 (cS2 (b_spec_boGood))))) (nrmAt (kp_spec_boGood g) (200000 + firstRid (cS2 (cS2 (cS2 (b_spec_boGood)))))) (topK TT [.val] false [[]] [.tmp 2] [.agg [.int .i64 p0_0, .int .i64 p0_1, .sl (.ints .i64 p0_2)]] Kk)))
def S_spec_boGood_e {ρ : Type} (p0_0 : Int) (p0_1 : Int) (p0_2 : List Int)  (k0 : (Int → Int → Int → List Int → Option ρ)) (K : Bool → Option ρ) : Option ρ :=
  ((sh_spec_boSize p0_0 p0_1).bind fun r1 => (bif !r1 then K false else (bif decide ((p0_2.length : Int) ≥ (IntKind.i64.wrap (p0_0 * p0_1))) then K false else ((sh_spec_l1All p0_2 (0 : Int) (IntKind.i64.wrap ((IntKind.i64.wrap (p0_0 * p0_1)) - (1 : Int)))).bind fun r2 => (bif !r2 then K false else k0 (1 : Int) p0_0 p0_1 p0_2)))))
theorem s_spec_boGood_e {ρ : Type} (g fuel : Nat) (p0_0 : Int) (p0_1 : Int) (p0_2 : List Int) (Kk : Out → Option ρ) : runFn TT E_spec_boGood (kp_spec_boGood g) fuel [.val] 1 false [[]] 52 [.tmp 2] b_spec_boGood [.agg [.int .i64 p0_0, .int .i64 p0_1, .sl (.ints .i64 p0_2)]] Kk = S_spec_boGood_e p0_0 p0_1 p0_2  (fun v3 c4096_0 c4096_1 c4096_2 => D_spec_boGood_0 g fuel p0_0 p0_1 p0_2 fuel v3 c4096_0 c4096_1 c4096_2 Kk) (fun r1 => Kk ⟨[.x (.bool r1)], []⟩) := by
  kernel_rfl
def S_spec_boGood_0 {ρ : Type}  (v3 : Int) (c4096_0 : Int) (c4096_1 : Int) (c4096_2 : List Int) (b0 : (Int → Int → Int → List Int → Option ρ)) (K : Bool → Option ρ) : Option ρ :=
  (bif decide (v3 < (c4096_2.length : Int)) then (if 0 ≤ (IntKind.i64.wrap (v3 - (1 : Int))) then (if (IntKind.i64.wrap (v3 - (1 : Int))) < (c4096_2.length : Int) then (if 0 ≤ v3 then (if v3 < (c4096_2.length : Int) then (bif decide ((c4096_2.getD ((IntKind.i64.wrap (v3 - (1 : Int))).toNat) 0) ≥ (c4096_2.getD v3.toNat 0)) then K false else b0 (IntKind.i64.wrap (v3 + (1 : Int))) c4096_0 c4096_1 c4096_2) else none) else none) else none) else none) else K true)
theorem s_spec_boGood_0 {ρ : Type} (g fuel : Nat) (p0_0 : Int) (p0_1 : Int) (p0_2 : List Int) (n : Nat) (v3 : Int) (c4096_0 : Int) (c4096_1 : Int) (c4096_2 : List Int) (Kk : Out → Option ρ) : D_spec_boGood_0 g fuel p0_0 p0_1 p0_2  (n + 1) v3 c4096_0 c4096_1 c4096_2 Kk = S_spec_boGood_0  v3 c4096_0 c4096_1 c4096_2 (fun v3 c4096_0 c4096_1 c4096_2 => D_spec_boGood_0 g fuel p0_0 p0_1 p0_2 n v3 c4096_0 c4096_1 c4096_2 Kk) (fun r1 => Kk ⟨[.x (.bool r1)], []⟩) := by
  kernel_rfl
def F_spec_boGood_0 {ρ : Type} (fuel : Nat)   (K : Bool → Option ρ) : Nat → Int → Int → Int → List Int → Option ρ
  | 0, _, _, _, _ => none
  | n + 1, v3, c4096_0, c4096_1, c4096_2 => S_spec_boGood_0  v3 c4096_0 c4096_1 c4096_2 (F_spec_boGood_0 fuel   K n) K
theorem f_spec_boGood_0 {ρ : Type} (fuel : Nat) (p0_0 : Int) (p0_1 : Int) (p0_2 : List Int) (Kk : Out → Option ρ) : ∀ (n : Nat) (v3 : Int) (c4096_0 : Int) (c4096_1 : Int) (c4096_2 : List Int), D_spec_boGood_0 1 fuel p0_0 p0_1 p0_2  n v3 c4096_0 c4096_1 c4096_2 Kk = F_spec_boGood_0 fuel   (fun r1 => Kk ⟨[.x (.bool r1)], []⟩) n v3 c4096_0 c4096_1 c4096_2 := by
  intro n
  induction n with
  | zero => intros; rfl
  | succ n ih =>
    intro v3 c4096_0 c4096_1 c4096_2
    rw [s_spec_boGood_0, F_spec_boGood_0]
    try simp only [ih]
def F_spec_boGood {ρ : Type} (fuel : Nat) (p0_0 : Int) (p0_1 : Int) (p0_2 : List Int)  (K : Bool → Option ρ) : Option ρ := S_spec_boGood_e p0_0 p0_1 p0_2  (F_spec_boGood_0 fuel   K fuel) K
theorem f_spec_boGood {ρ : Type} (fuel : Nat) (p0_0 : Int) (p0_1 : Int) (p0_2 : List Int) (Kk : Out → Option ρ) : runFn TT E_spec_boGood (kp_spec_boGood 1) fuel [.val] 1 false [[]] 52 [.tmp 2] b_spec_boGood [.agg [.int .i64 p0_0, .int .i64 p0_1, .sl (.ints .i64 p0_2)]] Kk = F_spec_boGood fuel p0_0 p0_1 p0_2 (fun r1 => Kk ⟨[.x (.bool r1)], []⟩) := by
  rw [s_spec_boGood_e, F_spec_boGood]
  try simp only [f_spec_boGood_0]
noncomputable def sh_spec_boGood (p0_0 : Int) (p0_1 : Int) (p0_2 : List Int) : Option (Bool) := val fun n => F_spec_boGood n p0_0 p0_1 p0_2 (fun r1 => some r1)
noncomputable def G_spec_boGood {ρ : Type} : List DU → (Out → Option ρ) → Option ρ
  | [.agg [.int .i64 p0_0, .int .i64 p0_1, .sl (.ints .i64 p0_2)]], K => (sh_spec_boGood p0_0 p0_1 p0_2).bind fun r => K ⟨[.x (.bool r)], []⟩
  | _, _ => none
noncomputable def o_spec_boGood : Ora := ⟨[.val], 1, false, G_spec_boGood⟩
def un_spec_boGood : Out → Option (Bool)
  | ⟨[.x (.bool r1)], []⟩ => some r1
  | _ => none
theorem un_spec_boGood_ok {o : Out} {r : Bool} (h : un_spec_boGood o = some r) : o = ⟨[.x (.bool r)], []⟩ := by
  unfold un_spec_boGood at h
  split at h
  · injection h with h
    subst h
    rfl
  · cases h
theorem n_spec_boGood : ∀ k o, E_spec_boGood.fn k = some o → Nat1 o := fun k o h => (ook_list (P := Try.prog) (l := O_spec_boGood) (fk := E_spec_boGood.fk) (List.forall_mem_cons.2 ⟨m_spec_boSize, (List.forall_mem_cons.2 ⟨m_spec_l1All, (List.forall_mem_nil _)⟩)⟩)).nat k o h
theorem u_spec_boGood (fuel : Nat) (p0_0 : Int) (p0_1 : Int) (p0_2 : List Int) : runFn TT E_spec_boGood (kp_spec_boGood 1) fuel [.val] 1 false [[]] 52 [.tmp 2] b_spec_boGood [.agg [.int .i64 p0_0, .int .i64 p0_1, .sl (.ints .i64 p0_2)]] un_spec_boGood = F_spec_boGood fuel p0_0 p0_1 p0_2 (fun r1 => some r1) := f_spec_boGood fuel p0_0 p0_1 p0_2 un_spec_boGood
theorem sh_spec_boGood_of {n : Nat} {p0_0 : Int} {p0_1 : Int} {p0_2 : List Int} {r : Bool} (h : F_spec_boGood n p0_0 p0_1 p0_2 (fun r1 => some r1) = some r) : sh_spec_boGood p0_0 p0_1 p0_2 = some r := val_of (fun n m r hm h => by rw [← u_spec_boGood] at h ⊢; exact runFn_mono n_spec_boGood hm h) h
theorem m_spec_boGood : MeetsO Try.prog 91 o_spec_boGood := by
  refine ⟨fun ρ ds K => ?_, ⟨_, meets_run (kp := kp_spec_boGood 1) (weak := false) (df := [[]]) tsOk (ook_list (l := O_spec_boGood) (fk := E_spec_boGood.fk) (List.forall_mem_cons.2 ⟨m_spec_boSize, (List.forall_mem_cons.2 ⟨m_spec_l1All, (List.forall_mem_nil _)⟩)⟩)) mixed Try.func91 (body := b_spec_boGood) (by kernel_rfl) (ntmps := 52) (by kernel_rfl) (rs := [.tmp 2]) (by kernel_rfl), fun ds out h => ?_⟩, ⟨_, Try.func91, by kernel_rfl, by kernel_rfl⟩⟩
  · show G_spec_boGood ds K = (G_spec_boGood ds some).bind K
    unfold G_spec_boGood
    split
    · cases sh_spec_boGood _ _ _ <;> rfl
    · rfl
  · replace h : G_spec_boGood ds some = some out := h
    unfold G_spec_boGood at h
    split at h
    · obtain ⟨r, hr, h⟩ := Option.bind_eq_some_iff.1 h
      injection h with h
      subst h
      obtain ⟨n, hn⟩ := val_some hr
      replace hn := (u_spec_boGood n _ _ _).trans hn
      rw [runFn_bind (K := un_spec_boGood) (K' := some) (f := un_spec_boGood) n_spec_boGood (fun _ => rfl)] at hn
      obtain ⟨o, h1, h2⟩ := Option.bind_eq_some_iff.1 hn
      rw [un_spec_boGood_ok h2] at h1
      exact ⟨n, h1⟩
    · cases h
/-! f92 loop.example.g01239.spec.boLeaper -/
noncomputable def b_spec_boLeaper : Code := Try.f92.body.getD .skip
def kp_spec_boLeaper (g : Nat) : Nat → Option Keep := lk []
def O_spec_boLeaper : List (FuncId × Ora) := [(75, o_spec_l1In)]
def E_spec_boLeaper : Env := ⟨lk O_spec_boLeaper, fun _ => false⟩
def S_spec_boLeaper_e {ρ : Type} (p0_0 : Int) (p0_1 : Int)   (K : Bool → Option ρ) : Option ρ :=
  ((sh_spec_l1In p0_1 (1 : Int) (5 : Int)).bind fun r1 => (bif r1 then ((sh_spec_l1In p0_0 (0 : Int) p0_1).bind fun r2 => K r2) else K false))
theorem s_spec_boLeaper_e {ρ : Type} (g fuel : Nat) (p0_0 : Int) (p0_1 : Int) (Kk : Out → Option ρ) : runFn TT E_spec_boLeaper (kp_spec_boLeaper g) fuel [.val] 1 false [[]] 13 [.tmp 2] b_spec_boLeaper [.agg [.int .i64 p0_0, .int .i64 p0_1]] Kk = S_spec_boLeaper_e p0_0 p0_1   (fun r1 => Kk ⟨[.x (.bool r1)], []⟩) := by
  kernel_rfl
def F_spec_boLeaper {ρ : Type} (fuel : Nat) (p0_0 : Int) (p0_1 : Int)  (K : Bool → Option ρ) : Option ρ := S_spec_boLeaper_e p0_0 p0_1   K
theorem f_spec_boLeaper {ρ : Type} (fuel : Nat) (p0_0 : Int) (p0_1 : Int) (Kk : Out → Option ρ) : runFn TT E_spec_boLeaper (kp_spec_boLeaper 1) fuel [.val] 1 false [[]] 13 [.tmp 2] b_spec_boLeaper [.agg [.int .i64 p0_0, .int .i64 p0_1]] Kk = F_spec_boLeaper fuel p0_0 p0_1 (fun r1 => Kk ⟨[.x (.bool r1)], []⟩) := by
  rw [s_spec_boLeaper_e, F_spec_boLeaper]
noncomputable def sh_spec_boLeaper (p0_0 : Int) (p0_1 : Int) : Option (Bool) := F_spec_boLeaper 0 p0_0 p0_1 (fun r1 => some r1)
noncomputable def G_spec_boLeaper {ρ : Type} : List DU → (Out → Option ρ) → Option ρ
  | [.agg [.int .i64 p0_0, .int .i64 p0_1]], K => (sh_spec_boLeaper p0_0 p0_1).bind fun r => K ⟨[.x (.bool r)], []⟩
  | _, _ => none
noncomputable def o_spec_boLeaper : Ora := ⟨[.val], 1, false, G_spec_boLeaper⟩
def un_spec_boLeaper : Out → Option (Bool)
  | ⟨[.x (.bool r1)], []⟩ => some r1
  | _ => none
theorem un_spec_boLeaper_ok {o : Out} {r : Bool} (h : un_spec_boLeaper o = some r) : o = ⟨[.x (.bool r)], []⟩ := by
  unfold un_spec_boLeaper at h
  split at h
  · injection h with h
    subst h
    rfl
  · cases h
theorem n_spec_boLeaper : ∀ k o, E_spec_boLeaper.fn k = some o → Nat1 o := fun k o h => (ook_list (P := Try.prog) (l := O_spec_boLeaper) (fk := E_spec_boLeaper.fk) (List.forall_mem_cons.2 ⟨m_spec_l1In, (List.forall_mem_nil _)⟩)).nat k o h
theorem u_spec_boLeaper (fuel : Nat) (p0_0 : Int) (p0_1 : Int) : runFn TT E_spec_boLeaper (kp_spec_boLeaper 1) fuel [.val] 1 false [[]] 13 [.tmp 2] b_spec_boLeaper [.agg [.int .i64 p0_0, .int .i64 p0_1]] un_spec_boLeaper = F_spec_boLeaper fuel p0_0 p0_1 (fun r1 => some r1) := f_spec_boLeaper fuel p0_0 p0_1 un_spec_boLeaper
theorem m_spec_boLeaper : MeetsO Try.prog 92 o_spec_boLeaper := by
  refine ⟨fun ρ ds K => ?_, ⟨_, meets_run (kp := kp_spec_boLeaper 1) (weak := false) (df := [[]]) tsOk (ook_list (l := O_spec_boLeaper) (fk := E_spec_boLeaper.fk) (List.forall_mem_cons.2 ⟨m_spec_l1In, (List.forall_mem_nil _)⟩)) mixed Try.func92 (body := b_spec_boLeaper) (by kernel_rfl) (ntmps := 13) (by kernel_rfl) (rs := [.tmp 2]) (by kernel_rfl), fun ds out h => ?_⟩, ⟨_, Try.func92, by kernel_rfl, by kernel_rfl⟩⟩
  · show G_spec_boLeaper ds K = (G_spec_boLeaper ds some).bind K
    unfold G_spec_boLeaper
    split
    · cases sh_spec_boLeaper _ _ <;> rfl
    · rfl
  · replace h : G_spec_boLeaper ds some = some out := h
    unfold G_spec_boLeaper at h
    split at h
    · obtain ⟨r, hr, h⟩ := Option.bind_eq_some_iff.1 h
      injection h with h
      subst h
      have hn := (u_spec_boLeaper 0 _ _).trans hr
      rw [runFn_bind (K := un_spec_boLeaper) (K' := some) (f := un_spec_boLeaper) n_spec_boLeaper (fun _ => rfl)] at hn
      obtain ⟨o, h1, h2⟩ := Option.bind_eq_some_iff.1 hn
      rw [un_spec_boLeaper_ok h2] at h1
      exact ⟨0, h1⟩
    · cases h
/-! f74 loop.example.g01239.spec.boTwo -/
noncomputable def b_spec_boTwo : Code := Try.f74.body.getD .skip
def kp_spec_boTwo (g : Nat) : Nat → Option Keep := lk []
def O_spec_boTwo : List (FuncId × Ora) := [(91, o_spec_boGood), (92, o_spec_boLeaper)]
def E_spec_boTwo : Env := ⟨lk O_spec_boTwo, fun _ => false⟩
def S_spec_boTwo_e {ρ : Type} (p0_0 : Int) (p0_1 : Int) (p0_2 : List Int) (p1_0 : Int) (p1_1 : Int)   (K : Bool → Option ρ) : Option ρ :=
  ((sh_spec_boGood p0_0 p0_1 p0_2).bind fun r1 => (bif r1 then ((sh_spec_boLeaper p1_0 p1_1).bind fun r2 => K r2) else K false))
theorem s_spec_boTwo_e {ρ : Type} (g fuel : Nat) (p0_0 : Int) (p0_1 : Int) (p0_2 : List Int) (p1_0 : Int) (p1_1 : Int) (Kk : Out → Option ρ) : runFn TT E_spec_boTwo (kp_spec_boTwo g) fuel [.val, .val] 2 false [[]] 11 [.tmp 4] b_spec_boTwo [.agg [.int .i64 p0_0, .int .i64 p0_1, .sl (.ints .i64 p0_2)], .agg [.int .i64 p1_0, .int .i64 p1_1]] Kk = S_spec_boTwo_e p0_0 p0_1 p0_2 p1_0 p1_1   (fun r1 => Kk ⟨[.x (.bool r1)], []⟩) := by
  kernel_rfl
def F_spec_boTwo {ρ : Type} (fuel : Nat) (p0_0 : Int) (p0_1 : Int) (p0_2 : List Int) (p1_0 : Int) (p1_1 : Int)  (K : Bool → Option ρ) : Option ρ := S_spec_boTwo_e p0_0 p0_1 p0_2 p1_0 p1_1   K
theorem f_spec_boTwo {ρ : Type} (fuel : Nat) (p0_0 : Int) (p0_1 : Int) (p0_2 : List Int) (p1_0 : Int) (p1_1 : Int) (Kk : Out → Option ρ) : runFn TT E_spec_boTwo (kp_spec_boTwo 1) fuel [.val, .val] 2 false [[]] 11 [.tmp 4] b_spec_boTwo [.agg [.int .i64 p0_0, .int .i64 p0_1, .sl (.ints .i64 p0_2)], .agg [.int .i64 p1_0, .int .i64 p1_1]] Kk = F_spec_boTwo fuel p0_0 p0_1 p0_2 p1_0 p1_1 (fun r1 => Kk ⟨[.x (.bool r1)], []⟩) := by
  rw [s_spec_boTwo_e, F_spec_boTwo]
noncomputable def sh_spec_boTwo (p0_0 : Int) (p0_1 : Int) (p0_2 : List Int) (p1_0 : Int) (p1_1 : Int) : Option (Bool) := F_spec_boTwo 0 p0_0 p0_1 p0_2 p1_0 p1_1 (fun r1 => some r1)
noncomputable def G_spec_boTwo {ρ : Type} : List DU → (Out → Option ρ) → Option ρ
  | [.agg [.int .i64 p0_0, .int .i64 p0_1, .sl (.ints .i64 p0_2)], .agg [.int .i64 p1_0, .int .i64 p1_1]], K => (sh_spec_boTwo p0_0 p0_1 p0_2 p1_0 p1_1).bind fun r => K ⟨[.x (.bool r)], []⟩
  | _, _ => none
noncomputable def o_spec_boTwo : Ora := ⟨[.val, .val], 2, false, G_spec_boTwo⟩
def un_spec_boTwo : Out → Option (Bool)
  | ⟨[.x (.bool r1)], []⟩ => some r1
  | _ => none
theorem un_spec_boTwo_ok {o : Out} {r : Bool} (h : un_spec_boTwo o = some r) : o = ⟨[.x (.bool r)], []⟩ := by
  unfold un_spec_boTwo at h
  split at h
  · injection h with h
    subst h
    rfl
  · cases h
theorem n_spec_boTwo : ∀ k o, E_spec_boTwo.fn k = some o → Nat1 o := fun k o h => (ook_list (P := Try.prog) (l := O_spec_boTwo) (fk := E_spec_boTwo.fk) (List.forall_mem_cons.2 ⟨m_spec_boGood, (List.forall_mem_cons.2 ⟨m_spec_boLeaper, (List.forall_mem_nil _)⟩)⟩)).nat k o h
theorem u_spec_boTwo (fuel : Nat) (p0_0 : Int) (p0_1 : Int) (p0_2 : List Int) (p1_0 : Int) (p1_1 : Int) : runFn TT E_spec_boTwo (kp_spec_boTwo 1) fuel [.val, .val] 2 false [[]] 11 [.tmp 4] b_spec_boTwo [.agg [.int .i64 p0_0, .int .i64 p0_1, .sl (.ints .i64 p0_2)], .agg [.int .i64 p1_0, .int .i64 p1_1]] un_spec_boTwo = F_spec_boTwo fuel p0_0 p0_1 p0_2 p1_0 p1_1 (fun r1 => some r1) := f_spec_boTwo fuel p0_0 p0_1 p0_2 p1_0 p1_1 un_spec_boTwo
theorem m_spec_boTwo : MeetsO Try.prog 74 o_spec_boTwo := by
  refine ⟨fun ρ ds K => ?_, ⟨_, meets_run (kp := kp_spec_boTwo 1) (weak := false) (df := [[]]) tsOk (ook_list (l := O_spec_boTwo) (fk := E_spec_boTwo.fk) (List.forall_mem_cons.2 ⟨m_spec_boGood, (List.forall_mem_cons.2 ⟨m_spec_boLeaper, (List.forall_mem_nil _)⟩)⟩)) mixed Try.func74 (body := b_spec_boTwo) (by kernel_rfl) (ntmps := 11) (by kernel_rfl) (rs := [.tmp 4]) (by kernel_rfl), fun ds out h => ?_⟩, ⟨_, Try.func74, by kernel_rfl, by kernel_rfl⟩⟩
  · show G_spec_boTwo ds K = (G_spec_boTwo ds some).bind K
    unfold G_spec_boTwo
    split
    · cases sh_spec_boTwo _ _ _ _ _ <;> rfl
    · rfl
  · replace h : G_spec_boTwo ds some = some out := h
    unfold G_spec_boTwo at h
    split at h
    · obtain ⟨r, hr, h⟩ := Option.bind_eq_some_iff.1 h
      injection h with h
      subst h
      have hn := (u_spec_boTwo 0 _ _ _ _ _).trans hr
      rw [runFn_bind (K := un_spec_boTwo) (K' := some) (f := un_spec_boTwo) n_spec_boTwo (fun _ => rfl)] at hn
      obtain ⟨o, h1, h2⟩ := Option.bind_eq_some_iff.1 hn
      rw [un_spec_boTwo_ok h2] at h1
      exact ⟨0, h1⟩
    · cases h
/-! f80 loop.example.g01239.spec.l1Has -/
noncomputable def b_spec_l1Has : Code := Try.f80.body.getD .skip
def kp_spec_l1Has (g : Nat) : Nat → Option Keep := lk [(2, ⟨[], [1, 7, 8, 9], [], [], [], g⟩)]
def O_spec_l1Has : List (FuncId × Ora) := []
def E_spec_l1Has : Env := ⟨lk O_spec_l1Has, fun _ => false⟩
noncomputable def D_spec_l1Has_0 {ρ : Type} (g fuel : Nat) (p0 : List Int) (p1 : Int) (n : Nat) (v1 : Int) (v7 : List Int) (v8 : Int) (v9 : Int) (Kk : Out → Option ρ) : Option ρ :=
  iter (run TT E_spec_l1Has (kp_spec_l1Has g) fuel (cL (cB (cS2 (cS1 (cS2 (b_spec_l1Has))))))) (nrmAt (kp_spec_l1Has g) (firstRid (cL (cB (cS2 (cS1 (cS2 (b_spec_l1Has)))))))) n (⟨[uu, .u (.x (.int .i64 v1)), uu, uu, uu, uu, uu, .u (.x (.ro (.ints .i64 v7))), .u (.x (.int .i64 v8)), .u (.x (.int .i64 v9)), uu, uu, uu, uu, uu, uu, uu], [], [], []⟩) (blkK 0 (seqK (gateAt (kp_spec_l1Has g) (200000 + firstRid (cS2 (cS2 (b_spec_l1Has))))) (run TT E_spec_l1Has (kp_spec_l1Has g) fuel (cS2 (cS2 (b_spec_l1Has)))) (nrmAt (kp_spec_l1Has g) (200000 + firstRid (cS2 (cS2 (b_spec_l1Has))))) (topK TT [.val, .val] false [[]] [.tmp 4] [.x (.sl (.ints .i64 p0)), .x (.int .i64 p1)] Kk)))
def S_spec_l1Has_e {ρ : Type} (p0 : List Int) (p1 : Int)  (k0 : (Int → List Int → Int → Int → Option ρ)) : Option ρ :=
  k0 p1 p0 (p0.length : Int) (0 : Int)
theorem s_spec_l1Has_e {ρ : Type} (g fuel : Nat) (p0 : List Int) (p1 : Int) (Kk : Out → Option ρ) : runFn TT E_spec_l1Has (kp_spec_l1Has g) fuel [.val, .val] 2 false [[]] 17 [.tmp 4] b_spec_l1Has [.x (.sl (.ints .i64 p0)), .x (.int .i64 p1)] Kk = S_spec_l1Has_e p0 p1  (fun v1 v7 v8 v9 => D_spec_l1Has_0 g fuel p0 p1 fuel v1 v7 v8 v9 Kk) := by
  kernel_rfl
def S_spec_l1Has_0 {ρ : Type}  (v1 : Int) (v7 : List Int) (v8 : Int) (v9 : Int) (b0 : (Int → List Int → Int → Int → Option ρ)) (K : Bool → Option ρ) : Option ρ :=
  (bif decide (v9 < v8) then (if 0 ≤ v9 then (if v9 < (v7.length : Int) then (bif decide ((v7.getD v9.toNat 0) = v1) then K true else b0 v1 v7 v8 (IntKind.i64.wrap (v9 + (1 : Int)))) else none) else none) else K false)
theorem s_spec_l1Has_0 {ρ : Type} (g fuel : Nat) (p0 : List Int) (p1 : Int) (n : Nat) (v1 : Int) (v7 : List Int) (v8 : Int) (v9 : Int) (Kk : Out → Option ρ) : D_spec_l1Has_0 g fuel p0 p1  (n + 1) v1 v7 v8 v9 Kk = S_spec_l1Has_0  v1 v7 v8 v9 (fun v1 v7 v8 v9 => D_spec_l1Has_0 g fuel p0 p1 n v1 v7 v8 v9 Kk) (fun r1 => Kk ⟨[.x (.bool r1)], []⟩) := by
  kernel_rfl
def F_spec_l1Has_0 {ρ : Type} (fuel : Nat)   (K : Bool → Option ρ) : Nat → Int → List Int → Int → Int → Option ρ
  | 0, _, _, _, _ => none
  | n + 1, v1, v7, v8, v9 => S_spec_l1Has_0  v1 v7 v8 v9 (F_spec_l1Has_0 fuel   K n) K
theorem f_spec_l1Has_0 {ρ : Type} (fuel : Nat) (p0 : List Int) (p1 : Int) (Kk : Out → Option ρ) : ∀ (n : Nat) (v1 : Int) (v7 : List Int) (v8 : Int) (v9 : Int), D_spec_l1Has_0 1 fuel p0 p1  n v1 v7 v8 v9 Kk = F_spec_l1Has_0 fuel   (fun r1 => Kk ⟨[.x (.bool r1)], []⟩) n v1 v7 v8 v9 := by
  intro n
  induction n with
  | zero => intros; rfl
  | succ n ih =>
    intro v1 v7 v8 v9
    rw [s_spec_l1Has_0, F_spec_l1Has_0]
    try simp only [ih]
def F_spec_l1Has {ρ : Type} (fuel : Nat) (p0 : List Int) (p1 : Int)  (K : Bool → Option ρ) : Option ρ := S_spec_l1Has_e p0 p1  (F_spec_l1Has_0 fuel   K fuel)
theorem f_spec_l1Has {ρ : Type} (fuel : Nat) (p0 : List Int) (p1 : Int) (Kk : Out → Option ρ) : runFn TT E_spec_l1Has (kp_spec_l1Has 1) fuel [.val, .val] 2 false [[]] 17 [.tmp 4] b_spec_l1Has [.x (.sl (.ints .i64 p0)), .x (.int .i64 p1)] Kk = F_spec_l1Has fuel p0 p1 (fun r1 => Kk ⟨[.x (.bool r1)], []⟩) := by
  rw [s_spec_l1Has_e, F_spec_l1Has]
  try simp only [f_spec_l1Has_0]
noncomputable def sh_spec_l1Has (p0 : List Int) (p1 : Int) : Option (Bool) := val fun n => F_spec_l1Has n p0 p1 (fun r1 => some r1)
noncomputable def G_spec_l1Has {ρ : Type} : List DU → (Out → Option ρ) → Option ρ
  | [.x (.sl (.ints .i64 p0)), .x (.int .i64 p1)], K => (sh_spec_l1Has p0 p1).bind fun r => K ⟨[.x (.bool r)], []⟩
  | _, _ => none
noncomputable def o_spec_l1Has : Ora := ⟨[.val, .val], 2, false, G_spec_l1Has⟩
def un_spec_l1Has : Out → Option (Bool)
  | ⟨[.x (.bool r1)], []⟩ => some r1
  | _ => none
theorem un_spec_l1Has_ok {o : Out} {r : Bool} (h : un_spec_l1Has o = some r) : o = ⟨[.x (.bool r)], []⟩ := by
  unfold un_spec_l1Has at h
  split at h
  · injection h with h
    subst h
    rfl
  · cases h
theorem n_spec_l1Has : ∀ k o, E_spec_l1Has.fn k = some o → Nat1 o := fun k o h => (ook_list (P := Try.prog) (l := O_spec_l1Has) (fk := E_spec_l1Has.fk) (List.forall_mem_nil _)).nat k o h
theorem u_spec_l1Has (fuel : Nat) (p0 : List Int) (p1 : Int) : runFn TT E_spec_l1Has (kp_spec_l1Has 1) fuel [.val, .val] 2 false [[]] 17 [.tmp 4] b_spec_l1Has [.x (.sl (.ints .i64 p0)), .x (.int .i64 p1)] un_spec_l1Has = F_spec_l1Has fuel p0 p1 (fun r1 => some r1) := f_spec_l1Has fuel p0 p1 un_spec_l1Has
theorem sh_spec_l1Has_of {n : Nat} {p0 : List Int} {p1 : Int} {r : Bool} (h : F_spec_l1Has n p0 p1 (fun r1 => some r1) = some r) : sh_spec_l1Has p0 p1 = some r := val_of (fun n m r hm h => by rw [← u_spec_l1Has] at h ⊢; exact runFn_mono n_spec_l1Has hm h) h
theorem m_spec_l1Has : MeetsO Try.prog 80 o_spec_l1Has := by
  refine ⟨fun ρ ds K => ?_, ⟨_, meets_run (kp := kp_spec_l1Has 1) (weak := false) (df := [[]]) tsOk (ook_list (l := O_spec_l1Has) (fk := E_spec_l1Has.fk) (List.forall_mem_nil _)) mixed Try.func80 (body := b_spec_l1Has) (by kernel_rfl) (ntmps := 17) (by kernel_rfl) (rs := [.tmp 4]) (by kernel_rfl), fun ds out h => ?_⟩, ⟨_, Try.func80, by kernel_rfl, by kernel_rfl⟩⟩
  · show G_spec_l1Has ds K = (G_spec_l1Has ds some).bind K
    unfold G_spec_l1Has
    split
    · cases sh_spec_l1Has _ _ <;> rfl
    · rfl
  · replace h : G_spec_l1Has ds some = some out := h
    unfold G_spec_l1Has at h
    split at h
    · obtain ⟨r, hr, h⟩ := Option.bind_eq_some_iff.1 h
      injection h with h
      subst h
      obtain ⟨n, hn⟩ := val_some hr
      replace hn := (u_spec_l1Has n _ _).trans hn
      rw [runFn_bind (K := un_spec_l1Has) (K' := some) (f := un_spec_l1Has) n_spec_l1Has (fun _ => rfl)] at hn
      obtain ⟨o, h1, h2⟩ := Option.bind_eq_some_iff.1 hn
      rw [un_spec_l1Has_ok h2] at h1
      exact ⟨n, h1⟩
    · cases h
/-! f79 loop.example.g01239.spec.boHas -/
noncomputable def b_spec_boHas : Code := Try.f79.body.getD .skip
def kp_spec_boHas (g : Nat) : Nat → Option Keep := lk []
def O_spec_boHas : List (FuncId × Ora) := [(75, o_spec_l1In), (80, o_spec_l1Has)]
def E_spec_boHas : Env := ⟨lk O_spec_boHas, fun _ => false⟩
def S_spec_boHas_e {ρ : Type} (p0_0 : Int) (p0_1 : Int) (p0_2 : List Int) (p1 : Int)   (K : Bool → Option ρ) : Option ρ :=
  ((sh_spec_l1In p1 (0 : Int) (IntKind.i64.wrap ((IntKind.i64.wrap (p0_0 * p0_1)) - (1 : Int)))).bind fun r1 => (bif r1 then ((sh_spec_l1Has p0_2 p1).bind fun r2 => K !r2) else K false))
theorem s_spec_boHas_e {ρ : Type} (g fuel : Nat) (p0_0 : Int) (p0_1 : Int) (p0_2 : List Int) (p1 : Int) (Kk : Out → Option ρ) : runFn TT E_spec_boHas (kp_spec_boHas g) fuel [.val, .val] 2 false [[]] 20 [.tmp 4] b_spec_boHas [.agg [.int .i64 p0_0, .int .i64 p0_1, .sl (.ints .i64 p0_2)], .x (.int .i64 p1)] Kk = S_spec_boHas_e p0_0 p0_1 p0_2 p1   (fun r1 => Kk ⟨[.x (.bool r1)], []⟩) := by
  kernel_rfl
def F_spec_boHas {ρ : Type} (fuel : Nat) (p0_0 : Int) (p0_1 : Int) (p0_2 : List Int) (p1 : Int)  (K : Bool → Option ρ) : Option ρ := S_spec_boHas_e p0_0 p0_1 p0_2 p1   K
theorem f_spec_boHas {ρ : Type} (fuel : Nat) (p0_0 : Int) (p0_1 : Int) (p0_2 : List Int) (p1 : Int) (Kk : Out → Option ρ) : runFn TT E_spec_boHas (kp_spec_boHas 1) fuel [.val, .val] 2 false [[]] 20 [.tmp 4] b_spec_boHas [.agg [.int .i64 p0_0, .int .i64 p0_1, .sl (.ints .i64 p0_2)], .x (.int .i64 p1)] Kk = F_spec_boHas fuel p0_0 p0_1 p0_2 p1 (fun r1 => Kk ⟨[.x (.bool r1)], []⟩) := by
  rw [s_spec_boHas_e, F_spec_boHas]
noncomputable def sh_spec_boHas (p0_0 : Int) (p0_1 : Int) (p0_2 : List Int) (p1 : Int) : Option (Bool) := F_spec_boHas 0 p0_0 p0_1 p0_2 p1 (fun r1 => some r1)
noncomputable def G_spec_boHas {ρ : Type} : List DU → (Out → Option ρ) → Option ρ
  | [.agg [.int .i64 p0_0, .int .i64 p0_1, .sl (.ints .i64 p0_2)], .x (.int .i64 p1)], K => (sh_spec_boHas p0_0 p0_1 p0_2 p1).bind fun r => K ⟨[.x (.bool r)], []⟩
  | _, _ => none
noncomputable def o_spec_boHas : Ora := ⟨[.val, .val], 2, false, G_spec_boHas⟩
def un_spec_boHas : Out → Option (Bool)
  | ⟨[.x (.bool r1)], []⟩ => some r1
  | _ => none
theorem un_spec_boHas_ok {o : Out} {r : Bool} (h : un_spec_boHas o = some r) : o = ⟨[.x (.bool r)], []⟩ := by
  unfold un_spec_boHas at h
  split at h
  · injection h with h
    subst h
    rfl
  · cases h
theorem n_spec_boHas : ∀ k o, E_spec_boHas.fn k = some o → Nat1 o := fun k o h => (ook_list (P := Try.prog) (l := O_spec_boHas) (fk := E_spec_boHas.fk) (List.forall_mem_cons.2 ⟨m_spec_l1In, (List.forall_mem_cons.2 ⟨m_spec_l1Has, (List.forall_mem_nil _)⟩)⟩)).nat k o h
theorem u_spec_boHas (fuel : Nat) (p0_0 : Int) (p0_1 : Int) (p0_2 : List Int) (p1 : Int) : runFn TT E_spec_boHas (kp_spec_boHas 1) fuel [.val, .val] 2 false [[]] 20 [.tmp 4] b_spec_boHas [.agg [.int .i64 p0_0, .int .i64 p0_1, .sl (.ints .i64 p0_2)], .x (.int .i64 p1)] un_spec_boHas = F_spec_boHas fuel p0_0 p0_1 p0_2 p1 (fun r1 => some r1) := f_spec_boHas fuel p0_0 p0_1 p0_2 p1 un_spec_boHas
theorem m_spec_boHas : MeetsO Try.prog 79 o_spec_boHas := by
  refine ⟨fun ρ ds K => ?_, ⟨_, meets_run (kp := kp_spec_boHas 1) (weak := false) (df := [[]]) tsOk (ook_list (l := O_spec_boHas) (fk := E_spec_boHas.fk) (List.forall_mem_cons.2 ⟨m_spec_l1In, (List.forall_mem_cons.2 ⟨m_spec_l1Has, (List.forall_mem_nil _)⟩)⟩)) mixed Try.func79 (body := b_spec_boHas) (by kernel_rfl) (ntmps := 20) (by kernel_rfl) (rs := [.tmp 4]) (by kernel_rfl), fun ds out h => ?_⟩, ⟨_, Try.func79, by kernel_rfl, by kernel_rfl⟩⟩
  · show G_spec_boHas ds K = (G_spec_boHas ds some).bind K
    unfold G_spec_boHas
    split
    · cases sh_spec_boHas _ _ _ _ <;> rfl
    · rfl
  · replace h : G_spec_boHas ds some = some out := h
    unfold G_spec_boHas at h
    split at h
    · obtain ⟨r, hr, h⟩ := Option.bind_eq_some_iff.1 h
      injection h with h
      subst h
      have hn := (u_spec_boHas 0 _ _ _ _).trans hr
      rw [runFn_bind (K := un_spec_boHas) (K' := some) (f := un_spec_boHas) n_spec_boHas (fun _ => rfl)] at hn
      obtain ⟨o, h1, h2⟩ := Option.bind_eq_some_iff.1 hn
      rw [un_spec_boHas_ok h2] at h1
      exact ⟨0, h1⟩
    · cases h
/-! f59 loop.example.g01239.spec.boCells -/
noncomputable def b_spec_boCells : Code := Try.f59.body.getD .skip
def kp_spec_boCells (g : Nat) : Nat → Option Keep := lk [(3, ⟨[], [1, 3, 4], [4096], [(3, 16400000)], [], g⟩), (200004, ⟨[], [1, 3, 4], [4096], [(3, 16400064)], [], g⟩)]
def O_spec_boCells : List (FuncId × Ora) := [(79, o_spec_boHas)]
def E_spec_boCells : Env := ⟨lk O_spec_boCells, fun _ => false⟩
noncomputable def D_spec_boCells_0 {ρ : Type} (g fuel : Nat) (p0_0 : Int) (p0_1 : Int) (p0_2 : List Int) (n : Nat) (v3 : List Int) (v4 : Int) (c4096_0 : Int) (c4096_1 : Int) (c4096_2 : List Int) (Kk : Out → Option ρ) : Option ρ :=
  iter (run TT E_spec_boCells (kp_spec_boCells g) fuel (cL (cB (cS2 (cS1 (cS2 (cS2 (b_spec_boCells)))))))) (nrmAt (kp_spec_boCells g) (firstRid (cL (cB (cS2 (cS1 (cS2 (cS2 (b_spec_boCells))))))))) n (⟨[uu, .u (.x (.ptr 4096 0)), uu, .u (.x (.own 16400000 (.ints .i64 v3))), .u (.x (.int .i64 v4)), uu, uu, uu, uu, uu, uu, uu, uu, uu, uu, uu, uu, uu, uu, uu, uu, uu], [(4096, [.int .i64 c4096_0, .int .i64 c4096_1, .ro (.ints .i64 c4096_2)])], [], []⟩) (blkK 0 (seqK (gateAt (kp_spec_boCells g) (200000 + firstRid (cS2 (cS2 (cS2 (b_spec_boCells)))))) (run TT E_spec_boCells (kp_spec_boCells g) fuel (cS2 (cS2 (cS2 (b_spec_boCells))))) (nrmAt (kp_spec_boCells g) (200000 + firstRid (cS2 (cS2 (cS2 (b_spec_boCells)))))) (topK TT [.val] false [[]] [.tmp 2] [.agg [.int .i64 p0_0, .int .i64 p0_1, .sl (.ints .i64 p0_2)]] Kk)))
noncomputable def B_spec_boCells_1 {ρ : Type} (g fuel : Nat) (p0_0 : Int) (p0_1 : Int) (p0_2 : List Int) (n0 : Nat) (v3 : List Int) (v4 : Int) (c4096_0 : Int) (c4096_1 : Int) (c4096_2 : List Int) (Kk : Out → Option ρ) : Option ρ :=
  run TT E_spec_boCells (kp_spec_boCells g) fuel (cS2 (cS2 (cL (cB (cS2 (cS1 (cS2 (cS2 (b_spec_boCells))))))))) (⟨[uu, .u (.x (.ptr 4096 0)), uu, .u (.x (.own 16400064 (.ints .i64 v3))), .u (.x (.int .i64 v4)), uu, uu, uu, uu, uu, uu, uu, uu, uu, uu, uu, uu, uu, uu, uu, uu, uu], [(4096, [.int .i64 c4096_0, .int .i64 c4096_1, .ro (.ints .i64 c4096_2)])], [], []⟩) (itK (run TT E_spec_boCells (kp_spec_boCells g) fuel (cL (cB (cS2 (cS1 (cS2 (cS2 (b_spec_boCells)))))))) (nrmAt (kp_spec_boCells g) (firstRid (cL (cB (cS2 (cS1 (cS2 (cS2 (b_spec_boCells))))))))) n0 (blkK 0 (seqK (gateAt (kp_spec_boCells g) (200000 + firstRid (cS2 (cS2 (cS2 (b_spec_boCells)))))) (run TT E_spec_boCells (kp_spec_boCells g) fuel (cS2 (cS2 (cS2 (b_spec_boCells))))) (nrmAt (kp_spec_boCells g) (200000 + firstRid (cS2 (cS2 (cS2 (b_spec_boCells)))))) (topK TT [.val] false [[]] [.tmp 2] [.agg [.int .i64 p0_0, .int .i64 p0_1, .sl (.ints .i64 p0_2)]] Kk))))
noncomputable def D_spec_boCells_1 {ρ : Type} (g fuel : Nat) (p0_0 : Int) (p0_1 : Int) (p0_2 : List Int) (n0 : Nat) (v3 : List Int) (v4 : Int) (c4096_0 : Int) (c4096_1 : Int) (c4096_2 : List Int) (Kk : Out → Option ρ) : Option ρ := gate g (B_spec_boCells_1 g fuel p0_0 p0_1 p0_2 n0 v3 v4 c4096_0 c4096_1 c4096_2 Kk)
def S_spec_boCells_e {ρ : Type} (p0_0 : Int) (p0_1 : Int) (p0_2 : List Int)  (k0 : (List Int → Int → Int → Int → List Int → Option ρ)) : Option ρ :=
  k0 [] (0 : Int) p0_0 p0_1 p0_2
theorem s_spec_boCells_e {ρ : Type} (g fuel : Nat) (p0_0 : Int) (p0_1 : Int) (p0_2 : List Int) (Kk : Out → Option ρ) : runFn TT E_spec_boCells (kp_spec_boCells g) fuel [.val] 1 false [[]] 22 [.tmp 2] b_spec_boCells [.agg [.int .i64 p0_0, .int .i64 p0_1, .sl (.ints .i64 p0_2)]] Kk = S_spec_boCells_e p0_0 p0_1 p0_2  (fun v3 v4 c4096_0 c4096_1 c4096_2 => D_spec_boCells_0 g fuel p0_0 p0_1 p0_2 fuel v3 v4 c4096_0 c4096_1 c4096_2 Kk) := by
  kernel_rfl
def S_spec_boCells_0 {ρ : Type}  (v3 : List Int) (v4 : Int) (c4096_0 : Int) (c4096_1 : Int) (c4096_2 : List Int) (k1 : (List Int → Int → Int → Int → List Int → Option ρ)) (K : List Int → Option ρ) : Option ρ :=
  (bif decide (v4 < (IntKind.i64.wrap (c4096_0 * c4096_1))) then ((sh_spec_boHas c4096_0 c4096_1 c4096_2 v4).bind fun r1 => (bif r1 then (if (v3 ++ [v4]).length ≤ 1099511627776 then k1 (v3 ++ [v4]) v4 c4096_0 c4096_1 c4096_2 else none) else k1 v3 v4 c4096_0 c4096_1 c4096_2)) else K v3)
theorem s_spec_boCells_0 {ρ : Type} (g fuel : Nat) (p0_0 : Int) (p0_1 : Int) (p0_2 : List Int) (n : Nat) (v3 : List Int) (v4 : Int) (c4096_0 : Int) (c4096_1 : Int) (c4096_2 : List Int) (Kk : Out → Option ρ) : D_spec_boCells_0 g fuel p0_0 p0_1 p0_2  (n + 1) v3 v4 c4096_0 c4096_1 c4096_2 Kk = S_spec_boCells_0  v3 v4 c4096_0 c4096_1 c4096_2 (fun v3 v4 c4096_0 c4096_1 c4096_2 => D_spec_boCells_1 g fuel p0_0 p0_1 p0_2 n v3 v4 c4096_0 c4096_1 c4096_2 Kk) (fun r1 => Kk ⟨[.x (.sl (.ints .i64 r1))], []⟩) := by
  kernel_rfl
def S_spec_boCells_1 {ρ : Type}  (v3 : List Int) (v4 : Int) (c4096_0 : Int) (c4096_1 : Int) (c4096_2 : List Int) (b0 : (List Int → Int → Int → Int → List Int → Option ρ)) : Option ρ :=
  b0 v3 (IntKind.i64.wrap (v4 + (1 : Int))) c4096_0 c4096_1 c4096_2
theorem s_spec_boCells_1 {ρ : Type} (g fuel : Nat) (p0_0 : Int) (p0_1 : Int) (p0_2 : List Int) (n0 : Nat) (v3 : List Int) (v4 : Int) (c4096_0 : Int) (c4096_1 : Int) (c4096_2 : List Int) (Kk : Out → Option ρ) : B_spec_boCells_1 g fuel p0_0 p0_1 p0_2 n0 v3 v4 c4096_0 c4096_1 c4096_2 Kk = S_spec_boCells_1  v3 v4 c4096_0 c4096_1 c4096_2 (fun v3 v4 c4096_0 c4096_1 c4096_2 => D_spec_boCells_0 g fuel p0_0 p0_1 p0_2 n0 v3 v4 c4096_0 c4096_1 c4096_2 Kk) := by
  kernel_rfl
def F_spec_boCells_1 {ρ : Type} (fuel : Nat)  (b0 : (List Int → Int → Int → Int → List Int → Option ρ)) (K : List Int → Option ρ) (v3 : List Int) (v4 : Int) (c4096_0 : Int) (c4096_1 : Int) (c4096_2 : List Int) : Option ρ := S_spec_boCells_1  v3 v4 c4096_0 c4096_1 c4096_2 b0
theorem f_spec_boCells_1 {ρ : Type} (fuel : Nat) (p0_0 : Int) (p0_1 : Int) (p0_2 : List Int) (n0 : Nat) (v3 : List Int) (v4 : Int) (c4096_0 : Int) (c4096_1 : Int) (c4096_2 : List Int) (Kk : Out → Option ρ) : D_spec_boCells_1 1 fuel p0_0 p0_1 p0_2 n0 v3 v4 c4096_0 c4096_1 c4096_2 Kk = F_spec_boCells_1 fuel  (fun v3 v4 c4096_0 c4096_1 c4096_2 => D_spec_boCells_0 1 fuel p0_0 p0_1 p0_2 n0 v3 v4 c4096_0 c4096_1 c4096_2 Kk) (fun r1 => Kk ⟨[.x (.sl (.ints .i64 r1))], []⟩) v3 v4 c4096_0 c4096_1 c4096_2 := by
  rw [D_spec_boCells_1, gate_one, s_spec_boCells_1, F_spec_boCells_1]
def F_spec_boCells_0 {ρ : Type} (fuel : Nat)   (K : List Int → Option ρ) : Nat → List Int → Int → Int → Int → List Int → Option ρ
  | 0, _, _, _, _, _ => none
  | n + 1, v3, v4, c4096_0, c4096_1, c4096_2 => S_spec_boCells_0  v3 v4 c4096_0 c4096_1 c4096_2 (F_spec_boCells_1 fuel  (F_spec_boCells_0 fuel   K n) K) K
theorem f_spec_boCells_0 {ρ : Type} (fuel : Nat) (p0_0 : Int) (p0_1 : Int) (p0_2 : List Int) (Kk : Out → Option ρ) : ∀ (n : Nat) (v3 : List Int) (v4 : Int) (c4096_0 : Int) (c4096_1 : Int) (c4096_2 : List Int), D_spec_boCells_0 1 fuel p0_0 p0_1 p0_2  n v3 v4 c4096_0 c4096_1 c4096_2 Kk = F_spec_boCells_0 fuel   (fun r1 => Kk ⟨[.x (.sl (.ints .i64 r1))], []⟩) n v3 v4 c4096_0 c4096_1 c4096_2 := by
  intro n
  induction n with
  | zero => intros; rfl
  | succ n ih =>
    intro v3 v4 c4096_0 c4096_1 c4096_2
    rw [s_spec_boCells_0, F_spec_boCells_0]
    try simp only [ih, f_spec_boCells_1]
def F_spec_boCells {ρ : Type} (fuel : Nat) (p0_0 : Int) (p0_1 : Int) (p0_2 : List Int)  (K : List Int → Option ρ) : Option ρ := S_spec_boCells_e p0_0 p0_1 p0_2  (F_spec_boCells_0 fuel   K fuel)
theorem f_spec_boCells {ρ : Type} (fuel : Nat) (p0_0 : Int) (p0_1 : Int) (p0_2 : List Int) (Kk : Out → Option ρ) : runFn TT E_spec_boCells (kp_spec_boCells 1) fuel [.val] 1 false [[]] 22 [.tmp 2] b_spec_boCells [.agg [.int .i64 p0_0, .int .i64 p0_1, .sl (.ints .i64 p0_2)]] Kk = F_spec_boCells fuel p0_0 p0_1 p0_2 (fun r1 => Kk ⟨[.x (.sl (.ints .i64 r1))], []⟩) := by
  rw [s_spec_boCells_e, F_spec_boCells]
  try simp only [f_spec_boCells_1, f_spec_boCells_0]
noncomputable def sh_spec_boCells (p0_0 : Int) (p0_1 : Int) (p0_2 : List Int) : Option (List Int) := val fun n => F_spec_boCells n p0_0 p0_1 p0_2 (fun r1 => some r1)
noncomputable def G_spec_boCells {ρ : Type} : List DU → (Out → Option ρ) → Option ρ
  | [.agg [.int .i64 p0_0, .int .i64 p0_1, .sl (.ints .i64 p0_2)]], K => (sh_spec_boCells p0_0 p0_1 p0_2).bind fun r => K ⟨[.x (.sl (.ints .i64 r))], []⟩
  | _, _ => none
noncomputable def o_spec_boCells : Ora := ⟨[.val], 1, false, G_spec_boCells⟩
def un_spec_boCells : Out → Option (List Int)
  | ⟨[.x (.sl (.ints .i64 r1))], []⟩ => some r1
  | _ => none
theorem un_spec_boCells_ok {o : Out} {r : List Int} (h : un_spec_boCells o = some r) : o = ⟨[.x (.sl (.ints .i64 r))], []⟩ := by
  unfold un_spec_boCells at h
  split at h
  · injection h with h
    subst h
    rfl
  · cases h
theorem n_spec_boCells : ∀ k o, E_spec_boCells.fn k = some o → Nat1 o := fun k o h => (ook_list (P := Try.prog) (l := O_spec_boCells) (fk := E_spec_boCells.fk) (List.forall_mem_cons.2 ⟨m_spec_boHas, (List.forall_mem_nil _)⟩)).nat k o h
theorem u_spec_boCells (fuel : Nat) (p0_0 : Int) (p0_1 : Int) (p0_2 : List Int) : runFn TT E_spec_boCells (kp_spec_boCells 1) fuel [.val] 1 false [[]] 22 [.tmp 2] b_spec_boCells [.agg [.int .i64 p0_0, .int .i64 p0_1, .sl (.ints .i64 p0_2)]] un_spec_boCells = F_spec_boCells fuel p0_0 p0_1 p0_2 (fun r1 => some r1) := f_spec_boCells fuel p0_0 p0_1 p0_2 un_spec_boCells
theorem sh_spec_boCells_of {n : Nat} {p0_0 : Int} {p0_1 : Int} {p0_2 : List Int} {r : List Int} (h : F_spec_boCells n p0_0 p0_1 p0_2 (fun r1 => some r1) = some r) : sh_spec_boCells p0_0 p0_1 p0_2 = some r := val_of (fun n m r hm h => by rw [← u_spec_boCells] at h ⊢; exact runFn_mono n_spec_boCells hm h) h
theorem m_spec_boCells : MeetsO Try.prog 59 o_spec_boCells := by
  refine ⟨fun ρ ds K => ?_, ⟨_, meets_run (kp := kp_spec_boCells 1) (weak := false) (df := [[]]) tsOk (ook_list (l := O_spec_boCells) (fk := E_spec_boCells.fk) (List.forall_mem_cons.2 ⟨m_spec_boHas, (List.forall_mem_nil _)⟩)) mixed Try.func59 (body := b_spec_boCells) (by kernel_rfl) (ntmps := 22) (by kernel_rfl) (rs := [.tmp 2]) (by kernel_rfl), fun ds out h => ?_⟩, ⟨_, Try.func59, by kernel_rfl, by kernel_rfl⟩⟩
  · show G_spec_boCells ds K = (G_spec_boCells ds some).bind K
    unfold G_spec_boCells
    split
    · cases sh_spec_boCells _ _ _ <;> rfl
    · rfl
  · replace h : G_spec_boCells ds some = some out := h
    unfold G_spec_boCells at h
    split at h
    · obtain ⟨r, hr, h⟩ := Option.bind_eq_some_iff.1 h
      injection h with h
      subst h
      obtain ⟨n, hn⟩ := val_some hr
      replace hn := (u_spec_boCells n _ _ _).trans hn
      rw [runFn_bind (K := un_spec_boCells) (K' := some) (f := un_spec_boCells) n_spec_boCells (fun _ => rfl)] at hn
      obtain ⟨o, h1, h2⟩ := Option.bind_eq_some_iff.1 hn
      rw [un_spec_boCells_ok h2] at h1
      exact ⟨n, h1⟩
    · cases h
/-! f55 loop.example.g01239.spec.pzGood -/
noncomputable def b_spec_pzGood : Code := Try.f55.body.getD .skip
def kp_spec_pzGood (g : Nat) : Nat → Option Keep := lk [(7, ⟨[], [1, 3, 32, 33, 34], [4096], [], [], g⟩)]
def O_spec_pzGood : List (FuncId × Ora) := [(59, o_spec_boCells), (74, o_spec_boTwo), (75, o_spec_l1In), (79, o_spec_boHas), (80, o_spec_l1Has)]
def E_spec_pzGood : Env := ⟨lk O_spec_pzGood, fun _ => false⟩
noncomputable def D_spec_pzGood_0 {ρ : Type} (g fuel : Nat) (p0_0 : Int) (p0_1 : Int) (p0_2 : List Int) (p0_3 : Int) (p0_4 : Int) (p0_5 : List Int) (n : Nat) (v3 : Int) (v32 : List Int) (v33 : Int) (v34 : Int) (c4096_0 : Int) (c4096_1 : Int) (c4096_2 : List Int) (c4096_3 : Int) (c4096_4 : Int) (Kk : Out → Option ρ) : Option ρ :=
  iter (run TT E_spec_pzGood (kp_spec_pzGood g) fuel (cL (cB (cS2 (cS1 (cS2 (cS2 (cS2 (cS2 (b_spec_pzGood)))))))))) (nrmAt (kp_spec_pzGood g) (firstRid (cL (cB (cS2 (cS1 (cS2 (cS2 (cS2 (cS2 (b_spec_pzGood))))))))))) n (⟨[uu, .u (.x (.ptr 4096 0)), uu, .u (.x (.int .i64 v3)), uu, uu, uu, uu, uu, uu, uu, uu, uu, uu, uu, uu, uu, uu, uu, uu, uu, uu, uu, uu, uu, uu, uu, uu, uu, uu, uu, uu, .u (.x (.ro (.ints .i64 v32))), .u (.x (.int .i64 v33)), .u (.x (.int .i64 v34)), uu, uu, uu, uu, uu, uu, uu, uu, uu, uu, uu, uu, uu, uu, uu, uu, uu, uu, uu, uu, uu, uu, uu, uu, uu, uu, uu, uu], [(4096, [.int .i64 c4096_0, .int .i64 c4096_1, .ro (.ints .i64 c4096_2), .int .i64 c4096_3, .int .i64 c4096_4, .ro (.ints .i64 v32)])], [], []⟩) (blkK 0 (seqK (gateAt (kp_spec_pzGood g) (200000 + firstRid (cS2 (cS2 (cS2 (cS2 (cS2 (b_spec_pzGood)))))))) (run TT E_spec_pzGood (kp_spec_pzGood g) fuel (cS2 (cS2 (cS2 (cS2 (cS2 (b_spec_pzGood))))))) (nrmAt (kp_spec_pzGood g) (200000 + firstRid (cS2 (cS2 (cS2 (cS2 (cS2 (b_spec_pzGood)))))))) (topK TT [.val] false [[]] [.tmp 2] [.agg [.int .i64 p0_0, .int .i64 p0_1, .sl (.ints .i64 p0_2), .int .i64 p0_3, .int .i64 p0_4, .sl (.ints .i64 p0_5)]] Kk)))
def S_spec_pzGood_e {ρ : Type} (p0_0 : Int) (p0_1 : Int) (p0_2 : List Int) (p0_3 : Int) (p0_4 : Int) (p0_5 : List Int)  (k0 : (Int → List Int → Int → Int → Int → Int → List Int → Int → Int → Option ρ)) (K : Bool → Option ρ) : Option ρ :=
  ((sh_spec_boTwo p0_0 p0_1 p0_2 p0_3 p0_4).bind fun r1 => (bif !r1 then K false else (bif !decide ((p0_5.length : Int) = (IntKind.i64.wrap (p0_0 * p0_1))) then K false else ((sh_spec_boCells p0_0 p0_1 p0_2).bind fun r2 => (bif decide ((r2.length : Int) > (16 : Int)) then K false else k0 (r2.length : Int) p0_5 (p0_5.length : Int) (0 : Int) p0_0 p0_1 p0_2 p0_3 p0_4)))))
theorem s_spec_pzGood_e {ρ : Type} (g fuel : Nat) (p0_0 : Int) (p0_1 : Int) (p0_2 : List Int) (p0_3 : Int) (p0_4 : Int) (p0_5 : List Int) (Kk : Out → Option ρ) : runFn TT E_spec_pzGood (kp_spec_pzGood g) fuel [.val] 1 false [[]] 63 [.tmp 2] b_spec_pzGood [.agg [.int .i64 p0_0, .int .i64 p0_1, .sl (.ints .i64 p0_2), .int .i64 p0_3, .int .i64 p0_4, .sl (.ints .i64 p0_5)]] Kk = S_spec_pzGood_e p0_0 p0_1 p0_2 p0_3 p0_4 p0_5  (fun v3 v32 v33 v34 c4096_0 c4096_1 c4096_2 c4096_3 c4096_4 => D_spec_pzGood_0 g fuel p0_0 p0_1 p0_2 p0_3 p0_4 p0_5 fuel v3 v32 v33 v34 c4096_0 c4096_1 c4096_2 c4096_3 c4096_4 Kk) (fun r1 => Kk ⟨[.x (.bool r1)], []⟩) := by
  kernel_rfl
def S_spec_pzGood_0 {ρ : Type}  (v3 : Int) (v32 : List Int) (v33 : Int) (v34 : Int) (c4096_0 : Int) (c4096_1 : Int) (c4096_2 : List Int) (c4096_3 : Int) (c4096_4 : Int) (b0 : (Int → List Int → Int → Int → Int → Int → List Int → Int → Int → Option ρ)) (K : Bool → Option ρ) : Option ρ :=
  (bif decide (v34 < v33) then (if 0 ≤ v34 then (if v34 < (v32.length : Int) then ((sh_spec_l1In (v32.getD v34.toNat 0) (0 : Int) v3).bind fun r1 => (bif !r1 then K false else (bif !decide ((v32.getD v34.toNat 0) = (0 : Int)) then ((sh_spec_boHas c4096_0 c4096_1 c4096_2 v34).bind fun r2 => (bif !r2 then K false else (if 0 ≤ v34 then (if v34 ≤ (v32.length : Int) then ((sh_spec_l1Has ((v32.take v34.toNat).drop 0) (v32.getD v34.toNat 0)).bind fun r3 => (bif r3 then K false else b0 v3 v32 v33 (IntKind.i64.wrap (v34 + (1 : Int))) c4096_0 c4096_1 c4096_2 c4096_3 c4096_4)) else none) else none))) else b0 v3 v32 v33 (IntKind.i64.wrap (v34 + (1 : Int))) c4096_0 c4096_1 c4096_2 c4096_3 c4096_4))) else none) else none) else K true)
theorem s_spec_pzGood_0 {ρ : Type} (g fuel : Nat) (p0_0 : Int) (p0_1 : Int) (p0_2 : List Int) (p0_3 : Int) (p0_4 : Int) (p0_5 : List Int) (n : Nat) (v3 : Int) (v32 : List Int) (v33 : Int) (v34 : Int) (c4096_0 : Int) (c4096_1 : Int) (c4096_2 : List Int) (c4096_3 : Int) (c4096_4 : Int) (Kk : Out → Option ρ) : D_spec_pzGood_0 g fuel p0_0 p0_1 p0_2 p0_3 p0_4 p0_5  (n + 1) v3 v32 v33 v34 c4096_0 c4096_1 c4096_2 c4096_3 c4096_4 Kk = S_spec_pzGood_0  v3 v32 v33 v34 c4096_0 c4096_1 c4096_2 c4096_3 c4096_4 (fun v3 v32 v33 v34 c4096_0 c4096_1 c4096_2 c4096_3 c4096_4 => D_spec_pzGood_0 g fuel p0_0 p0_1 p0_2 p0_3 p0_4 p0_5 n v3 v32 v33 v34 c4096_0 c4096_1 c4096_2 c4096_3 c4096_4 Kk) (fun r1 => Kk ⟨[.x (.bool r1)], []⟩) := by
  kernel_rfl
def F_spec_pzGood_0 {ρ : Type} (fuel : Nat)   (K : Bool → Option ρ) : Nat → Int → List Int → Int → Int → Int → Int → List Int → Int → Int → Option ρ
  | 0, _, _, _, _, _, _, _, _, _ => none
  | n + 1, v3, v32, v33, v34, c4096_0, c4096_1, c4096_2, c4096_3, c4096_4 => S_spec_pzGood_0  v3 v32 v33 v34 c4096_0 c4096_1 c4096_2 c4096_3 c4096_4 (F_spec_pzGood_0 fuel   K n) K
theorem f_spec_pzGood_0 {ρ : Type} (fuel : Nat) (p0_0 : Int) (p0_1 : Int) (p0_2 : List Int) (p0_3 : Int) (p0_4 : Int) (p0_5 : List Int) (Kk : Out → Option ρ) : ∀ (n : Nat) (v3 : Int) (v32 : List Int) (v33 : Int) (v34 : Int) (c4096_0 : Int) (c4096_1 : Int) (c4096_2 : List Int) (c4096_3 : Int) (c4096_4 : Int), D_spec_pzGood_0 1 fuel p0_0 p0_1 p0_2 p0_3 p0_4 p0_5  n v3 v32 v33 v34 c4096_0 c4096_1 c4096_2 c4096_3 c4096_4 Kk = F_spec_pzGood_0 fuel   (fun r1 => Kk ⟨[.x (.bool r1)], []⟩) n v3 v32 v33 v34 c4096_0 c4096_1 c4096_2 c4096_3 c4096_4 := by
  intro n
  induction n with
  | zero => intros; rfl
  | succ n ih =>
    intro v3 v32 v33 v34 c4096_0 c4096_1 c4096_2 c4096_3 c4096_4
    rw [s_spec_pzGood_0, F_spec_pzGood_0]
    try simp only [ih]
def F_spec_pzGood {ρ : Type} (fuel : Nat) (p0_0 : Int) (p0_1 : Int) (p0_2 : List Int) (p0_3 : Int) (p0_4 : Int) (p0_5 : List Int)  (K : Bool → Option ρ) : Option ρ := S_spec_pzGood_e p0_0 p0_1 p0_2 p0_3 p0_4 p0_5  (F_spec_pzGood_0 fuel   K fuel) K
theorem f_spec_pzGood {ρ : Type} (fuel : Nat) (p0_0 : Int) (p0_1 : Int) (p0_2 : List Int) (p0_3 : Int) (p0_4 : Int) (p0_5 : List Int) (Kk : Out → Option ρ) : runFn TT E_spec_pzGood (kp_spec_pzGood 1) fuel [.val] 1 false [[]] 63 [.tmp 2] b_spec_pzGood [.agg [.int .i64 p0_0, .int .i64 p0_1, .sl (.ints .i64 p0_2), .int .i64 p0_3, .int .i64 p0_4, .sl (.ints .i64 p0_5)]] Kk = F_spec_pzGood fuel p0_0 p0_1 p0_2 p0_3 p0_4 p0_5 (fun r1 => Kk ⟨[.x (.bool r1)], []⟩) := by
  rw [s_spec_pzGood_e, F_spec_pzGood]
  try simp only [f_spec_pzGood_0]
noncomputable def sh_spec_pzGood (p0_0 : Int) (p0_1 : Int) (p0_2 : List Int) (p0_3 : Int) (p0_4 : Int) (p0_5 : List Int) : Option (Bool) := val fun n => F_spec_pzGood n p0_0 p0_1 p0_2 p0_3 p0_4 p0_5 (fun r1 => some r1)
noncomputable def G_spec_pzGood {ρ : Type} : List DU → (Out → Option ρ) → Option ρ
  | [.agg [.int .i64 p0_0, .int .i64 p0_1, .sl (.ints .i64 p0_2), .int .i64 p0_3, .int .i64 p0_4, .sl (.ints .i64 p0_5)]], K => (sh_spec_pzGood p0_0 p0_1 p0_2 p0_3 p0_4 p0_5).bind fun r => K ⟨[.x (.bool r)], []⟩
  | _, _ => none
noncomputable def o_spec_pzGood : Ora := ⟨[.val], 1, false, G_spec_pzGood⟩
def un_spec_pzGood : Out → Option (Bool)
  | ⟨[.x (.bool r1)], []⟩ => some r1
  | _ => none
theorem un_spec_pzGood_ok {o : Out} {r : Bool} (h : un_spec_pzGood o = some r) : o = ⟨[.x (.bool r)], []⟩ := by
  unfold un_spec_pzGood at h
  split at h
  · injection h with h
    subst h
    rfl
  · cases h
theorem n_spec_pzGood : ∀ k o, E_spec_pzGood.fn k = some o → Nat1 o := fun k o h => (ook_list (P := Try.prog) (l := O_spec_pzGood) (fk := E_spec_pzGood.fk) (List.forall_mem_cons.2 ⟨m_spec_boCells, (List.forall_mem_cons.2 ⟨m_spec_boTwo, (List.forall_mem_cons.2 ⟨m_spec_l1In, (List.forall_mem_cons.2 ⟨m_spec_boHas, (List.forall_mem_cons.2 ⟨m_spec_l1Has, (List.forall_mem_nil _)⟩)⟩)⟩)⟩)⟩)).nat k o h
theorem u_spec_pzGood (fuel : Nat) (p0_0 : Int) (p0_1 : Int) (p0_2 : List Int) (p0_3 : Int) (p0_4 : Int) (p0_5 : List Int) : runFn TT E_spec_pzGood (kp_spec_pzGood 1) fuel [.val] 1 false [[]] 63 [.tmp 2] b_spec_pzGood [.agg [.int .i64 p0_0, .int .i64 p0_1, .sl (.ints .i64 p0_2), .int .i64 p0_3, .int .i64 p0_4, .sl (.ints .i64 p0_5)]] un_spec_pzGood = F_spec_pzGood fuel p0_0 p0_1 p0_2 p0_3 p0_4 p0_5 (fun r1 => some r1) := f_spec_pzGood fuel p0_0 p0_1 p0_2 p0_3 p0_4 p0_5 un_spec_pzGood
theorem sh_spec_pzGood_of {n : Nat} {p0_0 : Int} {p0_1 : Int} {p0_2 : List Int} {p0_3 : Int} {p0_4 : Int} {p0_5 : List Int} {r : Bool} (h : F_spec_pzGood n p0_0 p0_1 p0_2 p0_3 p0_4 p0_5 (fun r1 => some r1) = some r) : sh_spec_pzGood p0_0 p0_1 p0_2 p0_3 p0_4 p0_5 = some r := val_of (fun n m r hm h => by rw [← u_spec_pzGood] at h ⊢; exact runFn_mono n_spec_pzGood hm h) h
theorem m_spec_pzGood : MeetsO Try.prog 55 o_spec_pzGood := by
  refine ⟨fun ρ ds K => ?_, ⟨_, meets_run (kp := kp_spec_pzGood 1) (weak := false) (df := [[]]) tsOk (ook_list (l := O_spec_pzGood) (fk := E_spec_pzGood.fk) (List.forall_mem_cons.2 ⟨m_spec_boCells, (List.forall_mem_cons.2 ⟨m_spec_boTwo, (List.forall_mem_cons.2 ⟨m_spec_l1In, (List.forall_mem_cons.2 ⟨m_spec_boHas, (List.forall_mem_cons.2 ⟨m_spec_l1Has, (List.forall_mem_nil _)⟩)⟩)⟩)⟩)⟩)) mixed Try.func55 (body := b_spec_pzGood) (by kernel_rfl) (ntmps := 63) (by kernel_rfl) (rs := [.tmp 2]) (by kernel_rfl), fun ds out h => ?_⟩, ⟨_, Try.func55, by kernel_rfl, by kernel_rfl⟩⟩
  · show G_spec_pzGood ds K = (G_spec_pzGood ds some).bind K
    unfold G_spec_pzGood
    split
    · cases sh_spec_pzGood _ _ _ _ _ _ <;> rfl
    · rfl
  · replace h : G_spec_pzGood ds some = some out := h
    unfold G_spec_pzGood at h
    split at h
    · obtain ⟨r, hr, h⟩ := Option.bind_eq_some_iff.1 h
      injection h with h
      subst h
      obtain ⟨n, hn⟩ := val_some hr
      replace hn := (u_spec_pzGood n _ _ _ _ _ _).trans hn
      rw [runFn_bind (K := un_spec_pzGood) (K' := some) (f := un_spec_pzGood) n_spec_pzGood (fun _ => rfl)] at hn
      obtain ⟨o, h1, h2⟩ := Option.bind_eq_some_iff.1 hn
      rw [un_spec_pzGood_ok h2] at h1
      exact ⟨n, h1⟩
    · cases h
/-! f67 loop.example.g01239.spec.boMirror -/
noncomputable def b_spec_boMirror : Code := Try.f67.body.getD .skip
def kp_spec_boMirror (g : Nat) : Nat → Option Keep := lk []
def O_spec_boMirror : List (FuncId × Ora) := []
def E_spec_boMirror : Env := ⟨lk O_spec_boMirror, fun _ => false⟩
def S_spec_boMirror_e {ρ : Type} (p0_0 : Int) (p0_1 : Int) (p0_2 : List Int) (p1 : Int)   (K : Int → Option ρ) : Option ρ :=
  (if p0_0 = 0 then none else (if p0_0 = 0 then none else K (IntKind.i64.wrap ((IntKind.i64.wrap ((IntKind.i64.wrap ((IntKind.i64.wrap (p1 - (p1.tmod p0_0))) + p0_0)) - (1 : Int))) - (p1.tmod p0_0)))))
theorem s_spec_boMirror_e {ρ : Type} (g fuel : Nat) (p0_0 : Int) (p0_1 : Int) (p0_2 : List Int) (p1 : Int) (Kk : Out → Option ρ) : runFn TT E_spec_boMirror (kp_spec_boMirror g) fuel [.val, .val] 2 false [[]] 20 [.tmp 4] b_spec_boMirror [.agg [.int .i64 p0_0, .int .i64 p0_1, .sl (.ints .i64 p0_2)], .x (.int .i64 p1)] Kk = S_spec_boMirror_e p0_0 p0_1 p0_2 p1   (fun r1 => Kk ⟨[.x (.int .i64 r1)], []⟩) := by
  kernel_rfl
def F_spec_boMirror {ρ : Type} (fuel : Nat) (p0_0 : Int) (p0_1 : Int) (p0_2 : List Int) (p1 : Int)  (K : Int → Option ρ) : Option ρ := S_spec_boMirror_e p0_0 p0_1 p0_2 p1   K
theorem f_spec_boMirror {ρ : Type} (fuel : Nat) (p0_0 : Int) (p0_1 : Int) (p0_2 : List Int) (p1 : Int) (Kk : Out → Option ρ) : runFn TT E_spec_boMirror (kp_spec_boMirror 1) fuel [.val, .val] 2 false [[]] 20 [.tmp 4] b_spec_boMirror [.agg [.int .i64 p0_0, .int .i64 p0_1, .sl (.ints .i64 p0_2)], .x (.int .i64 p1)] Kk = F_spec_boMirror fuel p0_0 p0_1 p0_2 p1 (fun r1 => Kk ⟨[.x (.int .i64 r1)], []⟩) := by
  rw [s_spec_boMirror_e, F_spec_boMirror]
noncomputable def sh_spec_boMirror (p0_0 : Int) (p0_1 : Int) (p0_2 : List Int) (p1 : Int) : Option (Int) := F_spec_boMirror 0 p0_0 p0_1 p0_2 p1 (fun r1 => some r1)
noncomputable def G_spec_boMirror {ρ : Type} : List DU → (Out → Option ρ) → Option ρ
  | [.agg [.int .i64 p0_0, .int .i64 p0_1, .sl (.ints .i64 p0_2)], .x (.int .i64 p1)], K => (sh_spec_boMirror p0_0 p0_1 p0_2 p1).bind fun r => K ⟨[.x (.int .i64 r)], []⟩
  | _, _ => none
noncomputable def o_spec_boMirror : Ora := ⟨[.val, .val], 2, false, G_spec_boMirror⟩
def un_spec_boMirror : Out → Option (Int)
  | ⟨[.x (.int .i64 r1)], []⟩ => some r1
  | _ => none
theorem un_spec_boMirror_ok {o : Out} {r : Int} (h : un_spec_boMirror o = some r) : o = ⟨[.x (.int .i64 r)], []⟩ := by
  unfold un_spec_boMirror at h
  split at h
  · injection h with h
    subst h
    rfl
  · cases h
theorem n_spec_boMirror : ∀ k o, E_spec_boMirror.fn k = some o → Nat1 o := fun k o h => (ook_list (P := Try.prog) (l := O_spec_boMirror) (fk := E_spec_boMirror.fk) (List.forall_mem_nil _)).nat k o h
theorem u_spec_boMirror (fuel : Nat) (p0_0 : Int) (p0_1 : Int) (p0_2 : List Int) (p1 : Int) : runFn TT E_spec_boMirror (kp_spec_boMirror 1) fuel [.val, .val] 2 false [[]] 20 [.tmp 4] b_spec_boMirror [.agg [.int .i64 p0_0, .int .i64 p0_1, .sl (.ints .i64 p0_2)], .x (.int .i64 p1)] un_spec_boMirror = F_spec_boMirror fuel p0_0 p0_1 p0_2 p1 (fun r1 => some r1) := f_spec_boMirror fuel p0_0 p0_1 p0_2 p1 un_spec_boMirror
theorem m_spec_boMirror : MeetsO Try.prog 67 o_spec_boMirror := by
  refine ⟨fun ρ ds K => ?_, ⟨_, meets_run (kp := kp_spec_boMirror 1) (weak := false) (df := [[]]) tsOk (ook_list (l := O_spec_boMirror) (fk := E_spec_boMirror.fk) (List.forall_mem_nil _)) mixed Try.func67 (body := b_spec_boMirror) (by kernel_rfl) (ntmps := 20) (by kernel_rfl) (rs := [.tmp 4]) (by kernel_rfl), fun ds out h => ?_⟩, ⟨_, Try.func67, by kernel_rfl, by kernel_rfl⟩⟩
  · show G_spec_boMirror ds K = (G_spec_boMirror ds some).bind K
    unfold G_spec_boMirror
    split
    · cases sh_spec_boMirror _ _ _ _ <;> rfl
    · rfl
  · replace h : G_spec_boMirror ds some = some out := h
    unfold G_spec_boMirror at h
    split at h
    · obtain ⟨r, hr, h⟩ := Option.bind_eq_some_iff.1 h
      injection h with h
      subst h
      have hn := (u_spec_boMirror 0 _ _ _ _).trans hr
      rw [runFn_bind (K := un_spec_boMirror) (K' := some) (f := un_spec_boMirror) n_spec_boMirror (fun _ => rfl)] at hn
      obtain ⟨o, h1, h2⟩ := Option.bind_eq_some_iff.1 hn
      rw [un_spec_boMirror_ok h2] at h1
      exact ⟨0, h1⟩
    · cases h
/-! f98 loop.example.g01239.spec.l1Put -/
noncomputable def b_spec_l1Put : Code := Try.f98.body.getD .skip
def kp_spec_l1Put (g : Nat) : Nat → Option Keep := lk [(2, ⟨[], [0, 1, 5], [], [], [], g⟩), (200006, ⟨[], [0, 1, 5], [], [], [], g⟩), (200004, ⟨[], [0, 1, 5], [], [], [], g⟩)]
def O_spec_l1Put : List (FuncId × Ora) := []
def E_spec_l1Put : Env := ⟨lk O_spec_l1Put, fun _ => false⟩
noncomputable def D_spec_l1Put_0 {ρ : Type} (g fuel : Nat) (p0 : List Int) (p1 : Int) (n : Nat) (v0 : List Int) (v1 : Int) (v5 : Int) (Kk : Out → Option ρ) : Option ρ :=
  iter (run TT E_spec_l1Put (kp_spec_l1Put g) fuel (cL (cB (cS1 (cS2 (cS2 (b_spec_l1Put))))))) (nrmAt (kp_spec_l1Put g) (firstRid (cL (cB (cS1 (cS2 (cS2 (b_spec_l1Put)))))))) n (⟨[.u (.x (.ro (.ints .i64 v0))), .u (.x (.int .i64 v1)), uu, uu, uu, .u (.x (.int .i64 v5)), uu, uu, uu, uu, uu, uu, uu, uu, uu, uu, uu, uu, uu, uu, uu, uu, uu, uu, uu, uu, uu, uu, uu, uu, uu, uu, uu, uu, uu, uu, uu, uu, uu, uu, uu, uu, uu, uu, uu, uu, uu, uu], [], [], []⟩) (blkK 0 (seqK (gateAt (kp_spec_l1Put g) (200000 + firstRid (cS2 (cS2 (cS2 (b_spec_l1Put)))))) (run TT E_spec_l1Put (kp_spec_l1Put g) fuel (cS2 (cS2 (cS2 (b_spec_l1Put))))) (nrmAt (kp_spec_l1Put g) (200000 + firstRid (cS2 (cS2 (cS2 (b_spec_l1Put)))))) (topK TT [.val, .val] true [[]] [.tmp 4] [.x (.sl (.ints .i64 p0)), .x (.int .i64 p1)] Kk)))
noncomputable def B_spec_l1Put_1 {ρ : Type} (g fuel : Nat) (p0 : List Int) (p1 : Int) (v0 : List Int) (v1 : Int) (v5 : Int) (Kk : Out → Option ρ) : Option ρ :=
  run TT E_spec_l1Put (kp_spec_l1Put g) fuel (cS2 (cS2 (cS2 (cS2 (b_spec_l1Put))))) (⟨[.u (.x (.ro (.ints .i64 v0))), .u (.x (.int .i64 v1)), uu, uu, uu, .u (.x (.int .i64 v5)), uu, uu, uu, uu, uu, uu, uu, uu, uu, uu, uu, uu, uu, uu, uu, uu, uu, uu, uu, uu, uu, uu, uu, uu, uu, uu, uu, uu, uu, uu, uu, uu, uu, uu, uu, uu, uu, uu, uu, uu, uu, uu], [], [], []⟩) (topK TT [.val, .val] true [[]] [.tmp 4] [.x (.sl (.ints .i64 p0)), .x (.int .i64 p1)] Kk)
noncomputable def D_spec_l1Put_1 {ρ : Type} (g fuel : Nat) (p0 : List Int) (p1 : Int) (v0 : List Int) (v1 : Int) (v5 : Int) (Kk : Out → Option ρ) : Option ρ := gate g (B_spec_l1Put_1 g fuel p0 p1  v0 v1 v5 Kk)
noncomputable def B_spec_l1Put_2 {ρ : Type} (g fuel : Nat) (p0 : List Int) (p1 : Int) (v0 : List Int) (v1 : Int) (v5 : Int) (Kk : Out → Option ρ) : Option ρ :=
  run TT E_spec_l1Put (kp_spec_l1Put g) fuel (cS2 (cS2 (cS2 (b_spec_l1Put)))) (⟨[.u (.x (.ro (.ints .i64 v0))), .u (.x (.int .i64 v1)), uu, uu, uu, .u (.x (.int .i64 v5)), uu, uu, uu, uu, uu, uu, uu, uu, uu, uu, uu, uu, uu, uu, uu, uu, uu, uu, uu, uu, uu, uu, uu, uu, uu, uu, uu, uu, uu, uu, uu, uu, uu, uu, uu, uu, uu, uu, uu, uu, uu, uu], [], [], []⟩) (topK TT [.val, .val] true [[]] [.tmp 4] [.x (.sl (.ints .i64 p0)), .x (.int .i64 p1)] Kk)
noncomputable def D_spec_l1Put_2 {ρ : Type} (g fuel : Nat) (p0 : List Int) (p1 : Int) (v0 : List Int) (v1 : Int) (v5 : Int) (Kk : Out → Option ρ) : Option ρ := gate g (B_spec_l1Put_2 g fuel p0 p1  v0 v1 v5 Kk)
def S_spec_l1Put_e {ρ : Type} (p0 : List Int) (p1 : Int)  (k0 : (List Int → Int → Int → Option ρ)) : Option ρ :=
  k0 p0 p1 (0 : Int)
theorem s_spec_l1Put_e {ρ : Type} (g fuel : Nat) (p0 : List Int) (p1 : Int) (Kk : Out → Option ρ) : runFn TT E_spec_l1Put (kp_spec_l1Put g) fuel [.val, .val] 2 true [[]] 48 [.tmp 4] b_spec_l1Put [.x (.sl (.ints .i64 p0)), .x (.int .i64 p1)] Kk = S_spec_l1Put_e p0 p1  (fun v0 v1 v5 => D_spec_l1Put_0 g fuel p0 p1 fuel v0 v1 v5 Kk) := by
  kernel_rfl
def S_spec_l1Put_0 {ρ : Type}  (v0 : List Int) (v1 : Int) (v5 : Int) (b0 : (List Int → Int → Int → Option ρ)) (k2 : (List Int → Int → Int → Option ρ)) : Option ρ :=
  (bif decide (v5 < (v0.length : Int)) then (if 0 ≤ v5 then (if v5 < (v0.length : Int) then (bif decide ((v0.getD v5.toNat 0) < v1) then b0 v0 v1 (IntKind.i64.wrap (v5 + (1 : Int))) else k2 v0 v1 v5) else none) else none) else k2 v0 v1 v5)
theorem s_spec_l1Put_0 {ρ : Type} (g fuel : Nat) (p0 : List Int) (p1 : Int) (n : Nat) (v0 : List Int) (v1 : Int) (v5 : Int) (Kk : Out → Option ρ) : D_spec_l1Put_0 g fuel p0 p1  (n + 1) v0 v1 v5 Kk = S_spec_l1Put_0  v0 v1 v5 (fun v0 v1 v5 => D_spec_l1Put_0 g fuel p0 p1 n v0 v1 v5 Kk) (fun v0 v1 v5 => D_spec_l1Put_2 g fuel p0 p1  v0 v1 v5 Kk) := by
  kernel_rfl
def S_spec_l1Put_1 {ρ : Type}  (v0 : List Int) (v1 : Int) (v5 : Int)  (K : List Int → Option ρ) : Option ρ :=
  (if 0 ≤ v5 then (if v5 ≤ (v0.length : Int) then (if ([] ++ ((v0.take v5.toNat).drop 0)).length ≤ 1099511627776 then (if (([] ++ ((v0.take v5.toNat).drop 0)) ++ [v1]).length ≤ 1099511627776 then (if 0 ≤ v5 then (if v5 ≤ (v0.length : Int) then (if ((([] ++ ((v0.take v5.toNat).drop 0)) ++ [v1]) ++ ((v0.take v0.length).drop v5.toNat)).length ≤ 1099511627776 then K ((([] ++ ((v0.take v5.toNat).drop 0)) ++ [v1]) ++ ((v0.take v0.length).drop v5.toNat)) else none) else none) else none) else none) else none) else none) else none)
theorem s_spec_l1Put_1 {ρ : Type} (g fuel : Nat) (p0 : List Int) (p1 : Int) (v0 : List Int) (v1 : Int) (v5 : Int) (Kk : Out → Option ρ) : B_spec_l1Put_1 g fuel p0 p1  v0 v1 v5 Kk = S_spec_l1Put_1  v0 v1 v5  (fun r1 => Kk ⟨[.x (.rs (.ints .i64 r1))], []⟩) := by
  kernel_rfl
def S_spec_l1Put_2 {ρ : Type}  (v0 : List Int) (v1 : Int) (v5 : Int) (k1 : (List Int → Int → Int → Option ρ)) (K : List Int → Option ρ) : Option ρ :=
  (bif decide (v5 < (v0.length : Int)) then (if 0 ≤ v5 then (if v5 < (v0.length : Int) then (bif decide ((v0.getD v5.toNat 0) = v1) then K v0 else k1 v0 v1 v5) else none) else none) else k1 v0 v1 v5)
theorem s_spec_l1Put_2 {ρ : Type} (g fuel : Nat) (p0 : List Int) (p1 : Int) (v0 : List Int) (v1 : Int) (v5 : Int) (Kk : Out → Option ρ) : B_spec_l1Put_2 g fuel p0 p1  v0 v1 v5 Kk = S_spec_l1Put_2  v0 v1 v5 (fun v0 v1 v5 => D_spec_l1Put_1 g fuel p0 p1  v0 v1 v5 Kk) (fun r1 => Kk ⟨[.x (.rs (.ints .i64 r1))], []⟩) := by
  kernel_rfl
def F_spec_l1Put_1 {ρ : Type} (fuel : Nat)   (K : List Int → Option ρ) (v0 : List Int) (v1 : Int) (v5 : Int) : Option ρ := S_spec_l1Put_1  v0 v1 v5  K
theorem f_spec_l1Put_1 {ρ : Type} (fuel : Nat) (p0 : List Int) (p1 : Int) (v0 : List Int) (v1 : Int) (v5 : Int) (Kk : Out → Option ρ) : D_spec_l1Put_1 1 fuel p0 p1  v0 v1 v5 Kk = F_spec_l1Put_1 fuel   (fun r1 => Kk ⟨[.x (.rs (.ints .i64 r1))], []⟩) v0 v1 v5 := by
  rw [D_spec_l1Put_1, gate_one, s_spec_l1Put_1, F_spec_l1Put_1]
def F_spec_l1Put_2 {ρ : Type} (fuel : Nat)   (K : List Int → Option ρ) (v0 : List Int) (v1 : Int) (v5 : Int) : Option ρ := S_spec_l1Put_2  v0 v1 v5 (F_spec_l1Put_1 fuel   K) K
theorem f_spec_l1Put_2 {ρ : Type} (fuel : Nat) (p0 : List Int) (p1 : Int) (v0 : List Int) (v1 : Int) (v5 : Int) (Kk : Out → Option ρ) : D_spec_l1Put_2 1 fuel p0 p1  v0 v1 v5 Kk = F_spec_l1Put_2 fuel   (fun r1 => Kk ⟨[.x (.rs (.ints .i64 r1))], []⟩) v0 v1 v5 := by
  rw [D_spec_l1Put_2, gate_one, s_spec_l1Put_2, F_spec_l1Put_2]
  try simp only [f_spec_l1Put_1]
def F_spec_l1Put_0 {ρ : Type} (fuel : Nat)   (K : List Int → Option ρ) : Nat → List Int → Int → Int → Option ρ
  | 0, _, _, _ => none
  | n + 1, v0, v1, v5 => S_spec_l1Put_0  v0 v1 v5 (F_spec_l1Put_0 fuel   K n) (F_spec_l1Put_2 fuel   K)
theorem f_spec_l1Put_0 {ρ : Type} (fuel : Nat) (p0 : List Int) (p1 : Int) (Kk : Out → Option ρ) : ∀ (n : Nat) (v0 : List Int) (v1 : Int) (v5 : Int), D_spec_l1Put_0 1 fuel p0 p1  n v0 v1 v5 Kk = F_spec_l1Put_0 fuel   (fun r1 => Kk ⟨[.x (.rs (.ints .i64 r1))], []⟩) n v0 v1 v5 := by
  intro n
  induction n with
  | zero => intros; rfl
  | succ n ih =>
    intro v0 v1 v5
    rw [s_spec_l1Put_0, F_spec_l1Put_0]
    try simp only [ih, f_spec_l1Put_1, f_spec_l1Put_2]
def F_spec_l1Put {ρ : Type} (fuel : Nat) (p0 : List Int) (p1 : Int)  (K : List Int → Option ρ) : Option ρ := S_spec_l1Put_e p0 p1  (F_spec_l1Put_0 fuel   K fuel)
theorem f_spec_l1Put {ρ : Type} (fuel : Nat) (p0 : List Int) (p1 : Int) (Kk : Out → Option ρ) : runFn TT E_spec_l1Put (kp_spec_l1Put 1) fuel [.val, .val] 2 true [[]] 48 [.tmp 4] b_spec_l1Put [.x (.sl (.ints .i64 p0)), .x (.int .i64 p1)] Kk = F_spec_l1Put fuel p0 p1 (fun r1 => Kk ⟨[.x (.rs (.ints .i64 r1))], []⟩) := by
  rw [s_spec_l1Put_e, F_spec_l1Put]
  try simp only [f_spec_l1Put_1, f_spec_l1Put_2, f_spec_l1Put_0]
noncomputable def sh_spec_l1Put (p0 : List Int) (p1 : Int) : Option (List Int) := val fun n => F_spec_l1Put n p0 p1 (fun r1 => some r1)
noncomputable def G_spec_l1Put {ρ : Type} : List DU → (Out → Option ρ) → Option ρ
  | [.x (.sl (.ints .i64 p0)), .x (.int .i64 p1)], K => (sh_spec_l1Put p0 p1).bind fun r => K ⟨[.x (.rs (.ints .i64 r))], []⟩
  | _, _ => none
noncomputable def o_spec_l1Put : Ora := ⟨[.val, .val], 2, true, G_spec_l1Put⟩
def un_spec_l1Put : Out → Option (List Int)
  | ⟨[.x (.rs (.ints .i64 r1))], []⟩ => some r1
  | _ => none
theorem un_spec_l1Put_ok {o : Out} {r : List Int} (h : un_spec_l1Put o = some r) : o = ⟨[.x (.rs (.ints .i64 r))], []⟩ := by
  unfold un_spec_l1Put at h
  split at h
  · injection h with h
    subst h
    rfl
  · cases h
theorem n_spec_l1Put : ∀ k o, E_spec_l1Put.fn k = some o → Nat1 o := fun k o h => (ook_list (P := Try.prog) (l := O_spec_l1Put) (fk := E_spec_l1Put.fk) (List.forall_mem_nil _)).nat k o h
theorem u_spec_l1Put (fuel : Nat) (p0 : List Int) (p1 : Int) : runFn TT E_spec_l1Put (kp_spec_l1Put 1) fuel [.val, .val] 2 true [[]] 48 [.tmp 4] b_spec_l1Put [.x (.sl (.ints .i64 p0)), .x (.int .i64 p1)] un_spec_l1Put = F_spec_l1Put fuel p0 p1 (fun r1 => some r1) := f_spec_l1Put fuel p0 p1 un_spec_l1Put
theorem sh_spec_l1Put_of {n : Nat} {p0 : List Int} {p1 : Int} {r : List Int} (h : F_spec_l1Put n p0 p1 (fun r1 => some r1) = some r) : sh_spec_l1Put p0 p1 = some r := val_of (fun n m r hm h => by rw [← u_spec_l1Put] at h ⊢; exact runFn_mono n_spec_l1Put hm h) h
theorem m_spec_l1Put : MeetsO Try.prog 98 o_spec_l1Put := by
  refine ⟨fun ρ ds K => ?_, ⟨_, meets_run (kp := kp_spec_l1Put 1) (weak := true) (df := [[]]) tsOk (ook_list (l := O_spec_l1Put) (fk := E_spec_l1Put.fk) (List.forall_mem_nil _)) mixed Try.func98 (body := b_spec_l1Put) (by kernel_rfl) (ntmps := 48) (by kernel_rfl) (rs := [.tmp 4]) (by kernel_rfl), fun ds out h => ?_⟩, ⟨_, Try.func98, by kernel_rfl, by kernel_rfl⟩⟩
  · show G_spec_l1Put ds K = (G_spec_l1Put ds some).bind K
    unfold G_spec_l1Put
    split
    · cases sh_spec_l1Put _ _ <;> rfl
    · rfl
  · replace h : G_spec_l1Put ds some = some out := h
    unfold G_spec_l1Put at h
    split at h
    · obtain ⟨r, hr, h⟩ := Option.bind_eq_some_iff.1 h
      injection h with h
      subst h
      obtain ⟨n, hn⟩ := val_some hr
      replace hn := (u_spec_l1Put n _ _).trans hn
      rw [runFn_bind (K := un_spec_l1Put) (K' := some) (f := un_spec_l1Put) n_spec_l1Put (fun _ => rfl)] at hn
      obtain ⟨o, h1, h2⟩ := Option.bind_eq_some_iff.1 hn
      rw [un_spec_l1Put_ok h2] at h1
      exact ⟨n, h1⟩
    · cases h
/-! f89 loop.example.g01239.spec.boMoved -/
noncomputable def b_spec_boMoved : Code := Try.f89.body.getD .skip
def kp_spec_boMoved (g : Nat) : Nat → Option Keep := lk [(3, ⟨[], [3, 6, 7, 8], [], [(3, 4095)], [], g⟩)]
def O_spec_boMoved : List (FuncId × Ora) := [(98, o_spec_l1Put)]
def E_spec_boMoved : Env := ⟨lk O_spec_boMoved, fun _ => false⟩
noncomputable def D_spec_boMoved_0 {ρ : Type} (g fuel : Nat) (p0 : List Int) (n : Nat) (v3 : List Int) (v6 : List Int) (v7 : Int) (v8 : Int) (Kk : Out → Option ρ) : Option ρ :=
  iter (run TT E_spec_boMoved (kp_spec_boMoved g) fuel (cL (cB (cS2 (cS1 (cS2 (cS2 (b_spec_boMoved)))))))) (nrmAt (kp_spec_boMoved g) (firstRid (cL (cB (cS2 (cS1 (cS2 (cS2 (b_spec_boMoved))))))))) n (⟨[uu, uu, uu, .u (.x (.ro (.ints .i64 v3))), uu, uu, .u (.x (.ro (.ints .i64 v6))), .u (.x (.int .i64 v7)), .u (.x (.int .i64 v8)), uu, uu, uu, uu, uu, uu, uu, uu], [], [], []⟩) (blkK 0 (seqK (gateAt (kp_spec_boMoved g) (200000 + firstRid (cS2 (cS2 (cS2 (b_spec_boMoved)))))) (run TT E_spec_boMoved (kp_spec_boMoved g) fuel (cS2 (cS2 (cS2 (b_spec_boMoved))))) (nrmAt (kp_spec_boMoved g) (200000 + firstRid (cS2 (cS2 (cS2 (b_spec_boMoved)))))) (topK TT [.val] true [[]] [.tmp 2] [.x (.sl (.ints .i64 p0))] Kk)))
def S_spec_boMoved_e {ρ : Type} (p0 : List Int)  (k0 : (List Int → List Int → Int → Int → Option ρ)) : Option ρ :=
  k0 [] p0 (p0.length : Int) (0 : Int)
theorem s_spec_boMoved_e {ρ : Type} (g fuel : Nat) (p0 : List Int) (Kk : Out → Option ρ) : runFn TT E_spec_boMoved (kp_spec_boMoved g) fuel [.val] 1 true [[]] 17 [.tmp 2] b_spec_boMoved [.x (.sl (.ints .i64 p0))] Kk = S_spec_boMoved_e p0  (fun v3 v6 v7 v8 => D_spec_boMoved_0 g fuel p0 fuel v3 v6 v7 v8 Kk) := by
  kernel_rfl
def S_spec_boMoved_0 {ρ : Type}  (v3 : List Int) (v6 : List Int) (v7 : Int) (v8 : Int) (b0 : (List Int → List Int → Int → Int → Option ρ)) (K : List Int → Option ρ) : Option ρ :=
  (bif decide (v8 < v7) then (if 0 ≤ v8 then (if v8 < (v6.length : Int) then ((sh_spec_l1Put v3 (v6.getD v8.toNat 0)).bind fun r1 => b0 r1 v6 v7 (IntKind.i64.wrap (v8 + (1 : Int)))) else none) else none) else K v3)
theorem s_spec_boMoved_0 {ρ : Type} (g fuel : Nat) (p0 : List Int) (n : Nat) (v3 : List Int) (v6 : List Int) (v7 : Int) (v8 : Int) (Kk : Out → Option ρ) : D_spec_boMoved_0 g fuel p0  (n + 1) v3 v6 v7 v8 Kk = S_spec_boMoved_0  v3 v6 v7 v8 (fun v3 v6 v7 v8 => D_spec_boMoved_0 g fuel p0 n v3 v6 v7 v8 Kk) (fun r1 => Kk ⟨[.x (.rs (.ints .i64 r1))], []⟩) := by
  kernel_rfl
def F_spec_boMoved_0 {ρ : Type} (fuel : Nat)   (K : List Int → Option ρ) : Nat → List Int → List Int → Int → Int → Option ρ
  | 0, _, _, _, _ => none
  | n + 1, v3, v6, v7, v8 => S_spec_boMoved_0  v3 v6 v7 v8 (F_spec_boMoved_0 fuel   K n) K
theorem f_spec_boMoved_0 {ρ : Type} (fuel : Nat) (p0 : List Int) (Kk : Out → Option ρ) : ∀ (n : Nat) (v3 : List Int) (v6 : List Int) (v7 : Int) (v8 : Int), D_spec_boMoved_0 1 fuel p0  n v3 v6 v7 v8 Kk = F_spec_boMoved_0 fuel   (fun r1 => Kk ⟨[.x (.rs (.ints .i64 r1))], []⟩) n v3 v6 v7 v8 := by
  intro n
  induction n with
  | zero => intros; rfl
  | succ n ih =>
    intro v3 v6 v7 v8
    rw [s_spec_boMoved_0, F_spec_boMoved_0]
    try simp only [ih]
def F_spec_boMoved {ρ : Type} (fuel : Nat) (p0 : List Int)  (K : List Int → Option ρ) : Option ρ := S_spec_boMoved_e p0  (F_spec_boMoved_0 fuel   K fuel)
theorem f_spec_boMoved {ρ : Type} (fuel : Nat) (p0 : List Int) (Kk : Out → Option ρ) : runFn TT E_spec_boMoved (kp_spec_boMoved 1) fuel [.val] 1 true [[]] 17 [.tmp 2] b_spec_boMoved [.x (.sl (.ints .i64 p0))] Kk = F_spec_boMoved fuel p0 (fun r1 => Kk ⟨[.x (.rs (.ints .i64 r1))], []⟩) := by
  rw [s_spec_boMoved_e, F_spec_boMoved]
  try simp only [f_spec_boMoved_0]
noncomputable def sh_spec_boMoved (p0 : List Int) : Option (List Int) := val fun n => F_spec_boMoved n p0 (fun r1 => some r1)
noncomputable def G_spec_boMoved {ρ : Type} : List DU → (Out → Option ρ) → Option ρ
  | [.x (.sl (.ints .i64 p0))], K => (sh_spec_boMoved p0).bind fun r => K ⟨[.x (.rs (.ints .i64 r))], []⟩
  | _, _ => none
noncomputable def o_spec_boMoved : Ora := ⟨[.val], 1, true, G_spec_boMoved⟩
def un_spec_boMoved : Out → Option (List Int)
  | ⟨[.x (.rs (.ints .i64 r1))], []⟩ => some r1
  | _ => none
theorem un_spec_boMoved_ok {o : Out} {r : List Int} (h : un_spec_boMoved o = some r) : o = ⟨[.x (.rs (.ints .i64 r))], []⟩ := by
  unfold un_spec_boMoved at h
  split at h
  · injection h with h
    subst h
    rfl
  · cases h
theorem n_spec_boMoved : ∀ k o, E_spec_boMoved.fn k = some o → Nat1 o := fun k o h => (ook_list (P := Try.prog) (l := O_spec_boMoved) (fk := E_spec_boMoved.fk) (List.forall_mem_cons.2 ⟨m_spec_l1Put, (List.forall_mem_nil _)⟩)).nat k o h
theorem u_spec_boMoved (fuel : Nat) (p0 : List Int) : runFn TT E_spec_boMoved (kp_spec_boMoved 1) fuel [.val] 1 true [[]] 17 [.tmp 2] b_spec_boMoved [.x (.sl (.ints .i64 p0))] un_spec_boMoved = F_spec_boMoved fuel p0 (fun r1 => some r1) := f_spec_boMoved fuel p0 un_spec_boMoved
theorem sh_spec_boMoved_of {n : Nat} {p0 : List Int} {r : List Int} (h : F_spec_boMoved n p0 (fun r1 => some r1) = some r) : sh_spec_boMoved p0 = some r := val_of (fun n m r hm h => by rw [← u_spec_boMoved] at h ⊢; exact runFn_mono n_spec_boMoved hm h) h
theorem m_spec_boMoved : MeetsO Try.prog 89 o_spec_boMoved := by
  refine ⟨fun ρ ds K => ?_, ⟨_, meets_run (kp := kp_spec_boMoved 1) (weak := true) (df := [[]]) tsOk (ook_list (l := O_spec_boMoved) (fk := E_spec_boMoved.fk) (List.forall_mem_cons.2 ⟨m_spec_l1Put, (List.forall_mem_nil _)⟩)) mixed Try.func89 (body := b_spec_boMoved) (by kernel_rfl) (ntmps := 17) (by kernel_rfl) (rs := [.tmp 2]) (by kernel_rfl), fun ds out h => ?_⟩, ⟨_, Try.func89, by kernel_rfl, by kernel_rfl⟩⟩
  · show G_spec_boMoved ds K = (G_spec_boMoved ds some).bind K
    unfold G_spec_boMoved
    split
    · cases sh_spec_boMoved _ <;> rfl
    · rfl
  · replace h : G_spec_boMoved ds some = some out := h
    unfold G_spec_boMoved at h
    split at h
    · obtain ⟨r, hr, h⟩ := Option.bind_eq_some_iff.1 h
      injection h with h
      subst h
      obtain ⟨n, hn⟩ := val_some hr
      replace hn := (u_spec_boMoved n _).trans hn
      rw [runFn_bind (K := un_spec_boMoved) (K' := some) (f := un_spec_boMoved) n_spec_boMoved (fun _ => rfl)] at hn
      obtain ⟨o, h1, h2⟩ := Option.bind_eq_some_iff.1 hn
      rw [un_spec_boMoved_ok h2] at h1
      exact ⟨n, h1⟩
    · cases h
/-! f66 loop.example.g01239.spec.boMirrored -/
noncomputable def b_spec_boMirrored : Code := Try.f66.body.getD .skip
def kp_spec_boMirrored (g : Nat) : Nat → Option Keep := lk [(3, ⟨[], [1, 2, 3, 7, 8, 9], [4096, 4112], [(3, 16400000)], [], g⟩), (200007, ⟨[], [1, 2, 3], [4096, 4112], [(3, 4095)], [], g⟩)]
def O_spec_boMirrored : List (FuncId × Ora) := [(67, o_spec_boMirror), (89, o_spec_boMoved)]
def E_spec_boMirrored : Env := ⟨lk O_spec_boMirrored, fun _ => false⟩
noncomputable def D_spec_boMirrored_0 {ρ : Type} (g fuel : Nat) (p0_0 : Int) (p0_1 : Int) (p0_2 : List Int) (n : Nat) (v3 : List Int) (v7 : List Int) (v8 : Int) (v9 : Int) (c4096_0 : Int) (c4096_1 : Int) (c4112_0 : Int) (Kk : Out → Option ρ) : Option ρ :=
  iter (run TT E_spec_boMirrored (kp_spec_boMirrored g) fuel (cL (cB (cS2 (cS1 (cS2 (cS2 (b_spec_boMirrored)))))))) (nrmAt (kp_spec_boMirrored g) (firstRid (cL (cB (cS2 (cS1 (cS2 (cS2 (b_spec_boMirrored))))))))) n (⟨[uu, .u (.x (.ptr 4096 0)), .u (.x (.ptr 4112 0)), .u (.x (.own 16400000 (.ints .i64 v3))), uu, uu, uu, .u (.x (.ro (.ints .i64 v7))), .u (.x (.int .i64 v8)), .u (.x (.int .i64 v9)), uu, uu, uu, uu, uu, uu, uu, uu, uu, uu, uu, uu, uu, uu, uu, uu, uu], [(4096, [.int .i64 c4096_0, .int .i64 c4096_1, .ro (.ints .i64 v7)]), (4112, [.int .i64 c4112_0, .int .i64 c4112_0, .nil (.ints .i64 [])])], [], []⟩) (blkK 0 (seqK (gateAt (kp_spec_boMirrored g) (200000 + firstRid (cS2 (cS2 (cS2 (b_spec_boMirrored)))))) (run TT E_spec_boMirrored (kp_spec_boMirrored g) fuel (cS2 (cS2 (cS2 (b_spec_boMirrored))))) (nrmAt (kp_spec_boMirrored g) (200000 + firstRid (cS2 (cS2 (cS2 (b_spec_boMirrored)))))) (topK TT [.val] true [[]] [.cell 2 24] [.agg [.int .i64 p0_0, .int .i64 p0_1, .sl (.ints .i64 p0_2)]] Kk)))
noncomputable def B_spec_boMirrored_1 {ρ : Type} (g fuel : Nat) (p0_0 : Int) (p0_1 : Int) (p0_2 : List Int) (v3 : List Int) (c4096_0 : Int) (c4096_1 : Int) (c4096_2 : List Int) (c4112_0 : Int) (Kk : Out → Option ρ) : Option ρ :=
  run TT E_spec_boMirrored (kp_spec_boMirrored g) fuel (cS2 (cS2 (cS2 (b_spec_boMirrored)))) (⟨[uu, .u (.x (.ptr 4096 0)), .u (.x (.ptr 4112 0)), .u (.x (.ro (.ints .i64 v3))), uu, uu, uu, uu, uu, uu, uu, uu, uu, uu, uu, uu, uu, uu, uu, uu, uu, uu, uu, uu, uu, uu, uu], [(4096, [.int .i64 c4096_0, .int .i64 c4096_1, .ro (.ints .i64 c4096_2)]), (4112, [.int .i64 c4112_0, .int .i64 c4112_0, .nil (.ints .i64 [])])], [], []⟩) (topK TT [.val] true [[]] [.cell 2 24] [.agg [.int .i64 p0_0, .int .i64 p0_1, .sl (.ints .i64 p0_2)]] Kk)
noncomputable def D_spec_boMirrored_1 {ρ : Type} (g fuel : Nat) (p0_0 : Int) (p0_1 : Int) (p0_2 : List Int) (v3 : List Int) (c4096_0 : Int) (c4096_1 : Int) (c4096_2 : List Int) (c4112_0 : Int) (Kk : Out → Option ρ) : Option ρ := gate g (B_spec_boMirrored_1 g fuel p0_0 p0_1 p0_2  v3 c4096_0 c4096_1 c4096_2 c4112_0 Kk)
def S_spec_boMirrored_e {ρ : Type} (p0_0 : Int) (p0_1 : Int) (p0_2 : List Int)  (k0 : (List Int → List Int → Int → Int → Int → Int → Int → Option ρ)) : Option ρ :=
  k0 [] p0_2 (p0_2.length : Int) (0 : Int) p0_0 p0_1 0
theorem s_spec_boMirrored_e {ρ : Type} (g fuel : Nat) (p0_0 : Int) (p0_1 : Int) (p0_2 : List Int) (Kk : Out → Option ρ) : runFn TT E_spec_boMirrored (kp_spec_boMirrored g) fuel [.val] 1 true [[]] 27 [.cell 2 24] b_spec_boMirrored [.agg [.int .i64 p0_0, .int .i64 p0_1, .sl (.ints .i64 p0_2)]] Kk = S_spec_boMirrored_e p0_0 p0_1 p0_2  (fun v3 v7 v8 v9 c4096_0 c4096_1 c4112_0 => D_spec_boMirrored_0 g fuel p0_0 p0_1 p0_2 fuel v3 v7 v8 v9 c4096_0 c4096_1 c4112_0 Kk) := by
  kernel_rfl
def S_spec_boMirrored_0 {ρ : Type}  (v3 : List Int) (v7 : List Int) (v8 : Int) (v9 : Int) (c4096_0 : Int) (c4096_1 : Int) (c4112_0 : Int) (b0 : (List Int → List Int → Int → Int → Int → Int → Int → Option ρ)) (k1 : (List Int → Int → Int → List Int → Int → Option ρ)) : Option ρ :=
  (bif decide (v9 < v8) then (if 0 ≤ v9 then (if v9 < (v7.length : Int) then ((sh_spec_boMirror c4096_0 c4096_1 v7 (v7.getD v9.toNat 0)).bind fun r1 => (if (v3 ++ [r1]).length ≤ 1099511627776 then b0 (v3 ++ [r1]) v7 v8 (IntKind.i64.wrap (v9 + (1 : Int))) c4096_0 c4096_1 c4112_0 else none)) else none) else none) else k1 v3 c4096_0 c4096_1 v7 c4112_0)
theorem s_spec_boMirrored_0 {ρ : Type} (g fuel : Nat) (p0_0 : Int) (p0_1 : Int) (p0_2 : List Int) (n : Nat) (v3 : List Int) (v7 : List Int) (v8 : Int) (v9 : Int) (c4096_0 : Int) (c4096_1 : Int) (c4112_0 : Int) (Kk : Out → Option ρ) : D_spec_boMirrored_0 g fuel p0_0 p0_1 p0_2  (n + 1) v3 v7 v8 v9 c4096_0 c4096_1 c4112_0 Kk = S_spec_boMirrored_0  v3 v7 v8 v9 c4096_0 c4096_1 c4112_0 (fun v3 v7 v8 v9 c4096_0 c4096_1 c4112_0 => D_spec_boMirrored_0 g fuel p0_0 p0_1 p0_2 n v3 v7 v8 v9 c4096_0 c4096_1 c4112_0 Kk) (fun v3 c4096_0 c4096_1 c4096_2 c4112_0 => D_spec_boMirrored_1 g fuel p0_0 p0_1 p0_2  v3 c4096_0 c4096_1 c4096_2 c4112_0 Kk) := by
  kernel_rfl
def S_spec_boMirrored_1 {ρ : Type}  (v3 : List Int) (c4096_0 : Int) (c4096_1 : Int) (c4096_2 : List Int) (c4112_0 : Int)  (K : Int → Int → List Int → Option ρ) : Option ρ :=
  ((sh_spec_boMoved v3).bind fun r1 => K c4096_0 c4096_1 r1)
theorem s_spec_boMirrored_1 {ρ : Type} (g fuel : Nat) (p0_0 : Int) (p0_1 : Int) (p0_2 : List Int) (v3 : List Int) (c4096_0 : Int) (c4096_1 : Int) (c4096_2 : List Int) (c4112_0 : Int) (Kk : Out → Option ρ) : B_spec_boMirrored_1 g fuel p0_0 p0_1 p0_2  v3 c4096_0 c4096_1 c4096_2 c4112_0 Kk = S_spec_boMirrored_1  v3 c4096_0 c4096_1 c4096_2 c4112_0  (fun r1 r2 r3 => Kk ⟨[.agg [.int .i64 r1, .int .i64 r2, .rs (.ints .i64 r3)]], []⟩) := by
  kernel_rfl
def F_spec_boMirrored_1 {ρ : Type} (fuel : Nat)   (K : Int → Int → List Int → Option ρ) (v3 : List Int) (c4096_0 : Int) (c4096_1 : Int) (c4096_2 : List Int) (c4112_0 : Int) : Option ρ := S_spec_boMirrored_1  v3 c4096_0 c4096_1 c4096_2 c4112_0  K
theorem f_spec_boMirrored_1 {ρ : Type} (fuel : Nat) (p0_0 : Int) (p0_1 : Int) (p0_2 : List Int) (v3 : List Int) (c4096_0 : Int) (c4096_1 : Int) (c4096_2 : List Int) (c4112_0 : Int) (Kk : Out → Option ρ) : D_spec_boMirrored_1 1 fuel p0_0 p0_1 p0_2  v3 c4096_0 c4096_1 c4096_2 c4112_0 Kk = F_spec_boMirrored_1 fuel   (fun r1 r2 r3 => Kk ⟨[.agg [.int .i64 r1, .int .i64 r2, .rs (.ints .i64 r3)]], []⟩) v3 c4096_0 c4096_1 c4096_2 c4112_0 := by
  rw [D_spec_boMirrored_1, gate_one, s_spec_boMirrored_1, F_spec_boMirrored_1]
def F_spec_boMirrored_0 {ρ : Type} (fuel : Nat)   (K : Int → Int → List Int → Option ρ) : Nat → List Int → List Int → Int → Int → Int → Int → Int → Option ρ
  | 0, _, _, _, _, _, _, _ => none
  | n + 1, v3, v7, v8, v9, c4096_0, c4096_1, c4112_0 => S_spec_boMirrored_0  v3 v7 v8 v9 c4096_0 c4096_1 c4112_0 (F_spec_boMirrored_0 fuel   K n) (F_spec_boMirrored_1 fuel   K)
theorem f_spec_boMirrored_0 {ρ : Type} (fuel : Nat) (p0_0 : Int) (p0_1 : Int) (p0_2 : List Int) (Kk : Out → Option ρ) : ∀ (n : Nat) (v3 : List Int) (v7 : List Int) (v8 : Int) (v9 : Int) (c4096_0 : Int) (c4096_1 : Int) (c4112_0 : Int), D_spec_boMirrored_0 1 fuel p0_0 p0_1 p0_2  n v3 v7 v8 v9 c4096_0 c4096_1 c4112_0 Kk = F_spec_boMirrored_0 fuel   (fun r1 r2 r3 => Kk ⟨[.agg [.int .i64 r1, .int .i64 r2, .rs (.ints .i64 r3)]], []⟩) n v3 v7 v8 v9 c4096_0 c4096_1 c4112_0 := by
  intro n
  induction n with
  | zero => intros; rfl
  | succ n ih =>
    intro v3 v7 v8 v9 c4096_0 c4096_1 c4112_0
    rw [s_spec_boMirrored_0, F_spec_boMirrored_0]
    try simp only [ih, f_spec_boMirrored_1]
def F_spec_boMirrored {ρ : Type} (fuel : Nat) (p0_0 : Int) (p0_1 : Int) (p0_2 : List Int)  (K : Int → Int → List Int → Option ρ) : Option ρ := S_spec_boMirrored_e p0_0 p0_1 p0_2  (F_spec_boMirrored_0 fuel   K fuel)
theorem f_spec_boMirrored {ρ : Type} (fuel : Nat) (p0_0 : Int) (p0_1 : Int) (p0_2 : List Int) (Kk : Out → Option ρ) : runFn TT E_spec_boMirrored (kp_spec_boMirrored 1) fuel [.val] 1 true [[]] 27 [.cell 2 24] b_spec_boMirrored [.agg [.int .i64 p0_0, .int .i64 p0_1, .sl (.ints .i64 p0_2)]] Kk = F_spec_boMirrored fuel p0_0 p0_1 p0_2 (fun r1 r2 r3 => Kk ⟨[.agg [.int .i64 r1, .int .i64 r2, .rs (.ints .i64 r3)]], []⟩) := by
  rw [s_spec_boMirrored_e, F_spec_boMirrored]
  try simp only [f_spec_boMirrored_1, f_spec_boMirrored_0]
noncomputable def sh_spec_boMirrored (p0_0 : Int) (p0_1 : Int) (p0_2 : List Int) : Option (Int × Int × List Int) := val fun n => F_spec_boMirrored n p0_0 p0_1 p0_2 (fun r1 r2 r3 => some (r1, r2, r3))
noncomputable def G_spec_boMirrored {ρ : Type} : List DU → (Out → Option ρ) → Option ρ
  | [.agg [.int .i64 p0_0, .int .i64 p0_1, .sl (.ints .i64 p0_2)]], K => (sh_spec_boMirrored p0_0 p0_1 p0_2).bind fun r => K ⟨[.agg [.int .i64 r.1, .int .i64 r.2.1, .rs (.ints .i64 r.2.2)]], []⟩
  | _, _ => none
noncomputable def o_spec_boMirrored : Ora := ⟨[.val], 1, true, G_spec_boMirrored⟩
def un_spec_boMirrored : Out → Option (Int × Int × List Int)
  | ⟨[.agg [.int .i64 r1, .int .i64 r2, .rs (.ints .i64 r3)]], []⟩ => some (r1, r2, r3)
  | _ => none
theorem un_spec_boMirrored_ok {o : Out} {r : Int × Int × List Int} (h : un_spec_boMirrored o = some r) : o = ⟨[.agg [.int .i64 r.1, .int .i64 r.2.1, .rs (.ints .i64 r.2.2)]], []⟩ := by
  unfold un_spec_boMirrored at h
  split at h
  · injection h with h
    subst h
    rfl
  · cases h
theorem n_spec_boMirrored : ∀ k o, E_spec_boMirrored.fn k = some o → Nat1 o := fun k o h => (ook_list (P := Try.prog) (l := O_spec_boMirrored) (fk := E_spec_boMirrored.fk) (List.forall_mem_cons.2 ⟨m_spec_boMirror, (List.forall_mem_cons.2 ⟨m_spec_boMoved, (List.forall_mem_nil _)⟩)⟩)).nat k o h
theorem u_spec_boMirrored (fuel : Nat) (p0_0 : Int) (p0_1 : Int) (p0_2 : List Int) : runFn TT E_spec_boMirrored (kp_spec_boMirrored 1) fuel [.val] 1 true [[]] 27 [.cell 2 24] b_spec_boMirrored [.agg [.int .i64 p0_0, .int .i64 p0_1, .sl (.ints .i64 p0_2)]] un_spec_boMirrored = F_spec_boMirrored fuel p0_0 p0_1 p0_2 (fun r1 r2 r3 => some (r1, r2, r3)) := f_spec_boMirrored fuel p0_0 p0_1 p0_2 un_spec_boMirrored
theorem sh_spec_boMirrored_of {n : Nat} {p0_0 : Int} {p0_1 : Int} {p0_2 : List Int} {r : Int × Int × List Int} (h : F_spec_boMirrored n p0_0 p0_1 p0_2 (fun r1 r2 r3 => some (r1, r2, r3)) = some r) : sh_spec_boMirrored p0_0 p0_1 p0_2 = some r := val_of (fun n m r hm h => by rw [← u_spec_boMirrored] at h ⊢; exact runFn_mono n_spec_boMirrored hm h) h
theorem m_spec_boMirrored : MeetsO Try.prog 66 o_spec_boMirrored := by
  refine ⟨fun ρ ds K => ?_, ⟨_, meets_run (kp := kp_spec_boMirrored 1) (weak := true) (df := [[]]) tsOk (ook_list (l := O_spec_boMirrored) (fk := E_spec_boMirrored.fk) (List.forall_mem_cons.2 ⟨m_spec_boMirror, (List.forall_mem_cons.2 ⟨m_spec_boMoved, (List.forall_mem_nil _)⟩)⟩)) mixed Try.func66 (body := b_spec_boMirrored) (by kernel_rfl) (ntmps := 27) (by kernel_rfl) (rs := [.cell 2 24]) (by kernel_rfl), fun ds out h => ?_⟩, ⟨_, Try.func66, by kernel_rfl, by kernel_rfl⟩⟩
  · show G_spec_boMirrored ds K = (G_spec_boMirrored ds some).bind K
    unfold G_spec_boMirrored
    split
    · cases sh_spec_boMirrored _ _ _ <;> rfl
    · rfl
  · replace h : G_spec_boMirrored ds some = some out := h
    unfold G_spec_boMirrored at h
    split at h
    · obtain ⟨r, hr, h⟩ := Option.bind_eq_some_iff.1 h
      injection h with h
      subst h
      obtain ⟨n, hn⟩ := val_some hr
      replace hn := (u_spec_boMirrored n _ _ _).trans hn
      rw [runFn_bind (K := un_spec_boMirrored) (K' := some) (f := un_spec_boMirrored) n_spec_boMirrored (fun _ => rfl)] at hn
      obtain ⟨o, h1, h2⟩ := Option.bind_eq_some_iff.1 hn
      rw [un_spec_boMirrored_ok h2] at h1
      exact ⟨n, h1⟩
    · cases h
/-! f37 loop.example.g01239.spec.MirrorPuzzle -/
noncomputable def b_spec_MirrorPuzzle : Code := Try.f37.body.getD .skip
def kp_spec_MirrorPuzzle (g : Nat) : Nat → Option Keep := lk [(5, ⟨[], [1, 2, 4, 22, 23, 24], [4096, 4112, 7328], [], [], g⟩)]
def O_spec_MirrorPuzzle : List (FuncId × Ora) := [(55, o_spec_pzGood), (66, o_spec_boMirrored), (67, o_spec_boMirror)]
def E_spec_MirrorPuzzle : Env := ⟨lk O_spec_MirrorPuzzle, fun _ => false⟩
noncomputable def D_spec_MirrorPuzzle_0 {ρ : Type} (g fuel : Nat) (p0_0 : Int) (p0_1 : Int) (p0_2 : List Int) (p0_3 : Int) (p0_4 : Int) (p0_5 : List Int) (n : Nat) (v22 : List Int) (v23 : Int) (v24 : Int) (c4096_0 : Int) (c4096_1 : Int) (c4096_2 : List Int) (c4096_3 : Int) (c4096_4 : Int) (c4112_0 : Int) (c7328_0 : Int) (c7328_1 : Int) (c7328_2 : List Int) (c7328_5 : List Int) (Kk : Out → Option ρ) : Option ρ :=
  iter (run TT E_spec_MirrorPuzzle (kp_spec_MirrorPuzzle g) fuel (cL (cB (cS2 (cS1 (cS2 (cS2 (cS2 (b_spec_MirrorPuzzle))))))))) (nrmAt (kp_spec_MirrorPuzzle g) (firstRid (cL (cB (cS2 (cS1 (cS2 (cS2 (cS2 (b_spec_MirrorPuzzle)))))))))) n (⟨[uu, .u (.x (.ptr 4096 0)), .u (.x (.ptr 4112 0)), uu, .u (.x (.ptr 7328 0)), uu, uu, uu, uu, uu, uu, uu, uu, uu, uu, uu, uu, uu, uu, uu, uu, uu, .u (.x (.ro (.ints .i64 v22))), .u (.x (.int .i64 v23)), .u (.x (.int .i64 v24)), uu, uu, uu, uu, uu, uu, uu, uu, uu, uu, uu, uu, uu, uu], [(4096, [.int .i64 c4096_0, .int .i64 c4096_1, .ro (.ints .i64 c4096_2), .int .i64 c4096_3, .int .i64 c4096_4, .ro (.ints .i64 v22)]), (4112, [.int .i64 c4112_0, .int .i64 c4112_0, .nil (.ints .i64 []), .int .i64 c4112_0, .int .i64 c4112_0, .nil (.ints .i64 [])]), (7328, [.int .i64 c7328_0, .int .i64 c7328_1, .ro (.ints .i64 c7328_2), .int .i64 c4096_3, .int .i64 c4096_4, .own 7296 (.ints .i64 c7328_5)])], [], []⟩) (blkK 0 (seqK (gateAt (kp_spec_MirrorPuzzle g) (200000 + firstRid (cS2 (cS2 (cS2 (cS2 (b_spec_MirrorPuzzle))))))) (run TT E_spec_MirrorPuzzle (kp_spec_MirrorPuzzle g) fuel (cS2 (cS2 (cS2 (cS2 (b_spec_MirrorPuzzle)))))) (nrmAt (kp_spec_MirrorPuzzle g) (200000 + firstRid (cS2 (cS2 (cS2 (cS2 (b_spec_MirrorPuzzle))))))) (topK TT [.val] true [[], []] [.cell 2 40, .tmp 3] [.agg [.int .i64 p0_0, .int .i64 p0_1, .sl (.ints .i64 p0_2), .int .i64 p0_3, .int .i64 p0_4, .sl (.ints .i64 p0_5)]] Kk)))
def S_spec_MirrorPuzzle_e {ρ : Type} (p0_0 : Int) (p0_1 : Int) (p0_2 : List Int) (p0_3 : Int) (p0_4 : Int) (p0_5 : List Int)  (k0 : (List Int → Int → Int → Int → Int → List Int → Int → Int → Int → Int → Int → List Int → List Int → Option ρ)) (K : Int → Int → List Int → Int → Int → List Int → Bool → Option ρ) : Option ρ :=
  ((sh_spec_pzGood p0_0 p0_1 p0_2 p0_3 p0_4 p0_5).bind fun r1 => (bif !r1 then K 0 0 [] 0 0 [] false else ((sh_spec_boMirrored p0_0 p0_1 p0_2).bind fun r2 => (if 0 ≤ (p0_5.length : Int) then (if (p0_5.length : Int) ≤ 1099511627776 then k0 p0_5 (p0_5.length : Int) (0 : Int) p0_0 p0_1 p0_2 p0_3 p0_4 0 r2.1 r2.2.1 r2.2.2 (List.replicate (p0_5.length : Int).toNat (0 : Int)) else none) else none))))
theorem s_spec_MirrorPuzzle_e {ρ : Type} (g fuel : Nat) (p0_0 : Int) (p0_1 : Int) (p0_2 : List Int) (p0_3 : Int) (p0_4 : Int) (p0_5 : List Int) (Kk : Out → Option ρ) : runFn TT E_spec_MirrorPuzzle (kp_spec_MirrorPuzzle g) fuel [.val] 1 true [[], []] 39 [.cell 2 40, .tmp 3] b_spec_MirrorPuzzle [.agg [.int .i64 p0_0, .int .i64 p0_1, .sl (.ints .i64 p0_2), .int .i64 p0_3, .int .i64 p0_4, .sl (.ints .i64 p0_5)]] Kk = S_spec_MirrorPuzzle_e p0_0 p0_1 p0_2 p0_3 p0_4 p0_5  (fun v22 v23 v24 c4096_0 c4096_1 c4096_2 c4096_3 c4096_4 c4112_0 c7328_0 c7328_1 c7328_2 c7328_5 => D_spec_MirrorPuzzle_0 g fuel p0_0 p0_1 p0_2 p0_3 p0_4 p0_5 fuel v22 v23 v24 c4096_0 c4096_1 c4096_2 c4096_3 c4096_4 c4112_0 c7328_0 c7328_1 c7328_2 c7328_5 Kk) (fun r1 r2 r3 r4 r5 r6 r7 => Kk ⟨[.agg [.int .i64 r1, .int .i64 r2, .rs (.ints .i64 r3), .int .i64 r4, .int .i64 r5, .rs (.ints .i64 r6)], .x (.bool r7)], []⟩) := by
  kernel_rfl
def S_spec_MirrorPuzzle_0 {ρ : Type}  (v22 : List Int) (v23 : Int) (v24 : Int) (c4096_0 : Int) (c4096_1 : Int) (c4096_2 : List Int) (c4096_3 : Int) (c4096_4 : Int) (c4112_0 : Int) (c7328_0 : Int) (c7328_1 : Int) (c7328_2 : List Int) (c7328_5 : List Int) (b0 : (List Int → Int → Int → Int → Int → List Int → Int → Int → Int → Int → Int → List Int → List Int → Option ρ)) (K : Int → Int → List Int → Int → Int → List Int → Bool → Option ρ) : Option ρ :=
  (bif decide (v24 < v23) then (if 0 ≤ v24 then (if v24 < (v22.length : Int) then ((sh_spec_boMirror c4096_0 c4096_1 c4096_2 v24).bind fun r1 => (if 0 ≤ r1 then (if r1 < (c7328_5.length : Int) then b0 v22 v23 (IntKind.i64.wrap (v24 + (1 : Int))) c4096_0 c4096_1 c4096_2 c4096_3 c4096_4 c4112_0 c7328_0 c7328_1 c7328_2 (c7328_5.set r1.toNat (v22.getD v24.toNat 0)) else none) else none)) else none) else none) else K c7328_0 c7328_1 c7328_2 c4096_3 c4096_4 c7328_5 true)
theorem s_spec_MirrorPuzzle_0 {ρ : Type} (g fuel : Nat) (p0_0 : Int) (p0_1 : Int) (p0_2 : List Int) (p0_3 : Int) (p0_4 : Int) (p0_5 : List Int) (n : Nat) (v22 : List Int) (v23 : Int) (v24 : Int) (c4096_0 : Int) (c4096_1 : Int) (c4096_2 : List Int) (c4096_3 : Int) (c4096_4 : Int) (c4112_0 : Int) (c7328_0 : Int) (c7328_1 : Int) (c7328_2 : List Int) (c7328_5 : List Int) (Kk : Out → Option ρ) : D_spec_MirrorPuzzle_0 g fuel p0_0 p0_1 p0_2 p0_3 p0_4 p0_5  (n + 1) v22 v23 v24 c4096_0 c4096_1 c4096_2 c4096_3 c4096_4 c4112_0 c7328_0 c7328_1 c7328_2 c7328_5 Kk = S_spec_MirrorPuzzle_0  v22 v23 v24 c4096_0 c4096_1 c4096_2 c4096_3 c4096_4 c4112_0 c7328_0 c7328_1 c7328_2 c7328_5 (fun v22 v23 v24 c4096_0 c4096_1 c4096_2 c4096_3 c4096_4 c4112_0 c7328_0 c7328_1 c7328_2 c7328_5 => D_spec_MirrorPuzzle_0 g fuel p0_0 p0_1 p0_2 p0_3 p0_4 p0_5 n v22 v23 v24 c4096_0 c4096_1 c4096_2 c4096_3 c4096_4 c4112_0 c7328_0 c7328_1 c7328_2 c7328_5 Kk) (fun r1 r2 r3 r4 r5 r6 r7 => Kk ⟨[.agg [.int .i64 r1, .int .i64 r2, .rs (.ints .i64 r3), .int .i64 r4, .int .i64 r5, .rs (.ints .i64 r6)], .x (.bool r7)], []⟩) := by
  kernel_rfl
def F_spec_MirrorPuzzle_0 {ρ : Type} (fuel : Nat)   (K : Int → Int → List Int → Int → Int → List Int → Bool → Option ρ) : Nat → List Int → Int → Int → Int → Int → List Int → Int → Int → Int → Int → Int → List Int → List Int → Option ρ
  | 0, _, _, _, _, _, _, _, _, _, _, _, _, _ => none
  | n + 1, v22, v23, v24, c4096_0, c4096_1, c4096_2, c4096_3, c4096_4, c4112_0, c7328_0, c7328_1, c7328_2, c7328_5 => S_spec_MirrorPuzzle_0  v22 v23 v24 c4096_0 c4096_1 c4096_2 c4096_3 c4096_4 c4112_0 c7328_0 c7328_1 c7328_2 c7328_5 (F_spec_MirrorPuzzle_0 fuel   K n) K
theorem f_spec_MirrorPuzzle_0 {ρ : Type} (fuel : Nat) (p0_0 : Int) (p0_1 : Int) (p0_2 : List Int) (p0_3 : Int) (p0_4 : Int) (p0_5 : List Int) (Kk : Out → Option ρ) : ∀ (n : Nat) (v22 : List Int) (v23 : Int) (v24 : Int) (c4096_0 : Int) (c4096_1 : Int) (c4096_2 : List Int) (c4096_3 : Int) (c4096_4 : Int) (c4112_0 : Int) (c7328_0 : Int) (c7328_1 : Int) (c7328_2 : List Int) (c7328_5 : List Int), D_spec_MirrorPuzzle_0 1 fuel p0_0 p0_1 p0_2 p0_3 p0_4 p0_5  n v22 v23 v24 c4096_0 c4096_1 c4096_2 c4096_3 c4096_4 c4112_0 c7328_0 c7328_1 c7328_2 c7328_5 Kk = F_spec_MirrorPuzzle_0 fuel   (fun r1 r2 r3 r4 r5 r6 r7 => Kk ⟨[.agg [.int .i64 r1, .int .i64 r2, .rs (.ints .i64 r3), .int .i64 r4, .int .i64 r5, .rs (.ints .i64 r6)], .x (.bool r7)], []⟩) n v22 v23 v24 c4096_0 c4096_1 c4096_2 c4096_3 c4096_4 c4112_0 c7328_0 c7328_1 c7328_2 c7328_5 := by
  intro n
  induction n with
  | zero => intros; rfl
  | succ n ih =>
    intro v22 v23 v24 c4096_0 c4096_1 c4096_2 c4096_3 c4096_4 c4112_0 c7328_0 c7328_1 c7328_2 c7328_5
    rw [s_spec_MirrorPuzzle_0, F_spec_MirrorPuzzle_0]
    try simp only [ih]
def F_spec_MirrorPuzzle {ρ : Type} (fuel : Nat) (p0_0 : Int) (p0_1 : Int) (p0_2 : List Int) (p0_3 : Int) (p0_4 : Int) (p0_5 : List Int)  (K : Int → Int → List Int → Int → Int → List Int → Bool → Option ρ) : Option ρ := S_spec_MirrorPuzzle_e p0_0 p0_1 p0_2 p0_3 p0_4 p0_5  (F_spec_MirrorPuzzle_0 fuel   K fuel) K
theorem f_spec_MirrorPuzzle {ρ : Type} (fuel : Nat) (p0_0 : Int) (p0_1 : Int) (p0_2 : List Int) (p0_3 : Int) (p0_4 : Int) (p0_5 : List Int) (Kk : Out → Option ρ) : runFn TT E_spec_MirrorPuzzle (kp_spec_MirrorPuzzle 1) fuel [.val] 1 true [[], []] 39 [.cell 2 40, .tmp 3] b_spec_MirrorPuzzle [.agg [.int .i64 p0_0, .int .i64 p0_1, .sl (.ints .i64 p0_2), .int .i64 p0_3, .int .i64 p0_4, .sl (.ints .i64 p0_5)]] Kk = F_spec_MirrorPuzzle fuel p0_0 p0_1 p0_2 p0_3 p0_4 p0_5 (fun r1 r2 r3 r4 r5 r6 r7 => Kk ⟨[.agg [.int .i64 r1, .int .i64 r2, .rs (.ints .i64 r3), .int .i64 r4, .int .i64 r5, .rs (.ints .i64 r6)], .x (.bool r7)], []⟩) := by
  rw [s_spec_MirrorPuzzle_e, F_spec_MirrorPuzzle]
  try simp only [f_spec_MirrorPuzzle_0]
noncomputable def sh_spec_MirrorPuzzle (p0_0 : Int) (p0_1 : Int) (p0_2 : List Int) (p0_3 : Int) (p0_4 : Int) (p0_5 : List Int) : Option (Int × Int × List Int × Int × Int × List Int × Bool) := val fun n => F_spec_MirrorPuzzle n p0_0 p0_1 p0_2 p0_3 p0_4 p0_5 (fun r1 r2 r3 r4 r5 r6 r7 => some (r1, r2, r3, r4, r5, r6, r7))
noncomputable def G_spec_MirrorPuzzle {ρ : Type} : List DU → (Out → Option ρ) → Option ρ
  | [.agg [.int .i64 p0_0, .int .i64 p0_1, .sl (.ints .i64 p0_2), .int .i64 p0_3, .int .i64 p0_4, .sl (.ints .i64 p0_5)]], K => (sh_spec_MirrorPuzzle p0_0 p0_1 p0_2 p0_3 p0_4 p0_5).bind fun r => K ⟨[.agg [.int .i64 r.1, .int .i64 r.2.1, .rs (.ints .i64 r.2.2.1), .int .i64 r.2.2.2.1, .int .i64 r.2.2.2.2.1, .rs (.ints .i64 r.2.2.2.2.2.1)], .x (.bool r.2.2.2.2.2.2)], []⟩
  | _, _ => none
noncomputable def o_spec_MirrorPuzzle : Ora := ⟨[.val], 1, true, G_spec_MirrorPuzzle⟩
def un_spec_MirrorPuzzle : Out → Option (Int × Int × List Int × Int × Int × List Int × Bool)
  | ⟨[.agg [.int .i64 r1, .int .i64 r2, .rs (.ints .i64 r3), .int .i64 r4, .int .i64 r5, .rs (.ints .i64 r6)], .x (.bool r7)], []⟩ => some (r1, r2, r3, r4, r5, r6, r7)
  | _ => none
theorem un_spec_MirrorPuzzle_ok {o : Out} {r : Int × Int × List Int × Int × Int × List Int × Bool} (h : un_spec_MirrorPuzzle o = some r) : o = ⟨[.agg [.int .i64 r.1, .int .i64 r.2.1, .rs (.ints .i64 r.2.2.1), .int .i64 r.2.2.2.1, .int .i64 r.2.2.2.2.1, .rs (.ints .i64 r.2.2.2.2.2.1)], .x (.bool r.2.2.2.2.2.2)], []⟩ := by
  unfold un_spec_MirrorPuzzle at h
  split at h
  · injection h with h
    subst h
    rfl
  · cases h
theorem n_spec_MirrorPuzzle : ∀ k o, E_spec_MirrorPuzzle.fn k = some o → Nat1 o := fun k o h => (ook_list (P := Try.prog) (l := O_spec_MirrorPuzzle) (fk := E_spec_MirrorPuzzle.fk) (List.forall_mem_cons.2 ⟨m_spec_pzGood, (List.forall_mem_cons.2 ⟨m_spec_boMirrored, (List.forall_mem_cons.2 ⟨m_spec_boMirror, (List.forall_mem_nil _)⟩)⟩)⟩)).nat k o h
theorem u_spec_MirrorPuzzle (fuel : Nat) (p0_0 : Int) (p0_1 : Int) (p0_2 : List Int) (p0_3 : Int) (p0_4 : Int) (p0_5 : List Int) : runFn TT E_spec_MirrorPuzzle (kp_spec_MirrorPuzzle 1) fuel [.val] 1 true [[], []] 39 [.cell 2 40, .tmp 3] b_spec_MirrorPuzzle [.agg [.int .i64 p0_0, .int .i64 p0_1, .sl (.ints .i64 p0_2), .int .i64 p0_3, .int .i64 p0_4, .sl (.ints .i64 p0_5)]] un_spec_MirrorPuzzle = F_spec_MirrorPuzzle fuel p0_0 p0_1 p0_2 p0_3 p0_4 p0_5 (fun r1 r2 r3 r4 r5 r6 r7 => some (r1, r2, r3, r4, r5, r6, r7)) := f_spec_MirrorPuzzle fuel p0_0 p0_1 p0_2 p0_3 p0_4 p0_5 un_spec_MirrorPuzzle
theorem sh_spec_MirrorPuzzle_of {n : Nat} {p0_0 : Int} {p0_1 : Int} {p0_2 : List Int} {p0_3 : Int} {p0_4 : Int} {p0_5 : List Int} {r : Int × Int × List Int × Int × Int × List Int × Bool} (h : F_spec_MirrorPuzzle n p0_0 p0_1 p0_2 p0_3 p0_4 p0_5 (fun r1 r2 r3 r4 r5 r6 r7 => some (r1, r2, r3, r4, r5, r6, r7)) = some r) : sh_spec_MirrorPuzzle p0_0 p0_1 p0_2 p0_3 p0_4 p0_5 = some r := val_of (fun n m r hm h => by rw [← u_spec_MirrorPuzzle] at h ⊢; exact runFn_mono n_spec_MirrorPuzzle hm h) h
theorem m_spec_MirrorPuzzle : MeetsO Try.prog 37 o_spec_MirrorPuzzle := by
  refine ⟨fun ρ ds K => ?_, ⟨_, meets_run (kp := kp_spec_MirrorPuzzle 1) (weak := true) (df := [[], []]) tsOk (ook_list (l := O_spec_MirrorPuzzle) (fk := E_spec_MirrorPuzzle.fk) (List.forall_mem_cons.2 ⟨m_spec_pzGood, (List.forall_mem_cons.2 ⟨m_spec_boMirrored, (List.forall_mem_cons.2 ⟨m_spec_boMirror, (List.forall_mem_nil _)⟩)⟩)⟩)) mixed Try.func37 (body := b_spec_MirrorPuzzle) (by kernel_rfl) (ntmps := 39) (by kernel_rfl) (rs := [.cell 2 40, .tmp 3]) (by kernel_rfl), fun ds out h => ?_⟩, ⟨_, Try.func37, by kernel_rfl, by kernel_rfl⟩⟩
  · show G_spec_MirrorPuzzle ds K = (G_spec_MirrorPuzzle ds some).bind K
    unfold G_spec_MirrorPuzzle
    split
    · cases sh_spec_MirrorPuzzle _ _ _ _ _ _ <;> rfl
    · rfl
  · replace h : G_spec_MirrorPuzzle ds some = some out := h
    unfold G_spec_MirrorPuzzle at h
    split at h
    · obtain ⟨r, hr, h⟩ := Option.bind_eq_some_iff.1 h
      injection h with h
      subst h
      obtain ⟨n, hn⟩ := val_some hr
      replace hn := (u_spec_MirrorPuzzle n _ _ _ _ _ _).trans hn
      rw [runFn_bind (K := un_spec_MirrorPuzzle) (K' := some) (f := un_spec_MirrorPuzzle) n_spec_MirrorPuzzle (fun _ => rfl)] at hn
      obtain ⟨o, h1, h2⟩ := Option.bind_eq_some_iff.1 hn
      rw [un_spec_MirrorPuzzle_ok h2] at h1
      exact ⟨n, h1⟩
    · cases h
/-! f81 loop.example.g01239.impl.sized -/
noncomputable def b_impl_sized : Code := Try.f81.body.getD .skip
def kp_impl_sized (g : Nat) : Nat → Option Keep := lk []
def O_impl_sized : List (FuncId × Ora) := []
def E_impl_sized : Env := ⟨lk O_impl_sized, fun _ => false⟩
def S_impl_sized_e {ρ : Type} (p0 : Int)   (K : Bool → Option ρ) : Option ρ :=
  (bif decide (p0 ≥ (1 : Int)) then K (decide (p0 ≤ (8 : Int))) else K false)
theorem s_impl_sized_e {ρ : Type} (g fuel : Nat) (p0 : Int) (Kk : Out → Option ρ) : runFn TT E_impl_sized (kp_impl_sized g) fuel [.val] 1 false [[]] 9 [.tmp 2] b_impl_sized [.x (.int .i64 p0)] Kk = S_impl_sized_e p0   (fun r1 => Kk ⟨[.x (.bool r1)], []⟩) := by
  kernel_rfl
def F_impl_sized {ρ : Type} (fuel : Nat) (p0 : Int)  (K : Bool → Option ρ) : Option ρ := S_impl_sized_e p0   K
theorem f_impl_sized {ρ : Type} (fuel : Nat) (p0 : Int) (Kk : Out → Option ρ) : runFn TT E_impl_sized (kp_impl_sized 1) fuel [.val] 1 false [[]] 9 [.tmp 2] b_impl_sized [.x (.int .i64 p0)] Kk = F_impl_sized fuel p0 (fun r1 => Kk ⟨[.x (.bool r1)], []⟩) := by
  rw [s_impl_sized_e, F_impl_sized]
noncomputable def sh_impl_sized (p0 : Int) : Option (Bool) := F_impl_sized 0 p0 (fun r1 => some r1)
noncomputable def G_impl_sized {ρ : Type} : List DU → (Out → Option ρ) → Option ρ
  | [.x (.int .i64 p0)], K => (sh_impl_sized p0).bind fun r => K ⟨[.x (.bool r)], []⟩
  | _, _ => none
noncomputable def o_impl_sized : Ora := ⟨[.val], 1, false, G_impl_sized⟩
def un_impl_sized : Out → Option (Bool)
  | ⟨[.x (.bool r1)], []⟩ => some r1
  | _ => none
theorem un_impl_sized_ok {o : Out} {r : Bool} (h : un_impl_sized o = some r) : o = ⟨[.x (.bool r)], []⟩ := by
  unfold un_impl_sized at h
  split at h
  · injection h with h
    subst h
    rfl
  · cases h
theorem n_impl_sized : ∀ k o, E_impl_sized.fn k = some o → Nat1 o := fun k o h => (ook_list (P := Try.prog) (l := O_impl_sized) (fk := E_impl_sized.fk) (List.forall_mem_nil _)).nat k o h
theorem u_impl_sized (fuel : Nat) (p0 : Int) : runFn TT E_impl_sized (kp_impl_sized 1) fuel [.val] 1 false [[]] 9 [.tmp 2] b_impl_sized [.x (.int .i64 p0)] un_impl_sized = F_impl_sized fuel p0 (fun r1 => some r1) := f_impl_sized fuel p0 un_impl_sized
theorem m_impl_sized : MeetsO Try.prog 81 o_impl_sized := by
  refine ⟨fun ρ ds K => ?_, ⟨_, meets_run (kp := kp_impl_sized 1) (weak := false) (df := [[]]) tsOk (ook_list (l := O_impl_sized) (fk := E_impl_sized.fk) (List.forall_mem_nil _)) mixed Try.func81 (body := b_impl_sized) (by kernel_rfl) (ntmps := 9) (by kernel_rfl) (rs := [.tmp 2]) (by kernel_rfl), fun ds out h => ?_⟩, ⟨_, Try.func81, by kernel_rfl, by kernel_rfl⟩⟩
  · show G_impl_sized ds K = (G_impl_sized ds some).bind K
    unfold G_impl_sized
    split
    · cases sh_impl_sized _ <;> rfl
    · rfl
  · replace h : G_impl_sized ds some = some out := h
    unfold G_impl_sized at h
    split at h
    · obtain ⟨r, hr, h⟩ := Option.bind_eq_some_iff.1 h
      injection h with h
      subst h
      have hn := (u_impl_sized 0 _).trans hr
      rw [runFn_bind (K := un_impl_sized) (K' := some) (f := un_impl_sized) n_impl_sized (fun _ => rfl)] at hn
      obtain ⟨o, h1, h2⟩ := Option.bind_eq_some_iff.1 hn
      rw [un_impl_sized_ok h2] at h1
      exact ⟨0, h1⟩
    · cases h
/-! f56 loop.example.g01239.impl.IsBoard -/
noncomputable def b_impl_IsBoard : Code := Try.f56.body.getD .skip
def kp_impl_IsBoard (g : Nat) : Nat → Option Keep := lk [(4, ⟨[], [1, 27, 28, 29], [4096], [], [], g⟩)]
def O_impl_IsBoard : List (FuncId × Ora) := [(81, o_impl_sized)]
def E_impl_IsBoard : Env := ⟨lk O_impl_IsBoard, fun _ => false⟩
noncomputable def D_impl_IsBoard_0 {ρ : Type} (g fuel : Nat) (p0_0 : Int) (p0_1 : Int) (p0_2 : List Int) (n : Nat) (v27 : List Int) (v28 : Int) (v29 : Int) (c4096_0 : Int) (c4096_1 : Int) (Kk : Out → Option ρ) : Option ρ :=
  iter (run TT E_impl_IsBoard (kp_impl_IsBoard g) fuel (cL (cB (cS2 (cS1 (cS2 (cS2 (b_impl_IsBoard)))))))) (nrmAt (kp_impl_IsBoard g) (firstRid (cL (cB (cS2 (cS1 (cS2 (cS2 (b_impl_IsBoard))))))))) n (⟨[uu, .u (.x (.ptr 4096 0)), uu, uu, uu, uu, uu, uu, uu, uu, uu, uu, uu, uu, uu, uu, uu, uu, uu, uu, uu, uu, uu, uu, uu, uu, uu, .u (.x (.ro (.ints .i64 v27))), .u (.x (.int .i64 v28)), .u (.x (.int .i64 v29)), uu, uu, uu, uu, uu, uu, uu, uu, uu, uu, uu, uu, uu, uu, uu, uu, uu, uu, uu, uu, uu, uu, uu, uu, uu, uu, uu, uu, uu, uu], [(4096, [.int .i64 c4096_0, .int .i64 c4096_1, .ro (.ints .i64 v27)])], [], []⟩) (blkK 0 (seqK (gateAt (kp_impl_IsBoard g) (200000 + firstRid (cS2 (cS2 (cS2 (b_impl_IsBoard)))))) (run TT E_impl_IsBoard (kp_impl_IsBoard g) fuel (cS2 (cS2 (cS2 (b_impl_IsBoard))))) (nrmAt (kp_impl_IsBoard g) (200000 + firstRid (cS2 (cS2 (cS2 (b_impl_IsBoard)))))) (topK TT [.val] false [[]] [.tmp 2] [.agg [.int .i64 p0_0, .int .i64 p0_1, .sl (.ints .i64 p0_2)]] Kk)))
def S_impl_IsBoard_e {ρ : Type} (p0_0 : Int) (p0_1 : Int) (p0_2 : List Int)  (k0 : (List Int → Int → Int → Int → Int → Option ρ)) (K : Bool → Option ρ) : Option ρ :=
  ((sh_impl_sized p0_0).bind fun r1 => (bif !r1 then K false else ((sh_impl_sized p0_1).bind fun r2 => (bif !r2 then K false else (bif decide ((p0_2.length : Int) ≥ (IntKind.i64.wrap (p0_0 * p0_1))) then K false else k0 p0_2 (p0_2.length : Int) (0 : Int) p0_0 p0_1)))))
theorem s_impl_IsBoard_e {ρ : Type} (g fuel : Nat) (p0_0 : Int) (p0_1 : Int) (p0_2 : List Int) (Kk : Out → Option ρ) : runFn TT E_impl_IsBoard (kp_impl_IsBoard g) fuel [.val] 1 false [[]] 60 [.tmp 2] b_impl_IsBoard [.agg [.int .i64 p0_0, .int .i64 p0_1, .sl (.ints .i64 p0_2)]] Kk = S_impl_IsBoard_e p0_0 p0_1 p0_2  (fun v27 v28 v29 c4096_0 c4096_1 => D_impl_IsBoard_0 g fuel p0_0 p0_1 p0_2 fuel v27 v28 v29 c4096_0 c4096_1 Kk) (fun r1 => Kk ⟨[.x (.bool r1)], []⟩) := by
  kernel_rfl
def S_impl_IsBoard_0 {ρ : Type}  (v27 : List Int) (v28 : Int) (v29 : Int) (c4096_0 : Int) (c4096_1 : Int) (b0 : (List Int → Int → Int → Int → Int → Option ρ)) (K : Bool → Option ρ) : Option ρ :=
  (bif decide (v29 < v28) then (if 0 ≤ v29 then (if v29 < (v27.length : Int) then (bif decide ((v27.getD v29.toNat 0) < (0 : Int)) then K false else (bif decide ((v27.getD v29.toNat 0) ≥ (IntKind.i64.wrap (c4096_0 * c4096_1))) then K false else (bif decide (v29 > (0 : Int)) then (if 0 ≤ (IntKind.i64.wrap (v29 - (1 : Int))) then (if (IntKind.i64.wrap (v29 - (1 : Int))) < (v27.length : Int) then (bif decide ((v27.getD ((IntKind.i64.wrap (v29 - (1 : Int))).toNat) 0) ≥ (v27.getD v29.toNat 0)) then K false else b0 v27 v28 (IntKind.i64.wrap (v29 + (1 : Int))) c4096_0 c4096_1) else none) else none) else b0 v27 v28 (IntKind.i64.wrap (v29 + (1 : Int))) c4096_0 c4096_1))) else none) else none) else K true)
theorem s_impl_IsBoard_0 {ρ : Type} (g fuel : Nat) (p0_0 : Int) (p0_1 : Int) (p0_2 : List Int) (n : Nat) (v27 : List Int) (v28 : Int) (v29 : Int) (c4096_0 : Int) (c4096_1 : Int) (Kk : Out → Option ρ) : D_impl_IsBoard_0 g fuel p0_0 p0_1 p0_2  (n + 1) v27 v28 v29 c4096_0 c4096_1 Kk = S_impl_IsBoard_0  v27 v28 v29 c4096_0 c4096_1 (fun v27 v28 v29 c4096_0 c4096_1 => D_impl_IsBoard_0 g fuel p0_0 p0_1 p0_2 n v27 v28 v29 c4096_0 c4096_1 Kk) (fun r1 => Kk ⟨[.x (.bool r1)], []⟩) := by
  kernel_rfl
def F_impl_IsBoard_0 {ρ : Type} (fuel : Nat)   (K : Bool → Option ρ) : Nat → List Int → Int → Int → Int → Int → Option ρ
  | 0, _, _, _, _, _ => none
  | n + 1, v27, v28, v29, c4096_0, c4096_1 => S_impl_IsBoard_0  v27 v28 v29 c4096_0 c4096_1 (F_impl_IsBoard_0 fuel   K n) K
theorem f_impl_IsBoard_0 {ρ : Type} (fuel : Nat) (p0_0 : Int) (p0_1 : Int) (p0_2 : List Int) (Kk : Out → Option ρ) : ∀ (n : Nat) (v27 : List Int) (v28 : Int) (v29 : Int) (c4096_0 : Int) (c4096_1 : Int), D_impl_IsBoard_0 1 fuel p0_0 p0_1 p0_2  n v27 v28 v29 c4096_0 c4096_1 Kk = F_impl_IsBoard_0 fuel   (fun r1 => Kk ⟨[.x (.bool r1)], []⟩) n v27 v28 v29 c4096_0 c4096_1 := by
  intro n
  induction n with
  | zero => intros; rfl
  | succ n ih =>
    intro v27 v28 v29 c4096_0 c4096_1
    rw [s_impl_IsBoard_0, F_impl_IsBoard_0]
    try simp only [ih]
def F_impl_IsBoard {ρ : Type} (fuel : Nat) (p0_0 : Int) (p0_1 : Int) (p0_2 : List Int)  (K : Bool → Option ρ) : Option ρ := S_impl_IsBoard_e p0_0 p0_1 p0_2  (F_impl_IsBoard_0 fuel   K fuel) K
theorem f_impl_IsBoard {ρ : Type} (fuel : Nat) (p0_0 : Int) (p0_1 : Int) (p0_2 : List Int) (Kk : Out → Option ρ) : runFn TT E_impl_IsBoard (kp_impl_IsBoard 1) fuel [.val] 1 false [[]] 60 [.tmp 2] b_impl_IsBoard [.agg [.int .i64 p0_0, .int .i64 p0_1, .sl (.ints .i64 p0_2)]] Kk = F_impl_IsBoard fuel p0_0 p0_1 p0_2 (fun r1 => Kk ⟨[.x (.bool r1)], []⟩) := by
  rw [s_impl_IsBoard_e, F_impl_IsBoard]
  try simp only [f_impl_IsBoard_0]
noncomputable def sh_impl_IsBoard (p0_0 : Int) (p0_1 : Int) (p0_2 : List Int) : Option (Bool) := val fun n => F_impl_IsBoard n p0_0 p0_1 p0_2 (fun r1 => some r1)
noncomputable def G_impl_IsBoard {ρ : Type} : List DU → (Out → Option ρ) → Option ρ
  | [.agg [.int .i64 p0_0, .int .i64 p0_1, .sl (.ints .i64 p0_2)]], K => (sh_impl_IsBoard p0_0 p0_1 p0_2).bind fun r => K ⟨[.x (.bool r)], []⟩
  | _, _ => none
noncomputable def o_impl_IsBoard : Ora := ⟨[.val], 1, false, G_impl_IsBoard⟩
def un_impl_IsBoard : Out → Option (Bool)
  | ⟨[.x (.bool r1)], []⟩ => some r1
  | _ => none
theorem un_impl_IsBoard_ok {o : Out} {r : Bool} (h : un_impl_IsBoard o = some r) : o = ⟨[.x (.bool r)], []⟩ := by
  unfold un_impl_IsBoard at h
  split at h
  · injection h with h
    subst h
    rfl
  · cases h
theorem n_impl_IsBoard : ∀ k o, E_impl_IsBoard.fn k = some o → Nat1 o := fun k o h => (ook_list (P := Try.prog) (l := O_impl_IsBoard) (fk := E_impl_IsBoard.fk) (List.forall_mem_cons.2 ⟨m_impl_sized, (List.forall_mem_nil _)⟩)).nat k o h
theorem u_impl_IsBoard (fuel : Nat) (p0_0 : Int) (p0_1 : Int) (p0_2 : List Int) : runFn TT E_impl_IsBoard (kp_impl_IsBoard 1) fuel [.val] 1 false [[]] 60 [.tmp 2] b_impl_IsBoard [.agg [.int .i64 p0_0, .int .i64 p0_1, .sl (.ints .i64 p0_2)]] un_impl_IsBoard = F_impl_IsBoard fuel p0_0 p0_1 p0_2 (fun r1 => some r1) := f_impl_IsBoard fuel p0_0 p0_1 p0_2 un_impl_IsBoard
theorem sh_impl_IsBoard_of {n : Nat} {p0_0 : Int} {p0_1 : Int} {p0_2 : List Int} {r : Bool} (h : F_impl_IsBoard n p0_0 p0_1 p0_2 (fun r1 => some r1) = some r) : sh_impl_IsBoard p0_0 p0_1 p0_2 = some r := val_of (fun n m r hm h => by rw [← u_impl_IsBoard] at h ⊢; exact runFn_mono n_impl_IsBoard hm h) h
theorem m_impl_IsBoard : MeetsO Try.prog 56 o_impl_IsBoard := by
  refine ⟨fun ρ ds K => ?_, ⟨_, meets_run (kp := kp_impl_IsBoard 1) (weak := false) (df := [[]]) tsOk (ook_list (l := O_impl_IsBoard) (fk := E_impl_IsBoard.fk) (List.forall_mem_cons.2 ⟨m_impl_sized, (List.forall_mem_nil _)⟩)) mixed Try.func56 (body := b_impl_IsBoard) (by kernel_rfl) (ntmps := 60) (by kernel_rfl) (rs := [.tmp 2]) (by kernel_rfl), fun ds out h => ?_⟩, ⟨_, Try.func56, by kernel_rfl, by kernel_rfl⟩⟩
  · show G_impl_IsBoard ds K = (G_impl_IsBoard ds some).bind K
    unfold G_impl_IsBoard
    split
    · cases sh_impl_IsBoard _ _ _ <;> rfl
    · rfl
  · replace h : G_impl_IsBoard ds some = some out := h
    unfold G_impl_IsBoard at h
    split at h
    · obtain ⟨r, hr, h⟩ := Option.bind_eq_some_iff.1 h
      injection h with h
      subst h
      obtain ⟨n, hn⟩ := val_some hr
      replace hn := (u_impl_IsBoard n _ _ _).trans hn
      rw [runFn_bind (K := un_impl_IsBoard) (K' := some) (f := un_impl_IsBoard) n_impl_IsBoard (fun _ => rfl)] at hn
      obtain ⟨o, h1, h2⟩ := Option.bind_eq_some_iff.1 hn
      rw [un_impl_IsBoard_ok h2] at h1
      exact ⟨n, h1⟩
    · cases h
/-! f57 loop.example.g01239.impl.IsLeaper -/
noncomputable def b_impl_IsLeaper : Code := Try.f57.body.getD .skip
def kp_impl_IsLeaper (g : Nat) : Nat → Option Keep := lk []
def O_impl_IsLeaper : List (FuncId × Ora) := []
def E_impl_IsLeaper : Env := ⟨lk O_impl_IsLeaper, fun _ => false⟩
def S_impl_IsLeaper_e {ρ : Type} (p0_0 : Int) (p0_1 : Int)   (K : Bool → Option ρ) : Option ρ :=
  (bif decide (p0_0 ≥ (0 : Int)) then (bif decide (p0_0 ≤ p0_1) then (bif decide (p0_1 ≥ (1 : Int)) then K (decide (p0_1 ≤ (5 : Int))) else K false) else K false) else K false)
theorem s_impl_IsLeaper_e {ρ : Type} (g fuel : Nat) (p0_0 : Int) (p0_1 : Int) (Kk : Out → Option ρ) : runFn TT E_impl_IsLeaper (kp_impl_IsLeaper g) fuel [.val] 1 false [[]] 23 [.tmp 2] b_impl_IsLeaper [.agg [.int .i64 p0_0, .int .i64 p0_1]] Kk = S_impl_IsLeaper_e p0_0 p0_1   (fun r1 => Kk ⟨[.x (.bool r1)], []⟩) := by
  kernel_rfl
def F_impl_IsLeaper {ρ : Type} (fuel : Nat) (p0_0 : Int) (p0_1 : Int)  (K : Bool → Option ρ) : Option ρ := S_impl_IsLeaper_e p0_0 p0_1   K
theorem f_impl_IsLeaper {ρ : Type} (fuel : Nat) (p0_0 : Int) (p0_1 : Int) (Kk : Out → Option ρ) : runFn TT E_impl_IsLeaper (kp_impl_IsLeaper 1) fuel [.val] 1 false [[]] 23 [.tmp 2] b_impl_IsLeaper [.agg [.int .i64 p0_0, .int .i64 p0_1]] Kk = F_impl_IsLeaper fuel p0_0 p0_1 (fun r1 => Kk ⟨[.x (.bool r1)], []⟩) := by
  rw [s_impl_IsLeaper_e, F_impl_IsLeaper]
noncomputable def sh_impl_IsLeaper (p0_0 : Int) (p0_1 : Int) : Option (Bool) := F_impl_IsLeaper 0 p0_0 p0_1 (fun r1 => some r1)
noncomputable def G_impl_IsLeaper {ρ : Type} : List DU → (Out → Option ρ) → Option ρ
  | [.agg [.int .i64 p0_0, .int .i64 p0_1]], K => (sh_impl_IsLeaper p0_0 p0_1).bind fun r => K ⟨[.x (.bool r)], []⟩
  | _, _ => none
noncomputable def o_impl_IsLeaper : Ora := ⟨[.val], 1, false, G_impl_IsLeaper⟩
def un_impl_IsLeaper : Out → Option (Bool)
  | ⟨[.x (.bool r1)], []⟩ => some r1
  | _ => none
theorem un_impl_IsLeaper_ok {o : Out} {r : Bool} (h : un_impl_IsLeaper o = some r) : o = ⟨[.x (.bool r)], []⟩ := by
  unfold un_impl_IsLeaper at h
  split at h
  · injection h with h
    subst h
    rfl
  · cases h
theorem n_impl_IsLeaper : ∀ k o, E_impl_IsLeaper.fn k = some o → Nat1 o := fun k o h => (ook_list (P := Try.prog) (l := O_impl_IsLeaper) (fk := E_impl_IsLeaper.fk) (List.forall_mem_nil _)).nat k o h
theorem u_impl_IsLeaper (fuel : Nat) (p0_0 : Int) (p0_1 : Int) : runFn TT E_impl_IsLeaper (kp_impl_IsLeaper 1) fuel [.val] 1 false [[]] 23 [.tmp 2] b_impl_IsLeaper [.agg [.int .i64 p0_0, .int .i64 p0_1]] un_impl_IsLeaper = F_impl_IsLeaper fuel p0_0 p0_1 (fun r1 => some r1) := f_impl_IsLeaper fuel p0_0 p0_1 un_impl_IsLeaper
theorem m_impl_IsLeaper : MeetsO Try.prog 57 o_impl_IsLeaper := by
  refine ⟨fun ρ ds K => ?_, ⟨_, meets_run (kp := kp_impl_IsLeaper 1) (weak := false) (df := [[]]) tsOk (ook_list (l := O_impl_IsLeaper) (fk := E_impl_IsLeaper.fk) (List.forall_mem_nil _)) mixed Try.func57 (body := b_impl_IsLeaper) (by kernel_rfl) (ntmps := 23) (by kernel_rfl) (rs := [.tmp 2]) (by kernel_rfl), fun ds out h => ?_⟩, ⟨_, Try.func57, by kernel_rfl, by kernel_rfl⟩⟩
  · show G_impl_IsLeaper ds K = (G_impl_IsLeaper ds some).bind K
    unfold G_impl_IsLeaper
    split
    · cases sh_impl_IsLeaper _ _ <;> rfl
    · rfl
  · replace h : G_impl_IsLeaper ds some = some out := h
    unfold G_impl_IsLeaper at h
    split at h
    · obtain ⟨r, hr, h⟩ := Option.bind_eq_some_iff.1 h
      injection h with h
      subst h
      have hn := (u_impl_IsLeaper 0 _ _).trans hr
      rw [runFn_bind (K := un_impl_IsLeaper) (K' := some) (f := un_impl_IsLeaper) n_impl_IsLeaper (fun _ => rfl)] at hn
      obtain ⟨o, h1, h2⟩ := Option.bind_eq_some_iff.1 hn
      rw [un_impl_IsLeaper_ok h2] at h1
      exact ⟨0, h1⟩
    · cases h
/-! f93 slices.Index[[]int,int] -/
noncomputable def b_slices_Index_int_int : Code := Try.f93.body.getD .skip
def kp_slices_Index_int_int (g : Nat) : Nat → Option Keep := lk [(2, ⟨[], [0, 1, 7, 8], [], [], [], g⟩)]
def O_slices_Index_int_int : List (FuncId × Ora) := []
def E_slices_Index_int_int : Env := ⟨lk O_slices_Index_int_int, fun _ => false⟩
noncomputable def D_slices_Index_int_int_0 {ρ : Type} (g fuel : Nat) (p0 : List Int) (p1 : Int) (n : Nat) (v0 : List Int) (v1 : Int) (v7 : Int) (v8 : Int) (Kk : Out → Option ρ) : Option ρ :=
  iter (run TT E_slices_Index_int_int (kp_slices_Index_int_int g) fuel (cL (cB (cS2 (cS1 (cS2 (b_slices_Index_int_int))))))) (nrmAt (kp_slices_Index_int_int g) (firstRid (cL (cB (cS2 (cS1 (cS2 (b_slices_Index_int_int)))))))) n (⟨[.u (.x (.ro (.ints .i64 v0))), .u (.x (.int .i64 v1)), uu, uu, uu, uu, uu, .u (.x (.int .i64 v7)), .u (.x (.int .i64 v8)), uu, uu, uu, uu, uu, uu, uu, uu, uu, uu], [], [], []⟩) (blkK 0 (seqK (gateAt (kp_slices_Index_int_int g) (200000 + firstRid (cS2 (cS2 (b_slices_Index_int_int))))) (run TT E_slices_Index_int_int (kp_slices_Index_int_int g) fuel (cS2 (cS2 (b_slices_Index_int_int)))) (nrmAt (kp_slices_Index_int_int g) (200000 + firstRid (cS2 (cS2 (b_slices_Index_int_int))))) (topK TT [.val, .val] false [[]] [.tmp 4] [.x (.sl (.ints .i64 p0)), .x (.int .i64 p1)] Kk)))
def S_slices_Index_int_int_e {ρ : Type} (p0 : List Int) (p1 : Int)  (k0 : (List Int → Int → Int → Int → Option ρ)) : Option ρ :=
  k0 p0 p1 (p0.length : Int) (0 : Int)
theorem s_slices_Index_int_int_e {ρ : Type} (g fuel : Nat) (p0 : List Int) (p1 : Int) (Kk : Out → Option ρ) : runFn TT E_slices_Index_int_int (kp_slices_Index_int_int g) fuel [.val, .val] 2 false [[]] 19 [.tmp 4] b_slices_Index_int_int [.x (.sl (.ints .i64 p0)), .x (.int .i64 p1)] Kk = S_slices_Index_int_int_e p0 p1  (fun v0 v1 v7 v8 => D_slices_Index_int_int_0 g fuel p0 p1 fuel v0 v1 v7 v8 Kk) := by
  kernel_rfl
def S_slices_Index_int_int_0 {ρ : Type}  (v0 : List Int) (v1 : Int) (v7 : Int) (v8 : Int) (b0 : (List Int → Int → Int → Int → Option ρ)) (K : Int → Option ρ) : Option ρ :=
  (bif decide (v8 < v7) then (if 0 ≤ v8 then (if v8 < (v0.length : Int) then (bif decide (v1 = (v0.getD v8.toNat 0)) then K v8 else b0 v0 v1 v7 (IntKind.i64.wrap (v8 + (1 : Int)))) else none) else none) else K (-1 : Int))
theorem s_slices_Index_int_int_0 {ρ : Type} (g fuel : Nat) (p0 : List Int) (p1 : Int) (n : Nat) (v0 : List Int) (v1 : Int) (v7 : Int) (v8 : Int) (Kk : Out → Option ρ) : D_slices_Index_int_int_0 g fuel p0 p1  (n + 1) v0 v1 v7 v8 Kk = S_slices_Index_int_int_0  v0 v1 v7 v8 (fun v0 v1 v7 v8 => D_slices_Index_int_int_0 g fuel p0 p1 n v0 v1 v7 v8 Kk) (fun r1 => Kk ⟨[.x (.int .i64 r1)], []⟩) := by
  kernel_rfl
def F_slices_Index_int_int_0 {ρ : Type} (fuel : Nat)   (K : Int → Option ρ) : Nat → List Int → Int → Int → Int → Option ρ
  | 0, _, _, _, _ => none
  | n + 1, v0, v1, v7, v8 => S_slices_Index_int_int_0  v0 v1 v7 v8 (F_slices_Index_int_int_0 fuel   K n) K
theorem f_slices_Index_int_int_0 {ρ : Type} (fuel : Nat) (p0 : List Int) (p1 : Int) (Kk : Out → Option ρ) : ∀ (n : Nat) (v0 : List Int) (v1 : Int) (v7 : Int) (v8 : Int), D_slices_Index_int_int_0 1 fuel p0 p1  n v0 v1 v7 v8 Kk = F_slices_Index_int_int_0 fuel   (fun r1 => Kk ⟨[.x (.int .i64 r1)], []⟩) n v0 v1 v7 v8 := by
  intro n
  induction n with
  | zero => intros; rfl
  | succ n ih =>
    intro v0 v1 v7 v8
    rw [s_slices_Index_int_int_0, F_slices_Index_int_int_0]
    try simp only [ih]
def F_slices_Index_int_int {ρ : Type} (fuel : Nat) (p0 : List Int) (p1 : Int)  (K : Int → Option ρ) : Option ρ := S_slices_Index_int_int_e p0 p1  (F_slices_Index_int_int_0 fuel   K fuel)
theorem f_slices_Index_int_int {ρ : Type} (fuel : Nat) (p0 : List Int) (p1 : Int) (Kk : Out → Option ρ) : runFn TT E_slices_Index_int_int (kp_slices_Index_int_int 1) fuel [.val, .val] 2 false [[]] 19 [.tmp 4] b_slices_Index_int_int [.x (.sl (.ints .i64 p0)), .x (.int .i64 p1)] Kk = F_slices_Index_int_int fuel p0 p1 (fun r1 => Kk ⟨[.x (.int .i64 r1)], []⟩) := by
  rw [s_slices_Index_int_int_e, F_slices_Index_int_int]
  try simp only [f_slices_Index_int_int_0]
noncomputable def sh_slices_Index_int_int (p0 : List Int) (p1 : Int) : Option (Int) := val fun n => F_slices_Index_int_int n p0 p1 (fun r1 => some r1)
noncomputable def G_slices_Index_int_int {ρ : Type} : List DU → (Out → Option ρ) → Option ρ
  | [.x (.sl (.ints .i64 p0)), .x (.int .i64 p1)], K => (sh_slices_Index_int_int p0 p1).bind fun r => K ⟨[.x (.int .i64 r)], []⟩
  | _, _ => none
noncomputable def o_slices_Index_int_int : Ora := ⟨[.val, .val], 2, false, G_slices_Index_int_int⟩
def un_slices_Index_int_int : Out → Option (Int)
  | ⟨[.x (.int .i64 r1)], []⟩ => some r1
  | _ => none
theorem un_slices_Index_int_int_ok {o : Out} {r : Int} (h : un_slices_Index_int_int o = some r) : o = ⟨[.x (.int .i64 r)], []⟩ := by
  unfold un_slices_Index_int_int at h
  split at h
  · injection h with h
    subst h
    rfl
  · cases h
theorem n_slices_Index_int_int : ∀ k o, E_slices_Index_int_int.fn k = some o → Nat1 o := fun k o h => (ook_list (P := Try.prog) (l := O_slices_Index_int_int) (fk := E_slices_Index_int_int.fk) (List.forall_mem_nil _)).nat k o h
theorem u_slices_Index_int_int (fuel : Nat) (p0 : List Int) (p1 : Int) : runFn TT E_slices_Index_int_int (kp_slices_Index_int_int 1) fuel [.val, .val] 2 false [[]] 19 [.tmp 4] b_slices_Index_int_int [.x (.sl (.ints .i64 p0)), .x (.int .i64 p1)] un_slices_Index_int_int = F_slices_Index_int_int fuel p0 p1 (fun r1 => some r1) := f_slices_Index_int_int fuel p0 p1 un_slices_Index_int_int
theorem sh_slices_Index_int_int_of {n : Nat} {p0 : List Int} {p1 : Int} {r : Int} (h : F_slices_Index_int_int n p0 p1 (fun r1 => some r1) = some r) : sh_slices_Index_int_int p0 p1 = some r := val_of (fun n m r hm h => by rw [← u_slices_Index_int_int] at h ⊢; exact runFn_mono n_slices_Index_int_int hm h) h
theorem m_slices_Index_int_int : MeetsO Try.prog 93 o_slices_Index_int_int := by
  refine ⟨fun ρ ds K => ?_, ⟨_, meets_run (kp := kp_slices_Index_int_int 1) (weak := false) (df := [[]]) tsOk (ook_list (l := O_slices_Index_int_int) (fk := E_slices_Index_int_int.fk) (List.forall_mem_nil _)) mixed Try.func93 (body := b_slices_Index_int_int) (by kernel_rfl) (ntmps := 19) (by kernel_rfl) (rs := [.tmp 4]) (by kernel_rfl), fun ds out h => ?_⟩, ⟨_, Try.func93, by kernel_rfl, by kernel_rfl⟩⟩
  · show G_slices_Index_int_int ds K = (G_slices_Index_int_int ds some).bind K
    unfold G_slices_Index_int_int
    split
    · cases sh_slices_Index_int_int _ _ <;> rfl
    · rfl
  · replace h : G_slices_Index_int_int ds some = some out := h
    unfold G_slices_Index_int_int at h
    split at h
    · obtain ⟨r, hr, h⟩ := Option.bind_eq_some_iff.1 h
      injection h with h
      subst h
      obtain ⟨n, hn⟩ := val_some hr
      replace hn := (u_slices_Index_int_int n _ _).trans hn
      rw [runFn_bind (K := un_slices_Index_int_int) (K' := some) (f := un_slices_Index_int_int) n_slices_Index_int_int (fun _ => rfl)] at hn
      obtain ⟨o, h1, h2⟩ := Option.bind_eq_some_iff.1 hn
      rw [un_slices_Index_int_int_ok h2] at h1
      exact ⟨n, h1⟩
    · cases h
/-! f82 slices.Contains[[]int,int] -/
noncomputable def b_slices_Contains_int_int : Code := Try.f82.body.getD .skip
def kp_slices_Contains_int_int (g : Nat) : Nat → Option Keep := lk []
def O_slices_Contains_int_int : List (FuncId × Ora) := [(93, o_slices_Index_int_int)]
def E_slices_Contains_int_int : Env := ⟨lk O_slices_Contains_int_int, fun _ => false⟩
def S_slices_Contains_int_int_e {ρ : Type} (p0 : List Int) (p1 : Int)   (K : Bool → Option ρ) : Option ρ :=
  ((sh_slices_Index_int_int p0 p1).bind fun r1 => K (decide (r1 ≥ (0 : Int))))
theorem s_slices_Contains_int_int_e {ρ : Type} (g fuel : Nat) (p0 : List Int) (p1 : Int) (Kk : Out → Option ρ) : runFn TT E_slices_Contains_int_int (kp_slices_Contains_int_int g) fuel [.val, .val] 2 false [[]] 9 [.tmp 4] b_slices_Contains_int_int [.x (.sl (.ints .i64 p0)), .x (.int .i64 p1)] Kk = S_slices_Contains_int_int_e p0 p1   (fun r1 => Kk ⟨[.x (.bool r1)], []⟩) := by
  kernel_rfl
def F_slices_Contains_int_int {ρ : Type} (fuel : Nat) (p0 : List Int) (p1 : Int)  (K : Bool → Option ρ) : Option ρ := S_slices_Contains_int_int_e p0 p1   K
theorem f_slices_Contains_int_int {ρ : Type} (fuel : Nat) (p0 : List Int) (p1 : Int) (Kk : Out → Option ρ) : runFn TT E_slices_Contains_int_int (kp_slices_Contains_int_int 1) fuel [.val, .val] 2 false [[]] 9 [.tmp 4] b_slices_Contains_int_int [.x (.sl (.ints .i64 p0)), .x (.int .i64 p1)] Kk = F_slices_Contains_int_int fuel p0 p1 (fun r1 => Kk ⟨[.x (.bool r1)], []⟩) := by
  rw [s_slices_Contains_int_int_e, F_slices_Contains_int_int]
noncomputable def sh_slices_Contains_int_int (p0 : List Int) (p1 : Int) : Option (Bool) := F_slices_Contains_int_int 0 p0 p1 (fun r1 => some r1)
noncomputable def G_slices_Contains_int_int {ρ : Type} : List DU → (Out → Option ρ) → Option ρ
  | [.x (.sl (.ints .i64 p0)), .x (.int .i64 p1)], K => (sh_slices_Contains_int_int p0 p1).bind fun r => K ⟨[.x (.bool r)], []⟩
  | _, _ => none
noncomputable def o_slices_Contains_int_int : Ora := ⟨[.val, .val], 2, false, G_slices_Contains_int_int⟩
def un_slices_Contains_int_int : Out → Option (Bool)
  | ⟨[.x (.bool r1)], []⟩ => some r1
  | _ => none
theorem un_slices_Contains_int_int_ok {o : Out} {r : Bool} (h : un_slices_Contains_int_int o = some r) : o = ⟨[.x (.bool r)], []⟩ := by
  unfold un_slices_Contains_int_int at h
  split at h
  · injection h with h
    subst h
    rfl
  · cases h
theorem n_slices_Contains_int_int : ∀ k o, E_slices_Contains_int_int.fn k = some o → Nat1 o := fun k o h => (ook_list (P := Try.prog) (l := O_slices_Contains_int_int) (fk := E_slices_Contains_int_int.fk) (List.forall_mem_cons.2 ⟨m_slices_Index_int_int, (List.forall_mem_nil _)⟩)).nat k o h
theorem u_slices_Contains_int_int (fuel : Nat) (p0 : List Int) (p1 : Int) : runFn TT E_slices_Contains_int_int (kp_slices_Contains_int_int 1) fuel [.val, .val] 2 false [[]] 9 [.tmp 4] b_slices_Contains_int_int [.x (.sl (.ints .i64 p0)), .x (.int .i64 p1)] un_slices_Contains_int_int = F_slices_Contains_int_int fuel p0 p1 (fun r1 => some r1) := f_slices_Contains_int_int fuel p0 p1 un_slices_Contains_int_int
theorem m_slices_Contains_int_int : MeetsO Try.prog 82 o_slices_Contains_int_int := by
  refine ⟨fun ρ ds K => ?_, ⟨_, meets_run (kp := kp_slices_Contains_int_int 1) (weak := false) (df := [[]]) tsOk (ook_list (l := O_slices_Contains_int_int) (fk := E_slices_Contains_int_int.fk) (List.forall_mem_cons.2 ⟨m_slices_Index_int_int, (List.forall_mem_nil _)⟩)) mixed Try.func82 (body := b_slices_Contains_int_int) (by kernel_rfl) (ntmps := 9) (by kernel_rfl) (rs := [.tmp 4]) (by kernel_rfl), fun ds out h => ?_⟩, ⟨_, Try.func82, by kernel_rfl, by kernel_rfl⟩⟩
  · show G_slices_Contains_int_int ds K = (G_slices_Contains_int_int ds some).bind K
    unfold G_slices_Contains_int_int
    split
    · cases sh_slices_Contains_int_int _ _ <;> rfl
    · rfl
  · replace h : G_slices_Contains_int_int ds some = some out := h
    unfold G_slices_Contains_int_int at h
    split at h
    · obtain ⟨r, hr, h⟩ := Option.bind_eq_some_iff.1 h
      injection h with h
      subst h
      have hn := (u_slices_Contains_int_int 0 _ _).trans hr
      rw [runFn_bind (K := un_slices_Contains_int_int) (K' := some) (f := un_slices_Contains_int_int) n_slices_Contains_int_int (fun _ => rfl)] at hn
      obtain ⟨o, h1, h2⟩ := Option.bind_eq_some_iff.1 hn
      rw [un_slices_Contains_int_int_ok h2] at h1
      exact ⟨0, h1⟩
    · cases h
/-! f58 (loop.example.g01239.impl.Board).has -/
noncomputable def b_impl_Board_has : Code := Try.f58.body.getD .skip
def kp_impl_Board_has (g : Nat) : Nat → Option Keep := lk []
def O_impl_Board_has : List (FuncId × Ora) := [(82, o_slices_Contains_int_int)]
def E_impl_Board_has : Env := ⟨lk O_impl_Board_has, fun _ => false⟩
def S_impl_Board_has_e {ρ : Type} (p0_0 : Int) (p0_1 : Int) (p0_2 : List Int) (p1 : Int)   (K : Bool → Option ρ) : Option ρ :=
  (bif decide (p1 ≥ (0 : Int)) then (bif decide (p1 < (IntKind.i64.wrap (p0_0 * p0_1))) then ((sh_slices_Contains_int_int p0_2 p1).bind fun r1 => K !r1) else K false) else K false)
theorem s_impl_Board_has_e {ρ : Type} (g fuel : Nat) (p0_0 : Int) (p0_1 : Int) (p0_2 : List Int) (p1 : Int) (Kk : Out → Option ρ) : runFn TT E_impl_Board_has (kp_impl_Board_has g) fuel [.val, .val] 2 false [[]] 23 [.tmp 4] b_impl_Board_has [.agg [.int .i64 p0_0, .int .i64 p0_1, .sl (.ints .i64 p0_2)], .x (.int .i64 p1)] Kk = S_impl_Board_has_e p0_0 p0_1 p0_2 p1   (fun r1 => Kk ⟨[.x (.bool r1)], []⟩) := by
  kernel_rfl
def F_impl_Board_has {ρ : Type} (fuel : Nat) (p0_0 : Int) (p0_1 : Int) (p0_2 : List Int) (p1 : Int)  (K : Bool → Option ρ) : Option ρ := S_impl_Board_has_e p0_0 p0_1 p0_2 p1   K
theorem f_impl_Board_has {ρ : Type} (fuel : Nat) (p0_0 : Int) (p0_1 : Int) (p0_2 : List Int) (p1 : Int) (Kk : Out → Option ρ) : runFn TT E_impl_Board_has (kp_impl_Board_has 1) fuel [.val, .val] 2 false [[]] 23 [.tmp 4] b_impl_Board_has [.agg [.int .i64 p0_0, .int .i64 p0_1, .sl (.ints .i64 p0_2)], .x (.int .i64 p1)] Kk = F_impl_Board_has fuel p0_0 p0_1 p0_2 p1 (fun r1 => Kk ⟨[.x (.bool r1)], []⟩) := by
  rw [s_impl_Board_has_e, F_impl_Board_has]
noncomputable def sh_impl_Board_has (p0_0 : Int) (p0_1 : Int) (p0_2 : List Int) (p1 : Int) : Option (Bool) := F_impl_Board_has 0 p0_0 p0_1 p0_2 p1 (fun r1 => some r1)
noncomputable def G_impl_Board_has {ρ : Type} : List DU → (Out → Option ρ) → Option ρ
  | [.agg [.int .i64 p0_0, .int .i64 p0_1, .sl (.ints .i64 p0_2)], .x (.int .i64 p1)], K => (sh_impl_Board_has p0_0 p0_1 p0_2 p1).bind fun r => K ⟨[.x (.bool r)], []⟩
  | _, _ => none
noncomputable def o_impl_Board_has : Ora := ⟨[.val, .val], 2, false, G_impl_Board_has⟩
def un_impl_Board_has : Out → Option (Bool)
  | ⟨[.x (.bool r1)], []⟩ => some r1
  | _ => none
theorem un_impl_Board_has_ok {o : Out} {r : Bool} (h : un_impl_Board_has o = some r) : o = ⟨[.x (.bool r)], []⟩ := by
  unfold un_impl_Board_has at h
  split at h
  · injection h with h
    subst h
    rfl
  · cases h
theorem n_impl_Board_has : ∀ k o, E_impl_Board_has.fn k = some o → Nat1 o := fun k o h => (ook_list (P := Try.prog) (l := O_impl_Board_has) (fk := E_impl_Board_has.fk) (List.forall_mem_cons.2 ⟨m_slices_Contains_int_int, (List.forall_mem_nil _)⟩)).nat k o h
theorem u_impl_Board_has (fuel : Nat) (p0_0 : Int) (p0_1 : Int) (p0_2 : List Int) (p1 : Int) : runFn TT E_impl_Board_has (kp_impl_Board_has 1) fuel [.val, .val] 2 false [[]] 23 [.tmp 4] b_impl_Board_has [.agg [.int .i64 p0_0, .int .i64 p0_1, .sl (.ints .i64 p0_2)], .x (.int .i64 p1)] un_impl_Board_has = F_impl_Board_has fuel p0_0 p0_1 p0_2 p1 (fun r1 => some r1) := f_impl_Board_has fuel p0_0 p0_1 p0_2 p1 un_impl_Board_has
theorem m_impl_Board_has : MeetsO Try.prog 58 o_impl_Board_has := by
  refine ⟨fun ρ ds K => ?_, ⟨_, meets_run (kp := kp_impl_Board_has 1) (weak := false) (df := [[]]) tsOk (ook_list (l := O_impl_Board_has) (fk := E_impl_Board_has.fk) (List.forall_mem_cons.2 ⟨m_slices_Contains_int_int, (List.forall_mem_nil _)⟩)) mixed Try.func58 (body := b_impl_Board_has) (by kernel_rfl) (ntmps := 23) (by kernel_rfl) (rs := [.tmp 4]) (by kernel_rfl), fun ds out h => ?_⟩, ⟨_, Try.func58, by kernel_rfl, by kernel_rfl⟩⟩
  · show G_impl_Board_has ds K = (G_impl_Board_has ds some).bind K
    unfold G_impl_Board_has
    split
    · cases sh_impl_Board_has _ _ _ _ <;> rfl
    · rfl
  · replace h : G_impl_Board_has ds some = some out := h
    unfold G_impl_Board_has at h
    split at h
    · obtain ⟨r, hr, h⟩ := Option.bind_eq_some_iff.1 h
      injection h with h
      subst h
      have hn := (u_impl_Board_has 0 _ _ _ _).trans hr
      rw [runFn_bind (K := un_impl_Board_has) (K' := some) (f := un_impl_Board_has) n_impl_Board_has (fun _ => rfl)] at hn
      obtain ⟨o, h1, h2⟩ := Option.bind_eq_some_iff.1 hn
      rw [un_impl_Board_has_ok h2] at h1
      exact ⟨0, h1⟩
    · cases h
/-! f21 loop.example.g01239.impl.IsPuzzle -/
noncomputable def b_impl_IsPuzzle : Code := Try.f21.body.getD .skip
def kp_impl_IsPuzzle (g : Nat) : Nat → Option Keep := lk [(8, ⟨[], [1, 3, 4, 44, 45, 46], [4096], [], [], g⟩)]
def O_impl_IsPuzzle : List (FuncId × Ora) := [(56, o_impl_IsBoard), (57, o_impl_IsLeaper), (58, o_impl_Board_has)]
def E_impl_IsPuzzle : Env := ⟨lk O_impl_IsPuzzle, fun _ => false⟩
noncomputable def D_impl_IsPuzzle_0 {ρ : Type} (g fuel : Nat) (p0_0 : Int) (p0_1 : Int) (p0_2 : List Int) (p0_3 : Int) (p0_4 : Int) (p0_5 : List Int) (n : Nat) (v3 : Int) (v4 : List Bool) (v44 : List Int) (v45 : Int) (v46 : Int) (c4096_0 : Int) (c4096_1 : Int) (c4096_2 : List Int) (c4096_3 : Int) (c4096_4 : Int) (Kk : Out → Option ρ) : Option ρ :=
  iter (run TT E_impl_IsPuzzle (kp_impl_IsPuzzle g) fuel (cL (cB (cS2 (cS1 (cS2 (cS2 (cS2 (cS2 (cS2 (b_impl_IsPuzzle))))))))))) (nrmAt (kp_impl_IsPuzzle g) (firstRid (cL (cB (cS2 (cS1 (cS2 (cS2 (cS2 (cS2 (cS2 (b_impl_IsPuzzle)))))))))))) n (⟨[uu, .u (.x (.ptr 4096 0)), uu, .u (.x (.int .i64 v3)), .u (.x (.own 10272 (.bools v4))), uu, uu, uu, uu, uu, uu, uu, uu, uu, uu, uu, uu, uu, uu, uu, uu, uu, uu, uu, uu, uu, uu, uu, uu, uu, uu, uu, uu, uu, uu, uu, uu, uu, uu, uu, uu, uu, uu, uu, .u (.x (.ro (.ints .i64 v44))), .u (.x (.int .i64 v45)), .u (.x (.int .i64 v46)), uu, uu, uu, uu, uu, uu, uu, uu, uu, uu, uu, uu, uu, uu, uu, uu, uu, uu, uu, uu, uu, uu, uu, uu, uu, uu, uu, uu, uu, uu], [(4096, [.int .i64 c4096_0, .int .i64 c4096_1, .ro (.ints .i64 c4096_2), .int .i64 c4096_3, .int .i64 c4096_4, .ro (.ints .i64 v44)])], [], []⟩) (blkK 0 (seqK (gateAt (kp_impl_IsPuzzle g) (200000 + firstRid (cS2 (cS2 (cS2 (cS2 (cS2 (cS2 (b_impl_IsPuzzle))))))))) (run TT E_impl_IsPuzzle (kp_impl_IsPuzzle g) fuel (cS2 (cS2 (cS2 (cS2 (cS2 (cS2 (b_impl_IsPuzzle)))))))) (nrmAt (kp_impl_IsPuzzle g) (200000 + firstRid (cS2 (cS2 (cS2 (cS2 (cS2 (cS2 (b_impl_IsPuzzle))))))))) (topK TT [.val] false [[]] [.tmp 2] [.agg [.int .i64 p0_0, .int .i64 p0_1, .sl (.ints .i64 p0_2), .int .i64 p0_3, .int .i64 p0_4, .sl (.ints .i64 p0_5)]] Kk)))
def S_impl_IsPuzzle_e {ρ : Type} (p0_0 : Int) (p0_1 : Int) (p0_2 : List Int) (p0_3 : Int) (p0_4 : Int) (p0_5 : List Int)  (k0 : (Int → List Bool → List Int → Int → Int → Int → Int → List Int → Int → Int → Option ρ)) (K : Bool → Option ρ) : Option ρ :=
  ((sh_impl_IsBoard p0_0 p0_1 p0_2).bind fun r1 => (bif !r1 then K false else ((sh_impl_IsLeaper p0_3 p0_4).bind fun r2 => (bif !r2 then K false else (bif !decide ((p0_5.length : Int) = (IntKind.i64.wrap (p0_0 * p0_1))) then K false else (bif decide ((IntKind.i64.wrap ((p0_5.length : Int) - (p0_2.length : Int))) > (16 : Int)) then K false else (if 0 ≤ (IntKind.i64.wrap ((IntKind.i64.wrap ((p0_5.length : Int) - (p0_2.length : Int))) + (1 : Int))) then (if (IntKind.i64.wrap ((IntKind.i64.wrap ((p0_5.length : Int) - (p0_2.length : Int))) + (1 : Int))) ≤ 1099511627776 then k0 (IntKind.i64.wrap ((p0_5.length : Int) - (p0_2.length : Int))) (List.replicate (IntKind.i64.wrap ((IntKind.i64.wrap ((p0_5.length : Int) - (p0_2.length : Int))) + (1 : Int))).toNat false) p0_5 (p0_5.length : Int) (0 : Int) p0_0 p0_1 p0_2 p0_3 p0_4 else none) else none)))))))
theorem s_impl_IsPuzzle_e {ρ : Type} (g fuel : Nat) (p0_0 : Int) (p0_1 : Int) (p0_2 : List Int) (p0_3 : Int) (p0_4 : Int) (p0_5 : List Int) (Kk : Out → Option ρ) : runFn TT E_impl_IsPuzzle (kp_impl_IsPuzzle g) fuel [.val] 1 false [[]] 77 [.tmp 2] b_impl_IsPuzzle [.agg [.int .i64 p0_0, .int .i64 p0_1, .sl (.ints .i64 p0_2), .int .i64 p0_3, .int .i64 p0_4, .sl (.ints .i64 p0_5)]] Kk = S_impl_IsPuzzle_e p0_0 p0_1 p0_2 p0_3 p0_4 p0_5  (fun v3 v4 v44 v45 v46 c4096_0 c4096_1 c4096_2 c4096_3 c4096_4 => D_impl_IsPuzzle_0 g fuel p0_0 p0_1 p0_2 p0_3 p0_4 p0_5 fuel v3 v4 v44 v45 v46 c4096_0 c4096_1 c4096_2 c4096_3 c4096_4 Kk) (fun r1 => Kk ⟨[.x (.bool r1)], []⟩) := by
  kernel_rfl
def S_impl_IsPuzzle_0 {ρ : Type}  (v3 : Int) (v4 : List Bool) (v44 : List Int) (v45 : Int) (v46 : Int) (c4096_0 : Int) (c4096_1 : Int) (c4096_2 : List Int) (c4096_3 : Int) (c4096_4 : Int) (b0 : (Int → List Bool → List Int → Int → Int → Int → Int → List Int → Int → Int → Option ρ)) (K : Bool → Option ρ) : Option ρ :=
  (bif decide (v46 < v45) then (if 0 ≤ v46 then (if v46 < (v44.length : Int) then (bif decide ((v44.getD v46.toNat 0) = (0 : Int)) then b0 v3 v4 v44 v45 (IntKind.i64.wrap (v46 + (1 : Int))) c4096_0 c4096_1 c4096_2 c4096_3 c4096_4 else (bif decide ((v44.getD v46.toNat 0) < (0 : Int)) then K false else (bif decide ((v44.getD v46.toNat 0) > v3) then K false else ((sh_impl_Board_has c4096_0 c4096_1 c4096_2 v46).bind fun r1 => (bif !r1 then K false else (if 0 ≤ (v44.getD v46.toNat 0) then (if (v44.getD v46.toNat 0) < (v4.length : Int) then (bif v4.getD ((v44.getD v46.toNat 0).toNat) false then K false else (if 0 ≤ (v44.getD v46.toNat 0) then (if (v44.getD v46.toNat 0) < (v4.length : Int) then b0 v3 (v4.set ((v44.getD v46.toNat 0).toNat) true) v44 v45 (IntKind.i64.wrap (v46 + (1 : Int))) c4096_0 c4096_1 c4096_2 c4096_3 c4096_4 else none) else none)) else none) else none)))))) else none) else none) else K true)
theorem s_impl_IsPuzzle_0 {ρ : Type} (g fuel : Nat) (p0_0 : Int) (p0_1 : Int) (p0_2 : List Int) (p0_3 : Int) (p0_4 : Int) (p0_5 : List Int) (n : Nat) (v3 : Int) (v4 : List Bool) (v44 : List Int) (v45 : Int) (v46 : Int) (c4096_0 : Int) (c4096_1 : Int) (c4096_2 : List Int) (c4096_3 : Int) (c4096_4 : Int) (Kk : Out → Option ρ) : D_impl_IsPuzzle_0 g fuel p0_0 p0_1 p0_2 p0_3 p0_4 p0_5  (n + 1) v3 v4 v44 v45 v46 c4096_0 c4096_1 c4096_2 c4096_3 c4096_4 Kk = S_impl_IsPuzzle_0  v3 v4 v44 v45 v46 c4096_0 c4096_1 c4096_2 c4096_3 c4096_4 (fun v3 v4 v44 v45 v46 c4096_0 c4096_1 c4096_2 c4096_3 c4096_4 => D_impl_IsPuzzle_0 g fuel p0_0 p0_1 p0_2 p0_3 p0_4 p0_5 n v3 v4 v44 v45 v46 c4096_0 c4096_1 c4096_2 c4096_3 c4096_4 Kk) (fun r1 => Kk ⟨[.x (.bool r1)], []⟩) := by
  kernel_rfl
def F_impl_IsPuzzle_0 {ρ : Type} (fuel : Nat)   (K : Bool → Option ρ) : Nat → Int → List Bool → List Int → Int → Int → Int → Int → List Int → Int → Int → Option ρ
  | 0, _, _, _, _, _, _, _, _, _, _ => none
  | n + 1, v3, v4, v44, v45, v46, c4096_0, c4096_1, c4096_2, c4096_3, c4096_4 => S_impl_IsPuzzle_0  v3 v4 v44 v45 v46 c4096_0 c4096_1 c4096_2 c4096_3 c4096_4 (F_impl_IsPuzzle_0 fuel   K n) K
theorem f_impl_IsPuzzle_0 {ρ : Type} (fuel : Nat) (p0_0 : Int) (p0_1 : Int) (p0_2 : List Int) (p0_3 : Int) (p0_4 : Int) (p0_5 : List Int) (Kk : Out → Option ρ) : ∀ (n : Nat) (v3 : Int) (v4 : List Bool) (v44 : List Int) (v45 : Int) (v46 : Int) (c4096_0 : Int) (c4096_1 : Int) (c4096_2 : List Int) (c4096_3 : Int) (c4096_4 : Int), D_impl_IsPuzzle_0 1 fuel p0_0 p0_1 p0_2 p0_3 p0_4 p0_5  n v3 v4 v44 v45 v46 c4096_0 c4096_1 c4096_2 c4096_3 c4096_4 Kk = F_impl_IsPuzzle_0 fuel   (fun r1 => Kk ⟨[.x (.bool r1)], []⟩) n v3 v4 v44 v45 v46 c4096_0 c4096_1 c4096_2 c4096_3 c4096_4 := by
  intro n
  induction n with
  | zero => intros; rfl
  | succ n ih =>
    intro v3 v4 v44 v45 v46 c4096_0 c4096_1 c4096_2 c4096_3 c4096_4
    rw [s_impl_IsPuzzle_0, F_impl_IsPuzzle_0]
    try simp only [ih]
def F_impl_IsPuzzle {ρ : Type} (fuel : Nat) (p0_0 : Int) (p0_1 : Int) (p0_2 : List Int) (p0_3 : Int) (p0_4 : Int) (p0_5 : List Int)  (K : Bool → Option ρ) : Option ρ := S_impl_IsPuzzle_e p0_0 p0_1 p0_2 p0_3 p0_4 p0_5  (F_impl_IsPuzzle_0 fuel   K fuel) K
theorem f_impl_IsPuzzle {ρ : Type} (fuel : Nat) (p0_0 : Int) (p0_1 : Int) (p0_2 : List Int) (p0_3 : Int) (p0_4 : Int) (p0_5 : List Int) (Kk : Out → Option ρ) : runFn TT E_impl_IsPuzzle (kp_impl_IsPuzzle 1) fuel [.val] 1 false [[]] 77 [.tmp 2] b_impl_IsPuzzle [.agg [.int .i64 p0_0, .int .i64 p0_1, .sl (.ints .i64 p0_2), .int .i64 p0_3, .int .i64 p0_4, .sl (.ints .i64 p0_5)]] Kk = F_impl_IsPuzzle fuel p0_0 p0_1 p0_2 p0_3 p0_4 p0_5 (fun r1 => Kk ⟨[.x (.bool r1)], []⟩) := by
  rw [s_impl_IsPuzzle_e, F_impl_IsPuzzle]
  try simp only [f_impl_IsPuzzle_0]
noncomputable def sh_impl_IsPuzzle (p0_0 : Int) (p0_1 : Int) (p0_2 : List Int) (p0_3 : Int) (p0_4 : Int) (p0_5 : List Int) : Option (Bool) := val fun n => F_impl_IsPuzzle n p0_0 p0_1 p0_2 p0_3 p0_4 p0_5 (fun r1 => some r1)
noncomputable def G_impl_IsPuzzle {ρ : Type} : List DU → (Out → Option ρ) → Option ρ
  | [.agg [.int .i64 p0_0, .int .i64 p0_1, .sl (.ints .i64 p0_2), .int .i64 p0_3, .int .i64 p0_4, .sl (.ints .i64 p0_5)]], K => (sh_impl_IsPuzzle p0_0 p0_1 p0_2 p0_3 p0_4 p0_5).bind fun r => K ⟨[.x (.bool r)], []⟩
  | _, _ => none
noncomputable def o_impl_IsPuzzle : Ora := ⟨[.val], 1, false, G_impl_IsPuzzle⟩
def un_impl_IsPuzzle : Out → Option (Bool)
  | ⟨[.x (.bool r1)], []⟩ => some r1
  | _ => none
theorem un_impl_IsPuzzle_ok {o : Out} {r : Bool} (h : un_impl_IsPuzzle o = some r) : o = ⟨[.x (.bool r)], []⟩ := by
  unfold un_impl_IsPuzzle at h
  split at h
  · injection h with h
    subst h
    rfl
  · cases h
theorem n_impl_IsPuzzle : ∀ k o, E_impl_IsPuzzle.fn k = some o → Nat1 o := fun k o h => (ook_list (P := Try.prog) (l := O_impl_IsPuzzle) (fk := E_impl_IsPuzzle.fk) (List.forall_mem_cons.2 ⟨m_impl_IsBoard, (List.forall_mem_cons.2 ⟨m_impl_IsLeaper, (List.forall_mem_cons.2 ⟨m_impl_Board_has, (List.forall_mem_nil _)⟩)⟩)⟩)).nat k o h
theorem u_impl_IsPuzzle (fuel : Nat) (p0_0 : Int) (p0_1 : Int) (p0_2 : List Int) (p0_3 : Int) (p0_4 : Int) (p0_5 : List Int) : runFn TT E_impl_IsPuzzle (kp_impl_IsPuzzle 1) fuel [.val] 1 false [[]] 77 [.tmp 2] b_impl_IsPuzzle [.agg [.int .i64 p0_0, .int .i64 p0_1, .sl (.ints .i64 p0_2), .int .i64 p0_3, .int .i64 p0_4, .sl (.ints .i64 p0_5)]] un_impl_IsPuzzle = F_impl_IsPuzzle fuel p0_0 p0_1 p0_2 p0_3 p0_4 p0_5 (fun r1 => some r1) := f_impl_IsPuzzle fuel p0_0 p0_1 p0_2 p0_3 p0_4 p0_5 un_impl_IsPuzzle
theorem sh_impl_IsPuzzle_of {n : Nat} {p0_0 : Int} {p0_1 : Int} {p0_2 : List Int} {p0_3 : Int} {p0_4 : Int} {p0_5 : List Int} {r : Bool} (h : F_impl_IsPuzzle n p0_0 p0_1 p0_2 p0_3 p0_4 p0_5 (fun r1 => some r1) = some r) : sh_impl_IsPuzzle p0_0 p0_1 p0_2 p0_3 p0_4 p0_5 = some r := val_of (fun n m r hm h => by rw [← u_impl_IsPuzzle] at h ⊢; exact runFn_mono n_impl_IsPuzzle hm h) h
theorem m_impl_IsPuzzle : MeetsO Try.prog 21 o_impl_IsPuzzle := by
  refine ⟨fun ρ ds K => ?_, ⟨_, meets_run (kp := kp_impl_IsPuzzle 1) (weak := false) (df := [[]]) tsOk (ook_list (l := O_impl_IsPuzzle) (fk := E_impl_IsPuzzle.fk) (List.forall_mem_cons.2 ⟨m_impl_IsBoard, (List.forall_mem_cons.2 ⟨m_impl_IsLeaper, (List.forall_mem_cons.2 ⟨m_impl_Board_has, (List.forall_mem_nil _)⟩)⟩)⟩)) mixed Try.func21 (body := b_impl_IsPuzzle) (by kernel_rfl) (ntmps := 77) (by kernel_rfl) (rs := [.tmp 2]) (by kernel_rfl), fun ds out h => ?_⟩, ⟨_, Try.func21, by kernel_rfl, by kernel_rfl⟩⟩
  · show G_impl_IsPuzzle ds K = (G_impl_IsPuzzle ds some).bind K
    unfold G_impl_IsPuzzle
    split
    · cases sh_impl_IsPuzzle _ _ _ _ _ _ <;> rfl
    · rfl
  · replace h : G_impl_IsPuzzle ds some = some out := h
    unfold G_impl_IsPuzzle at h
    split at h
    · obtain ⟨r, hr, h⟩ := Option.bind_eq_some_iff.1 h
      injection h with h
      subst h
      obtain ⟨n, hn⟩ := val_some hr
      replace hn := (u_impl_IsPuzzle n _ _ _ _ _ _).trans hn
      rw [runFn_bind (K := un_impl_IsPuzzle) (K' := some) (f := un_impl_IsPuzzle) n_impl_IsPuzzle (fun _ => rfl)] at hn
      obtain ⟨o, h1, h2⟩ := Option.bind_eq_some_iff.1 hn
      rw [un_impl_IsPuzzle_ok h2] at h1
      exact ⟨n, h1⟩
    · cases h
/-! f69 (loop.example.g01239.impl.Board).mirrored -/
noncomputable def b_impl_Board_mirrored : Code := Try.f69.body.getD .skip
def kp_impl_Board_mirrored (g : Nat) : Nat → Option Keep := lk []
def O_impl_Board_mirrored : List (FuncId × Ora) := []
def E_impl_Board_mirrored : Env := ⟨lk O_impl_Board_mirrored, fun _ => false⟩
def S_impl_Board_mirrored_e {ρ : Type} (p0_0 : Int) (p0_1 : Int) (p0_2 : List Int) (p1 : Int)   (K : Int → Option ρ) : Option ρ :=
  (if p0_0 = 0 then none else (if p0_0 = 0 then none else K (IntKind.i64.wrap ((IntKind.i64.wrap ((IntKind.i64.wrap ((IntKind.i64.wrap ((IntKind.i64.wrap (p1.tdiv p0_0)) * p0_0)) + p0_0)) - (1 : Int))) - (p1.tmod p0_0)))))
theorem s_impl_Board_mirrored_e {ρ : Type} (g fuel : Nat) (p0_0 : Int) (p0_1 : Int) (p0_2 : List Int) (p1 : Int) (Kk : Out → Option ρ) : runFn TT E_impl_Board_mirrored (kp_impl_Board_mirrored g) fuel [.val, .val] 2 false [[]] 21 [.tmp 4] b_impl_Board_mirrored [.agg [.int .i64 p0_0, .int .i64 p0_1, .sl (.ints .i64 p0_2)], .x (.int .i64 p1)] Kk = S_impl_Board_mirrored_e p0_0 p0_1 p0_2 p1   (fun r1 => Kk ⟨[.x (.int .i64 r1)], []⟩) := by
  kernel_rfl
def F_impl_Board_mirrored {ρ : Type} (fuel : Nat) (p0_0 : Int) (p0_1 : Int) (p0_2 : List Int) (p1 : Int)  (K : Int → Option ρ) : Option ρ := S_impl_Board_mirrored_e p0_0 p0_1 p0_2 p1   K
theorem f_impl_Board_mirrored {ρ : Type} (fuel : Nat) (p0_0 : Int) (p0_1 : Int) (p0_2 : List Int) (p1 : Int) (Kk : Out → Option ρ) : runFn TT E_impl_Board_mirrored (kp_impl_Board_mirrored 1) fuel [.val, .val] 2 false [[]] 21 [.tmp 4] b_impl_Board_mirrored [.agg [.int .i64 p0_0, .int .i64 p0_1, .sl (.ints .i64 p0_2)], .x (.int .i64 p1)] Kk = F_impl_Board_mirrored fuel p0_0 p0_1 p0_2 p1 (fun r1 => Kk ⟨[.x (.int .i64 r1)], []⟩) := by
  rw [s_impl_Board_mirrored_e, F_impl_Board_mirrored]
noncomputable def sh_impl_Board_mirrored (p0_0 : Int) (p0_1 : Int) (p0_2 : List Int) (p1 : Int) : Option (Int) := F_impl_Board_mirrored 0 p0_0 p0_1 p0_2 p1 (fun r1 => some r1)
noncomputable def G_impl_Board_mirrored {ρ : Type} : List DU → (Out → Option ρ) → Option ρ
  | [.agg [.int .i64 p0_0, .int .i64 p0_1, .sl (.ints .i64 p0_2)], .x (.int .i64 p1)], K => (sh_impl_Board_mirrored p0_0 p0_1 p0_2 p1).bind fun r => K ⟨[.x (.int .i64 r)], []⟩
  | _, _ => none
noncomputable def o_impl_Board_mirrored : Ora := ⟨[.val, .val], 2, false, G_impl_Board_mirrored⟩
def un_impl_Board_mirrored : Out → Option (Int)
  | ⟨[.x (.int .i64 r1)], []⟩ => some r1
  | _ => none
theorem un_impl_Board_mirrored_ok {o : Out} {r : Int} (h : un_impl_Board_mirrored o = some r) : o = ⟨[.x (.int .i64 r)], []⟩ := by
  unfold un_impl_Board_mirrored at h
  split at h
  · injection h with h
    subst h
    rfl
  · cases h
theorem n_impl_Board_mirrored : ∀ k o, E_impl_Board_mirrored.fn k = some o → Nat1 o := fun k o h => (ook_list (P := Try.prog) (l := O_impl_Board_mirrored) (fk := E_impl_Board_mirrored.fk) (List.forall_mem_nil _)).nat k o h
theorem u_impl_Board_mirrored (fuel : Nat) (p0_0 : Int) (p0_1 : Int) (p0_2 : List Int) (p1 : Int) : runFn TT E_impl_Board_mirrored (kp_impl_Board_mirrored 1) fuel [.val, .val] 2 false [[]] 21 [.tmp 4] b_impl_Board_mirrored [.agg [.int .i64 p0_0, .int .i64 p0_1, .sl (.ints .i64 p0_2)], .x (.int .i64 p1)] un_impl_Board_mirrored = F_impl_Board_mirrored fuel p0_0 p0_1 p0_2 p1 (fun r1 => some r1) := f_impl_Board_mirrored fuel p0_0 p0_1 p0_2 p1 un_impl_Board_mirrored
theorem m_impl_Board_mirrored : MeetsO Try.prog 69 o_impl_Board_mirrored := by
  refine ⟨fun ρ ds K => ?_, ⟨_, meets_run (kp := kp_impl_Board_mirrored 1) (weak := false) (df := [[]]) tsOk (ook_list (l := O_impl_Board_mirrored) (fk := E_impl_Board_mirrored.fk) (List.forall_mem_nil _)) mixed Try.func69 (body := b_impl_Board_mirrored) (by kernel_rfl) (ntmps := 21) (by kernel_rfl) (rs := [.tmp 4]) (by kernel_rfl), fun ds out h => ?_⟩, ⟨_, Try.func69, by kernel_rfl, by kernel_rfl⟩⟩
  · show G_impl_Board_mirrored ds K = (G_impl_Board_mirrored ds some).bind K
    unfold G_impl_Board_mirrored
    split
    · cases sh_impl_Board_mirrored _ _ _ _ <;> rfl
    · rfl
  · replace h : G_impl_Board_mirrored ds some = some out := h
    unfold G_impl_Board_mirrored at h
    split at h
    · obtain ⟨r, hr, h⟩ := Option.bind_eq_some_iff.1 h
      injection h with h
      subst h
      have hn := (u_impl_Board_mirrored 0 _ _ _ _).trans hr
      rw [runFn_bind (K := un_impl_Board_mirrored) (K' := some) (f := un_impl_Board_mirrored) n_impl_Board_mirrored (fun _ => rfl)] at hn
      obtain ⟨o, h1, h2⟩ := Option.bind_eq_some_iff.1 hn
      rw [un_impl_Board_mirrored_ok h2] at h1
      exact ⟨0, h1⟩
    · cases h
/-! f87 slices.Sort[[]int,int] -/
noncomputable def sh_slices_Sort_int_int (p0 : List Int) : Option (List Int) := sortS p0
noncomputable def o_slices_Sort_int_int : Ora := sortO
theorem m_slices_Sort_int_int : MeetsO Try.prog 87 o_slices_Sort_int_int := sort_meets Try.func87 (by kernel_rfl) (by kernel_rfl) (fun b off c zs w h1 h2 h3 => Try.slices_Sort_int b off c zs w h1 h2 h3) Try.slices_Sort_int_none
/-! f90 (loop.example.g01239.impl.Board).moved -/
noncomputable def b_impl_Board_moved : Code := Try.f90.body.getD .skip
def kp_impl_Board_moved (g : Nat) : Nat → Option Keep := lk [(3, ⟨[], [3, 8, 9, 16, 17, 18], [4112, 5168], [], [(5168, 2, 16400000)], g⟩)]
def O_impl_Board_moved : List (FuncId × Ora) := [(69, o_impl_Board_mirrored), (87, o_slices_Sort_int_int)]
def E_impl_Board_moved : Env := ⟨lk O_impl_Board_moved, fun _ => false⟩
noncomputable def D_impl_Board_moved_0 {ρ : Type} (g fuel : Nat) (p0_0 : Int) (p0_1 : Int) (p0_2 : List Int) (p1 : Int) (p2 : Int) (p3_0 : Int) (p3_1 : Int) (p3_2 : List Int) (n : Nat) (v3 : Int) (v3_1 : Int) (v3_2 : List Int) (v16 : List Int) (v17 : Int) (v18 : Int) (c4112_0 : Int) (c5168_0 : Int) (c5168_1 : Int) (c5168_2 : List Int) (Kk : Out → Option ρ) : Option ρ :=
  iter (run TT E_impl_Board_moved (kp_impl_Board_moved g) fuel (cL (cB (cS2 (cS1 (cS2 (cS2 (b_impl_Board_moved)))))))) (nrmAt (kp_impl_Board_moved g) (firstRid (cL (cB (cS2 (cS1 (cS2 (cS2 (b_impl_Board_moved))))))))) n (⟨[uu, uu, uu, .u (.x (.fn 69 [(true, [.int .i64 v3, .int .i64 v3_1, .sl (.ints .i64 v3_2)])] [])), uu, uu, uu, uu, .u (.x (.ptr 4112 0)), .u (.x (.ptr 5168 0)), uu, uu, uu, uu, uu, uu, .u (.x (.ro (.ints .i64 v16))), .u (.x (.int .i64 v17)), .u (.x (.int .i64 v18)), uu, uu, uu, uu, uu, uu, uu, uu, uu, uu, uu, uu, uu, uu, uu, uu], [(4112, [.int .i64 c4112_0, .int .i64 c4112_0, .nil (.ints .i64 [])]), (5168, [.int .i64 c5168_0, .int .i64 c5168_1, .own 16400000 (.ints .i64 c5168_2)])], [], []⟩) (blkK 0 (seqK (gateAt (kp_impl_Board_moved g) (200000 + firstRid (cS2 (cS2 (cS2 (b_impl_Board_moved)))))) (run TT E_impl_Board_moved (kp_impl_Board_moved g) fuel (cS2 (cS2 (cS2 (b_impl_Board_moved))))) (nrmAt (kp_impl_Board_moved g) (200000 + firstRid (cS2 (cS2 (cS2 (b_impl_Board_moved)))))) (topK TT [.val, .val, .val, .val] false [[]] [.cell 8 24] [.agg [.int .i64 p0_0, .int .i64 p0_1, .sl (.ints .i64 p0_2)], .x (.int .i64 p1), .x (.int .i64 p2), .x (.fnv 69 [(true, [.int .i64 p3_0, .int .i64 p3_1, .sl (.ints .i64 p3_2)])] [])] Kk)))
def S_impl_Board_moved_e {ρ : Type} (p0_0 : Int) (p0_1 : Int) (p0_2 : List Int) (p1 : Int) (p2 : Int) (p3_0 : Int) (p3_1 : Int) (p3_2 : List Int)  (k0 : (Int → Int → List Int → List Int → Int → Int → Int → Int → Int → List Int → Option ρ)) : Option ρ :=
  k0 p3_0 p3_1 p3_2 p0_2 (p0_2.length : Int) (0 : Int) 0 p1 p2 []
theorem s_impl_Board_moved_e {ρ : Type} (g fuel : Nat) (p0_0 : Int) (p0_1 : Int) (p0_2 : List Int) (p1 : Int) (p2 : Int) (p3_0 : Int) (p3_1 : Int) (p3_2 : List Int) (Kk : Out → Option ρ) : runFn TT E_impl_Board_moved (kp_impl_Board_moved g) fuel [.val, .val, .val, .val] 4 false [[]] 35 [.cell 8 24] b_impl_Board_moved [.agg [.int .i64 p0_0, .int .i64 p0_1, .sl (.ints .i64 p0_2)], .x (.int .i64 p1), .x (.int .i64 p2), .x (.fnv 69 [(true, [.int .i64 p3_0, .int .i64 p3_1, .sl (.ints .i64 p3_2)])] [])] Kk = S_impl_Board_moved_e p0_0 p0_1 p0_2 p1 p2 p3_0 p3_1 p3_2  (fun v3 v3_1 v3_2 v16 v17 v18 c4112_0 c5168_0 c5168_1 c5168_2 => D_impl_Board_moved_0 g fuel p0_0 p0_1 p0_2 p1 p2 p3_0 p3_1 p3_2 fuel v3 v3_1 v3_2 v16 v17 v18 c4112_0 c5168_0 c5168_1 c5168_2 Kk) := by
  kernel_rfl
def S_impl_Board_moved_0 {ρ : Type}  (v3 : Int) (v3_1 : Int) (v3_2 : List Int) (v16 : List Int) (v17 : Int) (v18 : Int) (c4112_0 : Int) (c5168_0 : Int) (c5168_1 : Int) (c5168_2 : List Int) (b0 : (Int → Int → List Int → List Int → Int → Int → Int → Int → Int → List Int → Option ρ)) (K : Int → Int → List Int → Option ρ) : Option ρ :=
  (bif decide (v18 < v17) then (if 0 ≤ v18 then (if v18 < (v16.length : Int) then ((sh_impl_Board_mirrored v3 v3_1 v3_2 (v16.getD v18.toNat 0)).bind fun r1 => (if (c5168_2 ++ [r1]).length ≤ 1099511627776 then b0 v3 v3_1 v3_2 v16 v17 (IntKind.i64.wrap (v18 + (1 : Int))) c4112_0 c5168_0 c5168_1 (c5168_2 ++ [r1]) else none)) else none) else none) else ((sh_slices_Sort_int_int c5168_2).bind fun r2 => K c5168_0 c5168_1 r2))
theorem s_impl_Board_moved_0 {ρ : Type} (g fuel : Nat) (p0_0 : Int) (p0_1 : Int) (p0_2 : List Int) (p1 : Int) (p2 : Int) (p3_0 : Int) (p3_1 : Int) (p3_2 : List Int) (n : Nat) (v3 : Int) (v3_1 : Int) (v3_2 : List Int) (v16 : List Int) (v17 : Int) (v18 : Int) (c4112_0 : Int) (c5168_0 : Int) (c5168_1 : Int) (c5168_2 : List Int) (Kk : Out → Option ρ) : D_impl_Board_moved_0 g fuel p0_0 p0_1 p0_2 p1 p2 p3_0 p3_1 p3_2  (n + 1) v3 v3_1 v3_2 v16 v17 v18 c4112_0 c5168_0 c5168_1 c5168_2 Kk = S_impl_Board_moved_0  v3 v3_1 v3_2 v16 v17 v18 c4112_0 c5168_0 c5168_1 c5168_2 (fun v3 v3_1 v3_2 v16 v17 v18 c4112_0 c5168_0 c5168_1 c5168_2 => D_impl_Board_moved_0 g fuel p0_0 p0_1 p0_2 p1 p2 p3_0 p3_1 p3_2 n v3 v3_1 v3_2 v16 v17 v18 c4112_0 c5168_0 c5168_1 c5168_2 Kk) (fun r1 r2 r3 => Kk ⟨[.agg [.int .i64 r1, .int .i64 r2, .sl (.ints .i64 r3)]], []⟩) := by
  kernel_rfl
def F_impl_Board_moved_0 {ρ : Type} (fuel : Nat)   (K : Int → Int → List Int → Option ρ) : Nat → Int → Int → List Int → List Int → Int → Int → Int → Int → Int → List Int → Option ρ
  | 0, _, _, _, _, _, _, _, _, _, _ => none
  | n + 1, v3, v3_1, v3_2, v16, v17, v18, c4112_0, c5168_0, c5168_1, c5168_2 => S_impl_Board_moved_0  v3 v3_1 v3_2 v16 v17 v18 c4112_0 c5168_0 c5168_1 c5168_2 (F_impl_Board_moved_0 fuel   K n) K
theorem f_impl_Board_moved_0 {ρ : Type} (fuel : Nat) (p0_0 : Int) (p0_1 : Int) (p0_2 : List Int) (p1 : Int) (p2 : Int) (p3_0 : Int) (p3_1 : Int) (p3_2 : List Int) (Kk : Out → Option ρ) : ∀ (n : Nat) (v3 : Int) (v3_1 : Int) (v3_2 : List Int) (v16 : List Int) (v17 : Int) (v18 : Int) (c4112_0 : Int) (c5168_0 : Int) (c5168_1 : Int) (c5168_2 : List Int), D_impl_Board_moved_0 1 fuel p0_0 p0_1 p0_2 p1 p2 p3_0 p3_1 p3_2  n v3 v3_1 v3_2 v16 v17 v18 c4112_0 c5168_0 c5168_1 c5168_2 Kk = F_impl_Board_moved_0 fuel   (fun r1 r2 r3 => Kk ⟨[.agg [.int .i64 r1, .int .i64 r2, .sl (.ints .i64 r3)]], []⟩) n v3 v3_1 v3_2 v16 v17 v18 c4112_0 c5168_0 c5168_1 c5168_2 := by
  intro n
  induction n with
  | zero => intros; rfl
  | succ n ih =>
    intro v3 v3_1 v3_2 v16 v17 v18 c4112_0 c5168_0 c5168_1 c5168_2
    rw [s_impl_Board_moved_0, F_impl_Board_moved_0]
    try simp only [ih]
def F_impl_Board_moved {ρ : Type} (fuel : Nat) (p0_0 : Int) (p0_1 : Int) (p0_2 : List Int) (p1 : Int) (p2 : Int) (p3_0 : Int) (p3_1 : Int) (p3_2 : List Int)  (K : Int → Int → List Int → Option ρ) : Option ρ := S_impl_Board_moved_e p0_0 p0_1 p0_2 p1 p2 p3_0 p3_1 p3_2  (F_impl_Board_moved_0 fuel   K fuel)
theorem f_impl_Board_moved {ρ : Type} (fuel : Nat) (p0_0 : Int) (p0_1 : Int) (p0_2 : List Int) (p1 : Int) (p2 : Int) (p3_0 : Int) (p3_1 : Int) (p3_2 : List Int) (Kk : Out → Option ρ) : runFn TT E_impl_Board_moved (kp_impl_Board_moved 1) fuel [.val, .val, .val, .val] 4 false [[]] 35 [.cell 8 24] b_impl_Board_moved [.agg [.int .i64 p0_0, .int .i64 p0_1, .sl (.ints .i64 p0_2)], .x (.int .i64 p1), .x (.int .i64 p2), .x (.fnv 69 [(true, [.int .i64 p3_0, .int .i64 p3_1, .sl (.ints .i64 p3_2)])] [])] Kk = F_impl_Board_moved fuel p0_0 p0_1 p0_2 p1 p2 p3_0 p3_1 p3_2 (fun r1 r2 r3 => Kk ⟨[.agg [.int .i64 r1, .int .i64 r2, .sl (.ints .i64 r3)]], []⟩) := by
  rw [s_impl_Board_moved_e, F_impl_Board_moved]
  try simp only [f_impl_Board_moved_0]
noncomputable def sh_impl_Board_moved (p0_0 : Int) (p0_1 : Int) (p0_2 : List Int) (p1 : Int) (p2 : Int) (p3_0 : Int) (p3_1 : Int) (p3_2 : List Int) : Option (Int × Int × List Int) := val fun n => F_impl_Board_moved n p0_0 p0_1 p0_2 p1 p2 p3_0 p3_1 p3_2 (fun r1 r2 r3 => some (r1, r2, r3))
noncomputable def G_impl_Board_moved {ρ : Type} : List DU → (Out → Option ρ) → Option ρ
  | [.agg [.int .i64 p0_0, .int .i64 p0_1, .sl (.ints .i64 p0_2)], .x (.int .i64 p1), .x (.int .i64 p2), .x (.fnv 69 [(true, [.int .i64 p3_0, .int .i64 p3_1, .sl (.ints .i64 p3_2)])] [])], K => (sh_impl_Board_moved p0_0 p0_1 p0_2 p1 p2 p3_0 p3_1 p3_2).bind fun r => K ⟨[.agg [.int .i64 r.1, .int .i64 r.2.1, .sl (.ints .i64 r.2.2)]], []⟩
  | _, _ => none
noncomputable def o_impl_Board_moved : Ora := ⟨[.val, .val, .val, .val], 4, false, G_impl_Board_moved⟩
def un_impl_Board_moved : Out → Option (Int × Int × List Int)
  | ⟨[.agg [.int .i64 r1, .int .i64 r2, .sl (.ints .i64 r3)]], []⟩ => some (r1, r2, r3)
  | _ => none
theorem un_impl_Board_moved_ok {o : Out} {r : Int × Int × List Int} (h : un_impl_Board_moved o = some r) : o = ⟨[.agg [.int .i64 r.1, .int .i64 r.2.1, .sl (.ints .i64 r.2.2)]], []⟩ := by
  unfold un_impl_Board_moved at h
  split at h
  · injection h with h
    subst h
    rfl
  · cases h
theorem n_impl_Board_moved : ∀ k o, E_impl_Board_moved.fn k = some o → Nat1 o := fun k o h => (ook_list (P := Try.prog) (l := O_impl_Board_moved) (fk := E_impl_Board_moved.fk) (List.forall_mem_cons.2 ⟨m_impl_Board_mirrored, (List.forall_mem_cons.2 ⟨m_slices_Sort_int_int, (List.forall_mem_nil _)⟩)⟩)).nat k o h
theorem u_impl_Board_moved (fuel : Nat) (p0_0 : Int) (p0_1 : Int) (p0_2 : List Int) (p1 : Int) (p2 : Int) (p3_0 : Int) (p3_1 : Int) (p3_2 : List Int) : runFn TT E_impl_Board_moved (kp_impl_Board_moved 1) fuel [.val, .val, .val, .val] 4 false [[]] 35 [.cell 8 24] b_impl_Board_moved [.agg [.int .i64 p0_0, .int .i64 p0_1, .sl (.ints .i64 p0_2)], .x (.int .i64 p1), .x (.int .i64 p2), .x (.fnv 69 [(true, [.int .i64 p3_0, .int .i64 p3_1, .sl (.ints .i64 p3_2)])] [])] un_impl_Board_moved = F_impl_Board_moved fuel p0_0 p0_1 p0_2 p1 p2 p3_0 p3_1 p3_2 (fun r1 r2 r3 => some (r1, r2, r3)) := f_impl_Board_moved fuel p0_0 p0_1 p0_2 p1 p2 p3_0 p3_1 p3_2 un_impl_Board_moved
theorem sh_impl_Board_moved_of {n : Nat} {p0_0 : Int} {p0_1 : Int} {p0_2 : List Int} {p1 : Int} {p2 : Int} {p3_0 : Int} {p3_1 : Int} {p3_2 : List Int} {r : Int × Int × List Int} (h : F_impl_Board_moved n p0_0 p0_1 p0_2 p1 p2 p3_0 p3_1 p3_2 (fun r1 r2 r3 => some (r1, r2, r3)) = some r) : sh_impl_Board_moved p0_0 p0_1 p0_2 p1 p2 p3_0 p3_1 p3_2 = some r := val_of (fun n m r hm h => by rw [← u_impl_Board_moved] at h ⊢; exact runFn_mono n_impl_Board_moved hm h) h
theorem m_impl_Board_moved : MeetsO Try.prog 90 o_impl_Board_moved := by
  refine ⟨fun ρ ds K => ?_, ⟨_, meets_run (kp := kp_impl_Board_moved 1) (weak := false) (df := [[]]) tsOk (ook_list (l := O_impl_Board_moved) (fk := E_impl_Board_moved.fk) (List.forall_mem_cons.2 ⟨m_impl_Board_mirrored, (List.forall_mem_cons.2 ⟨m_slices_Sort_int_int, (List.forall_mem_nil _)⟩)⟩)) mixed Try.func90 (body := b_impl_Board_moved) (by kernel_rfl) (ntmps := 35) (by kernel_rfl) (rs := [.cell 8 24]) (by kernel_rfl), fun ds out h => ?_⟩, ⟨_, Try.func90, by kernel_rfl, by kernel_rfl⟩⟩
  · show G_impl_Board_moved ds K = (G_impl_Board_moved ds some).bind K
    unfold G_impl_Board_moved
    split
    · cases sh_impl_Board_moved _ _ _ _ _ _ _ _ <;> rfl
    · rfl
  · replace h : G_impl_Board_moved ds some = some out := h
    unfold G_impl_Board_moved at h
    split at h
    · obtain ⟨r, hr, h⟩ := Option.bind_eq_some_iff.1 h
      injection h with h
      subst h
      obtain ⟨n, hn⟩ := val_some hr
      replace hn := (u_impl_Board_moved n _ _ _ _ _ _ _ _).trans hn
      rw [runFn_bind (K := un_impl_Board_moved) (K' := some) (f := un_impl_Board_moved) n_impl_Board_moved (fun _ => rfl)] at hn
      obtain ⟨o, h1, h2⟩ := Option.bind_eq_some_iff.1 hn
      rw [un_impl_Board_moved_ok h2] at h1
      exact ⟨n, h1⟩
    · cases h
/-! f68 loop.example.g01239.impl.MirrorBoard -/
noncomputable def b_impl_MirrorBoard : Code := Try.f68.body.getD .skip
def kp_impl_MirrorBoard (g : Nat) : Nat → Option Keep := lk []
def O_impl_MirrorBoard : List (FuncId × Ora) := [(56, o_impl_IsBoard), (90, o_impl_Board_moved)]
def E_impl_MirrorBoard : Env := ⟨lk O_impl_MirrorBoard, fun _ => false⟩
def S_impl_MirrorBoard_e {ρ : Type} (p0_0 : Int) (p0_1 : Int) (p0_2 : List Int)   (K : Int → Int → List Int → Bool → Option ρ) : Option ρ :=
  ((sh_impl_IsBoard p0_0 p0_1 p0_2).bind fun r1 => (bif !r1 then K 0 0 [] false else ((sh_impl_Board_moved p0_0 p0_1 p0_2 p0_0 p0_1 p0_0 p0_1 p0_2).bind fun r2 => K r2.1 r2.2.1 r2.2.2 true)))
theorem s_impl_MirrorBoard_e {ρ : Type} (g fuel : Nat) (p0_0 : Int) (p0_1 : Int) (p0_2 : List Int) (Kk : Out → Option ρ) : runFn TT E_impl_MirrorBoard (kp_impl_MirrorBoard g) fuel [.val] 1 false [[], []] 16 [.cell 2 24, .tmp 3] b_impl_MirrorBoard [.agg [.int .i64 p0_0, .int .i64 p0_1, .sl (.ints .i64 p0_2)]] Kk = S_impl_MirrorBoard_e p0_0 p0_1 p0_2   (fun r1 r2 r3 r4 => Kk ⟨[.agg [.int .i64 r1, .int .i64 r2, .sl (.ints .i64 r3)], .x (.bool r4)], []⟩) := by
  kernel_rfl
def F_impl_MirrorBoard {ρ : Type} (fuel : Nat) (p0_0 : Int) (p0_1 : Int) (p0_2 : List Int)  (K : Int → Int → List Int → Bool → Option ρ) : Option ρ := S_impl_MirrorBoard_e p0_0 p0_1 p0_2   K
theorem f_impl_MirrorBoard {ρ : Type} (fuel : Nat) (p0_0 : Int) (p0_1 : Int) (p0_2 : List Int) (Kk : Out → Option ρ) : runFn TT E_impl_MirrorBoard (kp_impl_MirrorBoard 1) fuel [.val] 1 false [[], []] 16 [.cell 2 24, .tmp 3] b_impl_MirrorBoard [.agg [.int .i64 p0_0, .int .i64 p0_1, .sl (.ints .i64 p0_2)]] Kk = F_impl_MirrorBoard fuel p0_0 p0_1 p0_2 (fun r1 r2 r3 r4 => Kk ⟨[.agg [.int .i64 r1, .int .i64 r2, .sl (.ints .i64 r3)], .x (.bool r4)], []⟩) := by
  rw [s_impl_MirrorBoard_e, F_impl_MirrorBoard]
noncomputable def sh_impl_MirrorBoard (p0_0 : Int) (p0_1 : Int) (p0_2 : List Int) : Option (Int × Int × List Int × Bool) := F_impl_MirrorBoard 0 p0_0 p0_1 p0_2 (fun r1 r2 r3 r4 => some (r1, r2, r3, r4))
noncomputable def G_impl_MirrorBoard {ρ : Type} : List DU → (Out → Option ρ) → Option ρ
  | [.agg [.int .i64 p0_0, .int .i64 p0_1, .sl (.ints .i64 p0_2)]], K => (sh_impl_MirrorBoard p0_0 p0_1 p0_2).bind fun r => K ⟨[.agg [.int .i64 r.1, .int .i64 r.2.1, .sl (.ints .i64 r.2.2.1)], .x (.bool r.2.2.2)], []⟩
  | _, _ => none
noncomputable def o_impl_MirrorBoard : Ora := ⟨[.val], 1, false, G_impl_MirrorBoard⟩
def un_impl_MirrorBoard : Out → Option (Int × Int × List Int × Bool)
  | ⟨[.agg [.int .i64 r1, .int .i64 r2, .sl (.ints .i64 r3)], .x (.bool r4)], []⟩ => some (r1, r2, r3, r4)
  | _ => none
theorem un_impl_MirrorBoard_ok {o : Out} {r : Int × Int × List Int × Bool} (h : un_impl_MirrorBoard o = some r) : o = ⟨[.agg [.int .i64 r.1, .int .i64 r.2.1, .sl (.ints .i64 r.2.2.1)], .x (.bool r.2.2.2)], []⟩ := by
  unfold un_impl_MirrorBoard at h
  split at h
  · injection h with h
    subst h
    rfl
  · cases h
theorem n_impl_MirrorBoard : ∀ k o, E_impl_MirrorBoard.fn k = some o → Nat1 o := fun k o h => (ook_list (P := Try.prog) (l := O_impl_MirrorBoard) (fk := E_impl_MirrorBoard.fk) (List.forall_mem_cons.2 ⟨m_impl_IsBoard, (List.forall_mem_cons.2 ⟨m_impl_Board_moved, (List.forall_mem_nil _)⟩)⟩)).nat k o h
theorem u_impl_MirrorBoard (fuel : Nat) (p0_0 : Int) (p0_1 : Int) (p0_2 : List Int) : runFn TT E_impl_MirrorBoard (kp_impl_MirrorBoard 1) fuel [.val] 1 false [[], []] 16 [.cell 2 24, .tmp 3] b_impl_MirrorBoard [.agg [.int .i64 p0_0, .int .i64 p0_1, .sl (.ints .i64 p0_2)]] un_impl_MirrorBoard = F_impl_MirrorBoard fuel p0_0 p0_1 p0_2 (fun r1 r2 r3 r4 => some (r1, r2, r3, r4)) := f_impl_MirrorBoard fuel p0_0 p0_1 p0_2 un_impl_MirrorBoard
theorem m_impl_MirrorBoard : MeetsO Try.prog 68 o_impl_MirrorBoard := by
  refine ⟨fun ρ ds K => ?_, ⟨_, meets_run (kp := kp_impl_MirrorBoard 1) (weak := false) (df := [[], []]) tsOk (ook_list (l := O_impl_MirrorBoard) (fk := E_impl_MirrorBoard.fk) (List.forall_mem_cons.2 ⟨m_impl_IsBoard, (List.forall_mem_cons.2 ⟨m_impl_Board_moved, (List.forall_mem_nil _)⟩)⟩)) mixed Try.func68 (body := b_impl_MirrorBoard) (by kernel_rfl) (ntmps := 16) (by kernel_rfl) (rs := [.cell 2 24, .tmp 3]) (by kernel_rfl), fun ds out h => ?_⟩, ⟨_, Try.func68, by kernel_rfl, by kernel_rfl⟩⟩
  · show G_impl_MirrorBoard ds K = (G_impl_MirrorBoard ds some).bind K
    unfold G_impl_MirrorBoard
    split
    · cases sh_impl_MirrorBoard _ _ _ <;> rfl
    · rfl
  · replace h : G_impl_MirrorBoard ds some = some out := h
    unfold G_impl_MirrorBoard at h
    split at h
    · obtain ⟨r, hr, h⟩ := Option.bind_eq_some_iff.1 h
      injection h with h
      subst h
      have hn := (u_impl_MirrorBoard 0 _ _ _).trans hr
      rw [runFn_bind (K := un_impl_MirrorBoard) (K' := some) (f := un_impl_MirrorBoard) n_impl_MirrorBoard (fun _ => rfl)] at hn
      obtain ⟨o, h1, h2⟩ := Option.bind_eq_some_iff.1 hn
      rw [un_impl_MirrorBoard_ok h2] at h1
      exact ⟨0, h1⟩
    · cases h
/-! f38 loop.example.g01239.impl.MirrorPuzzle -/
noncomputable def b_impl_MirrorPuzzle : Code := Try.f38.body.getD .skip
def kp_impl_MirrorPuzzle (g : Nat) : Nat → Option Keep := lk [(6, ⟨[], [1, 2, 6, 28, 29, 30], [4096, 4112, 8320], [], [], g⟩)]
def O_impl_MirrorPuzzle : List (FuncId × Ora) := [(21, o_impl_IsPuzzle), (68, o_impl_MirrorBoard), (69, o_impl_Board_mirrored)]
def E_impl_MirrorPuzzle : Env := ⟨lk O_impl_MirrorPuzzle, fun _ => false⟩
noncomputable def D_impl_MirrorPuzzle_0 {ρ : Type} (g fuel : Nat) (p0_0 : Int) (p0_1 : Int) (p0_2 : List Int) (p0_3 : Int) (p0_4 : Int) (p0_5 : List Int) (n : Nat) (v28 : List Int) (v29 : Int) (v30 : Int) (c4096_0 : Int) (c4096_1 : Int) (c4096_2 : List Int) (c4096_3 : Int) (c4096_4 : Int) (c4112_0 : Int) (c8320_0 : Int) (c8320_1 : Int) (c8320_2 : List Int) (c8320_5 : List Int) (Kk : Out → Option ρ) : Option ρ :=
  iter (run TT E_impl_MirrorPuzzle (kp_impl_MirrorPuzzle g) fuel (cL (cB (cS2 (cS1 (cS2 (cS2 (cS2 (cS2 (b_impl_MirrorPuzzle)))))))))) (nrmAt (kp_impl_MirrorPuzzle g) (firstRid (cL (cB (cS2 (cS1 (cS2 (cS2 (cS2 (cS2 (b_impl_MirrorPuzzle))))))))))) n (⟨[uu, .u (.x (.ptr 4096 0)), .u (.x (.ptr 4112 0)), uu, uu, uu, .u (.x (.ptr 8320 0)), uu, uu, uu, uu, uu, uu, uu, uu, uu, uu, uu, uu, uu, uu, uu, uu, uu, uu, uu, uu, uu, .u (.x (.ro (.ints .i64 v28))), .u (.x (.int .i64 v29)), .u (.x (.int .i64 v30)), uu, uu, uu, uu, uu, uu, uu, uu, uu, uu, uu, uu, uu, uu], [(4096, [.int .i64 c4096_0, .int .i64 c4096_1, .ro (.ints .i64 c4096_2), .int .i64 c4096_3, .int .i64 c4096_4, .ro (.ints .i64 v28)]), (4112, [.int .i64 c4112_0, .int .i64 c4112_0, .nil (.ints .i64 []), .int .i64 c4112_0, .int .i64 c4112_0, .nil (.ints .i64 [])]), (8320, [.int .i64 c8320_0, .int .i64 c8320_1, .own 7208 (.ints .i64 c8320_2), .int .i64 c4096_3, .int .i64 c4096_4, .own 8288 (.ints .i64 c8320_5)])], [], []⟩) (blkK 0 (seqK (gateAt (kp_impl_MirrorPuzzle g) (200000 + firstRid (cS2 (cS2 (cS2 (cS2 (cS2 (b_impl_MirrorPuzzle)))))))) (run TT E_impl_MirrorPuzzle (kp_impl_MirrorPuzzle g) fuel (cS2 (cS2 (cS2 (cS2 (cS2 (b_impl_MirrorPuzzle))))))) (nrmAt (kp_impl_MirrorPuzzle g) (200000 + firstRid (cS2 (cS2 (cS2 (cS2 (cS2 (b_impl_MirrorPuzzle)))))))) (topK TT [.val] false [[], []] [.cell 2 40, .tmp 3] [.agg [.int .i64 p0_0, .int .i64 p0_1, .sl (.ints .i64 p0_2), .int .i64 p0_3, .int .i64 p0_4, .sl (.ints .i64 p0_5)]] Kk)))
def S_impl_MirrorPuzzle_e {ρ : Type} (p0_0 : Int) (p0_1 : Int) (p0_2 : List Int) (p0_3 : Int) (p0_4 : Int) (p0_5 : List Int)  (k0 : (List Int → Int → Int → Int → Int → List Int → Int → Int → Int → Int → Int → List Int → List Int → Option ρ)) (K : Int → Int → List Int → Int → Int → List Int → Bool → Option ρ) : Option ρ :=
  ((sh_impl_IsPuzzle p0_0 p0_1 p0_2 p0_3 p0_4 p0_5).bind fun r1 => (bif !r1 then K 0 0 [] 0 0 [] false else ((sh_impl_MirrorBoard p0_0 p0_1 p0_2).bind fun r2 => (if 0 ≤ (p0_5.length : Int) then (if (p0_5.length : Int) ≤ 1099511627776 then k0 p0_5 (p0_5.length : Int) (0 : Int) p0_0 p0_1 p0_2 p0_3 p0_4 0 r2.1 r2.2.1 r2.2.2.1 (List.replicate (p0_5.length : Int).toNat (0 : Int)) else none) else none))))
theorem s_impl_MirrorPuzzle_e {ρ : Type} (g fuel : Nat) (p0_0 : Int) (p0_1 : Int) (p0_2 : List Int) (p0_3 : Int) (p0_4 : Int) (p0_5 : List Int) (Kk : Out → Option ρ) : runFn TT E_impl_MirrorPuzzle (kp_impl_MirrorPuzzle g) fuel [.val] 1 false [[], []] 45 [.cell 2 40, .tmp 3] b_impl_MirrorPuzzle [.agg [.int .i64 p0_0, .int .i64 p0_1, .sl (.ints .i64 p0_2), .int .i64 p0_3, .int .i64 p0_4, .sl (.ints .i64 p0_5)]] Kk = S_impl_MirrorPuzzle_e p0_0 p0_1 p0_2 p0_3 p0_4 p0_5  (fun v28 v29 v30 c4096_0 c4096_1 c4096_2 c4096_3 c4096_4 c4112_0 c8320_0 c8320_1 c8320_2 c8320_5 => D_impl_MirrorPuzzle_0 g fuel p0_0 p0_1 p0_2 p0_3 p0_4 p0_5 fuel v28 v29 v30 c4096_0 c4096_1 c4096_2 c4096_3 c4096_4 c4112_0 c8320_0 c8320_1 c8320_2 c8320_5 Kk) (fun r1 r2 r3 r4 r5 r6 r7 => Kk ⟨[.agg [.int .i64 r1, .int .i64 r2, .sl (.ints .i64 r3), .int .i64 r4, .int .i64 r5, .sl (.ints .i64 r6)], .x (.bool r7)], []⟩) := by
  kernel_rfl
def S_impl_MirrorPuzzle_0 {ρ : Type}  (v28 : List Int) (v29 : Int) (v30 : Int) (c4096_0 : Int) (c4096_1 : Int) (c4096_2 : List Int) (c4096_3 : Int) (c4096_4 : Int) (c4112_0 : Int) (c8320_0 : Int) (c8320_1 : Int) (c8320_2 : List Int) (c8320_5 : List Int) (b0 : (List Int → Int → Int → Int → Int → List Int → Int → Int → Int → Int → Int → List Int → List Int → Option ρ)) (K : Int → Int → List Int → Int → Int → List Int → Bool → Option ρ) : Option ρ :=
  (bif decide (v30 < v29) then (if 0 ≤ v30 then (if v30 < (v28.length : Int) then ((sh_impl_Board_mirrored c4096_0 c4096_1 c4096_2 v30).bind fun r1 => (if 0 ≤ r1 then (if r1 < (c8320_5.length : Int) then b0 v28 v29 (IntKind.i64.wrap (v30 + (1 : Int))) c4096_0 c4096_1 c4096_2 c4096_3 c4096_4 c4112_0 c8320_0 c8320_1 c8320_2 (c8320_5.set r1.toNat (v28.getD v30.toNat 0)) else none) else none)) else none) else none) else K c8320_0 c8320_1 c8320_2 c4096_3 c4096_4 c8320_5 true)
theorem s_impl_MirrorPuzzle_0 {ρ : Type} (g fuel : Nat) (p0_0 : Int) (p0_1 : Int) (p0_2 : List Int) (p0_3 : Int) (p0_4 : Int) (p0_5 : List Int) (n : Nat) (v28 : List Int) (v29 : Int) (v30 : Int) (c4096_0 : Int) (c4096_1 : Int) (c4096_2 : List Int) (c4096_3 : Int) (c4096_4 : Int) (c4112_0 : Int) (c8320_0 : Int) (c8320_1 : Int) (c8320_2 : List Int) (c8320_5 : List Int) (Kk : Out → Option ρ) : D_impl_MirrorPuzzle_0 g fuel p0_0 p0_1 p0_2 p0_3 p0_4 p0_5  (n + 1) v28 v29 v30 c4096_0 c4096_1 c4096_2 c4096_3 c4096_4 c4112_0 c8320_0 c8320_1 c8320_2 c8320_5 Kk = S_impl_MirrorPuzzle_0  v28 v29 v30 c4096_0 c4096_1 c4096_2 c4096_3 c4096_4 c4112_0 c8320_0 c8320_1 c8320_2 c8320_5 (fun v28 v29 v30 c4096_0 c4096_1 c4096_2 c4096_3 c4096_4 c4112_0 c8320_0 c8320_1 c8320_2 c8320_5 => D_impl_MirrorPuzzle_0 g fuel p0_0 p0_1 p0_2 p0_3 p0_4 p0_5 n v28 v29 v30 c4096_0 c4096_1 c4096_2 c4096_3 c4096_4 c4112_0 c8320_0 c8320_1 c8320_2 c8320_5 Kk) (fun r1 r2 r3 r4 r5 r6 r7 => Kk ⟨[.agg [.int .i64 r1, .int .i64 r2, .sl (.ints .i64 r3), .int .i64 r4, .int .i64 r5, .sl (.ints .i64 r6)], .x (.bool r7)], []⟩) := by
  kernel_rfl
def F_impl_MirrorPuzzle_0 {ρ : Type} (fuel : Nat)   (K : Int → Int → List Int → Int → Int → List Int → Bool → Option ρ) : Nat → List Int → Int → Int → Int → Int → List Int → Int → Int → Int → Int → Int → List Int → List Int → Option ρ
  | 0, _, _, _, _, _, _, _, _, _, _, _, _, _ => none
  | n + 1, v28, v29, v30, c4096_0, c4096_1, c4096_2, c4096_3, c4096_4, c4112_0, c8320_0, c8320_1, c8320_2, c8320_5 => S_impl_MirrorPuzzle_0  v28 v29 v30 c4096_0 c4096_1 c4096_2 c4096_3 c4096_4 c4112_0 c8320_0 c8320_1 c8320_2 c8320_5 (F_impl_MirrorPuzzle_0 fuel   K n) K
theorem f_impl_MirrorPuzzle_0 {ρ : Type} (fuel : Nat) (p0_0 : Int) (p0_1 : Int) (p0_2 : List Int) (p0_3 : Int) (p0_4 : Int) (p0_5 : List Int) (Kk : Out → Option ρ) : ∀ (n : Nat) (v28 : List Int) (v29 : Int) (v30 : Int) (c4096_0 : Int) (c4096_1 : Int) (c4096_2 : List Int) (c4096_3 : Int) (c4096_4 : Int) (c4112_0 : Int) (c8320_0 : Int) (c8320_1 : Int) (c8320_2 : List Int) (c8320_5 : List Int), D_impl_MirrorPuzzle_0 1 fuel p0_0 p0_1 p0_2 p0_3 p0_4 p0_5  n v28 v29 v30 c4096_0 c4096_1 c4096_2 c4096_3 c4096_4 c4112_0 c8320_0 c8320_1 c8320_2 c8320_5 Kk = F_impl_MirrorPuzzle_0 fuel   (fun r1 r2 r3 r4 r5 r6 r7 => Kk ⟨[.agg [.int .i64 r1, .int .i64 r2, .sl (.ints .i64 r3), .int .i64 r4, .int .i64 r5, .sl (.ints .i64 r6)], .x (.bool r7)], []⟩) n v28 v29 v30 c4096_0 c4096_1 c4096_2 c4096_3 c4096_4 c4112_0 c8320_0 c8320_1 c8320_2 c8320_5 := by
  intro n
  induction n with
  | zero => intros; rfl
  | succ n ih =>
    intro v28 v29 v30 c4096_0 c4096_1 c4096_2 c4096_3 c4096_4 c4112_0 c8320_0 c8320_1 c8320_2 c8320_5
    rw [s_impl_MirrorPuzzle_0, F_impl_MirrorPuzzle_0]
    try simp only [ih]
def F_impl_MirrorPuzzle {ρ : Type} (fuel : Nat) (p0_0 : Int) (p0_1 : Int) (p0_2 : List Int) (p0_3 : Int) (p0_4 : Int) (p0_5 : List Int)  (K : Int → Int → List Int → Int → Int → List Int → Bool → Option ρ) : Option ρ := S_impl_MirrorPuzzle_e p0_0 p0_1 p0_2 p0_3 p0_4 p0_5  (F_impl_MirrorPuzzle_0 fuel   K fuel) K
theorem f_impl_MirrorPuzzle {ρ : Type} (fuel : Nat) (p0_0 : Int) (p0_1 : Int) (p0_2 : List Int) (p0_3 : Int) (p0_4 : Int) (p0_5 : List Int) (Kk : Out → Option ρ) : runFn TT E_impl_MirrorPuzzle (kp_impl_MirrorPuzzle 1) fuel [.val] 1 false [[], []] 45 [.cell 2 40, .tmp 3] b_impl_MirrorPuzzle [.agg [.int .i64 p0_0, .int .i64 p0_1, .sl (.ints .i64 p0_2), .int .i64 p0_3, .int .i64 p0_4, .sl (.ints .i64 p0_5)]] Kk = F_impl_MirrorPuzzle fuel p0_0 p0_1 p0_2 p0_3 p0_4 p0_5 (fun r1 r2 r3 r4 r5 r6 r7 => Kk ⟨[.agg [.int .i64 r1, .int .i64 r2, .sl (.ints .i64 r3), .int .i64 r4, .int .i64 r5, .sl (.ints .i64 r6)], .x (.bool r7)], []⟩) := by
  rw [s_impl_MirrorPuzzle_e, F_impl_MirrorPuzzle]
  try simp only [f_impl_MirrorPuzzle_0]
noncomputable def sh_impl_MirrorPuzzle (p0_0 : Int) (p0_1 : Int) (p0_2 : List Int) (p0_3 : Int) (p0_4 : Int) (p0_5 : List Int) : Option (Int × Int × List Int × Int × Int × List Int × Bool) := val fun n => F_impl_MirrorPuzzle n p0_0 p0_1 p0_2 p0_3 p0_4 p0_5 (fun r1 r2 r3 r4 r5 r6 r7 => some (r1, r2, r3, r4, r5, r6, r7))
noncomputable def G_impl_MirrorPuzzle {ρ : Type} : List DU → (Out → Option ρ) → Option ρ
  | [.agg [.int .i64 p0_0, .int .i64 p0_1, .sl (.ints .i64 p0_2), .int .i64 p0_3, .int .i64 p0_4, .sl (.ints .i64 p0_5)]], K => (sh_impl_MirrorPuzzle p0_0 p0_1 p0_2 p0_3 p0_4 p0_5).bind fun r => K ⟨[.agg [.int .i64 r.1, .int .i64 r.2.1, .sl (.ints .i64 r.2.2.1), .int .i64 r.2.2.2.1, .int .i64 r.2.2.2.2.1, .sl (.ints .i64 r.2.2.2.2.2.1)], .x (.bool r.2.2.2.2.2.2)], []⟩
  | _, _ => none
noncomputable def o_impl_MirrorPuzzle : Ora := ⟨[.val], 1, false, G_impl_MirrorPuzzle⟩
def un_impl_MirrorPuzzle : Out → Option (Int × Int × List Int × Int × Int × List Int × Bool)
  | ⟨[.agg [.int .i64 r1, .int .i64 r2, .sl (.ints .i64 r3), .int .i64 r4, .int .i64 r5, .sl (.ints .i64 r6)], .x (.bool r7)], []⟩ => some (r1, r2, r3, r4, r5, r6, r7)
  | _ => none
theorem un_impl_MirrorPuzzle_ok {o : Out} {r : Int × Int × List Int × Int × Int × List Int × Bool} (h : un_impl_MirrorPuzzle o = some r) : o = ⟨[.agg [.int .i64 r.1, .int .i64 r.2.1, .sl (.ints .i64 r.2.2.1), .int .i64 r.2.2.2.1, .int .i64 r.2.2.2.2.1, .sl (.ints .i64 r.2.2.2.2.2.1)], .x (.bool r.2.2.2.2.2.2)], []⟩ := by
  unfold un_impl_MirrorPuzzle at h
  split at h
  · injection h with h
    subst h
    rfl
  · cases h
theorem n_impl_MirrorPuzzle : ∀ k o, E_impl_MirrorPuzzle.fn k = some o → Nat1 o := fun k o h => (ook_list (P := Try.prog) (l := O_impl_MirrorPuzzle) (fk := E_impl_MirrorPuzzle.fk) (List.forall_mem_cons.2 ⟨m_impl_IsPuzzle, (List.forall_mem_cons.2 ⟨m_impl_MirrorBoard, (List.forall_mem_cons.2 ⟨m_impl_Board_mirrored, (List.forall_mem_nil _)⟩)⟩)⟩)).nat k o h
theorem u_impl_MirrorPuzzle (fuel : Nat) (p0_0 : Int) (p0_1 : Int) (p0_2 : List Int) (p0_3 : Int) (p0_4 : Int) (p0_5 : List Int) : runFn TT E_impl_MirrorPuzzle (kp_impl_MirrorPuzzle 1) fuel [.val] 1 false [[], []] 45 [.cell 2 40, .tmp 3] b_impl_MirrorPuzzle [.agg [.int .i64 p0_0, .int .i64 p0_1, .sl (.ints .i64 p0_2), .int .i64 p0_3, .int .i64 p0_4, .sl (.ints .i64 p0_5)]] un_impl_MirrorPuzzle = F_impl_MirrorPuzzle fuel p0_0 p0_1 p0_2 p0_3 p0_4 p0_5 (fun r1 r2 r3 r4 r5 r6 r7 => some (r1, r2, r3, r4, r5, r6, r7)) := f_impl_MirrorPuzzle fuel p0_0 p0_1 p0_2 p0_3 p0_4 p0_5 un_impl_MirrorPuzzle
theorem sh_impl_MirrorPuzzle_of {n : Nat} {p0_0 : Int} {p0_1 : Int} {p0_2 : List Int} {p0_3 : Int} {p0_4 : Int} {p0_5 : List Int} {r : Int × Int × List Int × Int × Int × List Int × Bool} (h : F_impl_MirrorPuzzle n p0_0 p0_1 p0_2 p0_3 p0_4 p0_5 (fun r1 r2 r3 r4 r5 r6 r7 => some (r1, r2, r3, r4, r5, r6, r7)) = some r) : sh_impl_MirrorPuzzle p0_0 p0_1 p0_2 p0_3 p0_4 p0_5 = some r := val_of (fun n m r hm h => by rw [← u_impl_MirrorPuzzle] at h ⊢; exact runFn_mono n_impl_MirrorPuzzle hm h) h
theorem m_impl_MirrorPuzzle : MeetsO Try.prog 38 o_impl_MirrorPuzzle := by
  refine ⟨fun ρ ds K => ?_, ⟨_, meets_run (kp := kp_impl_MirrorPuzzle 1) (weak := false) (df := [[], []]) tsOk (ook_list (l := O_impl_MirrorPuzzle) (fk := E_impl_MirrorPuzzle.fk) (List.forall_mem_cons.2 ⟨m_impl_IsPuzzle, (List.forall_mem_cons.2 ⟨m_impl_MirrorBoard, (List.forall_mem_cons.2 ⟨m_impl_Board_mirrored, (List.forall_mem_nil _)⟩)⟩)⟩)) mixed Try.func38 (body := b_impl_MirrorPuzzle) (by kernel_rfl) (ntmps := 45) (by kernel_rfl) (rs := [.cell 2 40, .tmp 3]) (by kernel_rfl), fun ds out h => ?_⟩, ⟨_, Try.func38, by kernel_rfl, by kernel_rfl⟩⟩
  · show G_impl_MirrorPuzzle ds K = (G_impl_MirrorPuzzle ds some).bind K
    unfold G_impl_MirrorPuzzle
    split
    · cases sh_impl_MirrorPuzzle _ _ _ _ _ _ <;> rfl
    · rfl
  · replace h : G_impl_MirrorPuzzle ds some = some out := h
    unfold G_impl_MirrorPuzzle at h
    split at h
    · obtain ⟨r, hr, h⟩ := Option.bind_eq_some_iff.1 h
      injection h with h
      subst h
      obtain ⟨n, hn⟩ := val_some hr
      replace hn := (u_impl_MirrorPuzzle n _ _ _ _ _ _).trans hn
      rw [runFn_bind (K := un_impl_MirrorPuzzle) (K' := some) (f := un_impl_MirrorPuzzle) n_impl_MirrorPuzzle (fun _ => rfl)] at hn
      obtain ⟨o, h1, h2⟩ := Option.bind_eq_some_iff.1 hn
      rw [un_impl_MirrorPuzzle_ok h2] at h1
      exact ⟨n, h1⟩
    · cases h
/-! f42 loop.example.g01239.laws.eqIntS -/
noncomputable def b_laws_eqIntS : Code := Try.f42.body.getD .skip
def kp_laws_eqIntS (g : Nat) : Nat → Option Keep := lk [(4, ⟨[], [0, 1, 5], [], [], [], g⟩)]
def O_laws_eqIntS : List (FuncId × Ora) := []
def E_laws_eqIntS : Env := ⟨lk O_laws_eqIntS, fun _ => false⟩
noncomputable def D_laws_eqIntS_0 {ρ : Type} (g fuel : Nat) (p0 : List Int) (p1 : List Int) (n : Nat) (v0 : List Int) (v1 : List Int) (v5 : Int) (Kk : Out → Option ρ) : Option ρ :=
  iter (run TT E_laws_eqIntS (kp_laws_eqIntS g) fuel (cL (cB (cS2 (cS1 (cS2 (cS2 (b_laws_eqIntS)))))))) (nrmAt (kp_laws_eqIntS g) (firstRid (cL (cB (cS2 (cS1 (cS2 (cS2 (b_laws_eqIntS))))))))) n (⟨[.u (.x (.ro (.ints .i64 v0))), .u (.x (.ro (.ints .i64 v1))), uu, uu, uu, .u (.x (.int .i64 v5)), uu, uu, uu, uu, uu, uu, uu, uu, uu, uu, uu, uu, uu, uu, uu, uu, uu, uu, uu, uu], [], [], []⟩) (blkK 0 (seqK (gateAt (kp_laws_eqIntS g) (200000 + firstRid (cS2 (cS2 (cS2 (b_laws_eqIntS)))))) (run TT E_laws_eqIntS (kp_laws_eqIntS g) fuel (cS2 (cS2 (cS2 (b_laws_eqIntS))))) (nrmAt (kp_laws_eqIntS g) (200000 + firstRid (cS2 (cS2 (cS2 (b_laws_eqIntS)))))) (topK TT [.val, .val] false [[]] [.tmp 4] [.x (.sl (.ints .i64 p0)), .x (.sl (.ints .i64 p1))] Kk)))
def S_laws_eqIntS_e {ρ : Type} (p0 : List Int) (p1 : List Int)  (k0 : (List Int → List Int → Int → Option ρ)) (K : Bool → Option ρ) : Option ρ :=
  (bif !decide ((p0.length : Int) = (p1.length : Int)) then K false else k0 p0 p1 (0 : Int))
theorem s_laws_eqIntS_e {ρ : Type} (g fuel : Nat) (p0 : List Int) (p1 : List Int) (Kk : Out → Option ρ) : runFn TT E_laws_eqIntS (kp_laws_eqIntS g) fuel [.val, .val] 2 false [[]] 26 [.tmp 4] b_laws_eqIntS [.x (.sl (.ints .i64 p0)), .x (.sl (.ints .i64 p1))] Kk = S_laws_eqIntS_e p0 p1  (fun v0 v1 v5 => D_laws_eqIntS_0 g fuel p0 p1 fuel v0 v1 v5 Kk) (fun r1 => Kk ⟨[.x (.bool r1)], []⟩) := by
  kernel_rfl
def S_laws_eqIntS_0 {ρ : Type}  (v0 : List Int) (v1 : List Int) (v5 : Int) (b0 : (List Int → List Int → Int → Option ρ)) (K : Bool → Option ρ) : Option ρ :=
  (bif decide (v5 < (v0.length : Int)) then (if 0 ≤ v5 then (if v5 < (v0.length : Int) then (if 0 ≤ v5 then (if v5 < (v1.length : Int) then (bif !decide ((v0.getD v5.toNat 0) = (v1.getD v5.toNat 0)) then K false else b0 v0 v1 (IntKind.i64.wrap (v5 + (1 : Int)))) else none) else none) else none) else none) else K true)
theorem s_laws_eqIntS_0 {ρ : Type} (g fuel : Nat) (p0 : List Int) (p1 : List Int) (n : Nat) (v0 : List Int) (v1 : List Int) (v5 : Int) (Kk : Out → Option ρ) : D_laws_eqIntS_0 g fuel p0 p1  (n + 1) v0 v1 v5 Kk = S_laws_eqIntS_0  v0 v1 v5 (fun v0 v1 v5 => D_laws_eqIntS_0 g fuel p0 p1 n v0 v1 v5 Kk) (fun r1 => Kk ⟨[.x (.bool r1)], []⟩) := by
  kernel_rfl
def F_laws_eqIntS_0 {ρ : Type} (fuel : Nat)   (K : Bool → Option ρ) : Nat → List Int → List Int → Int → Option ρ
  | 0, _, _, _ => none
  | n + 1, v0, v1, v5 => S_laws_eqIntS_0  v0 v1 v5 (F_laws_eqIntS_0 fuel   K n) K
theorem f_laws_eqIntS_0 {ρ : Type} (fuel : Nat) (p0 : List Int) (p1 : List Int) (Kk : Out → Option ρ) : ∀ (n : Nat) (v0 : List Int) (v1 : List Int) (v5 : Int), D_laws_eqIntS_0 1 fuel p0 p1  n v0 v1 v5 Kk = F_laws_eqIntS_0 fuel   (fun r1 => Kk ⟨[.x (.bool r1)], []⟩) n v0 v1 v5 := by
  intro n
  induction n with
  | zero => intros; rfl
  | succ n ih =>
    intro v0 v1 v5
    rw [s_laws_eqIntS_0, F_laws_eqIntS_0]
    try simp only [ih]
def F_laws_eqIntS {ρ : Type} (fuel : Nat) (p0 : List Int) (p1 : List Int)  (K : Bool → Option ρ) : Option ρ := S_laws_eqIntS_e p0 p1  (F_laws_eqIntS_0 fuel   K fuel) K
theorem f_laws_eqIntS {ρ : Type} (fuel : Nat) (p0 : List Int) (p1 : List Int) (Kk : Out → Option ρ) : runFn TT E_laws_eqIntS (kp_laws_eqIntS 1) fuel [.val, .val] 2 false [[]] 26 [.tmp 4] b_laws_eqIntS [.x (.sl (.ints .i64 p0)), .x (.sl (.ints .i64 p1))] Kk = F_laws_eqIntS fuel p0 p1 (fun r1 => Kk ⟨[.x (.bool r1)], []⟩) := by
  rw [s_laws_eqIntS_e, F_laws_eqIntS]
  try simp only [f_laws_eqIntS_0]
noncomputable def sh_laws_eqIntS (p0 : List Int) (p1 : List Int) : Option (Bool) := val fun n => F_laws_eqIntS n p0 p1 (fun r1 => some r1)
noncomputable def G_laws_eqIntS {ρ : Type} : List DU → (Out → Option ρ) → Option ρ
  | [.x (.sl (.ints .i64 p0)), .x (.sl (.ints .i64 p1))], K => (sh_laws_eqIntS p0 p1).bind fun r => K ⟨[.x (.bool r)], []⟩
  | _, _ => none
noncomputable def o_laws_eqIntS : Ora := ⟨[.val, .val], 2, false, G_laws_eqIntS⟩
def un_laws_eqIntS : Out → Option (Bool)
  | ⟨[.x (.bool r1)], []⟩ => some r1
  | _ => none
theorem un_laws_eqIntS_ok {o : Out} {r : Bool} (h : un_laws_eqIntS o = some r) : o = ⟨[.x (.bool r)], []⟩ := by
  unfold un_laws_eqIntS at h
  split at h
  · injection h with h
    subst h
    rfl
  · cases h
theorem n_laws_eqIntS : ∀ k o, E_laws_eqIntS.fn k = some o → Nat1 o := fun k o h => (ook_list (P := Try.prog) (l := O_laws_eqIntS) (fk := E_laws_eqIntS.fk) (List.forall_mem_nil _)).nat k o h
theorem u_laws_eqIntS (fuel : Nat) (p0 : List Int) (p1 : List Int) : runFn TT E_laws_eqIntS (kp_laws_eqIntS 1) fuel [.val, .val] 2 false [[]] 26 [.tmp 4] b_laws_eqIntS [.x (.sl (.ints .i64 p0)), .x (.sl (.ints .i64 p1))] un_laws_eqIntS = F_laws_eqIntS fuel p0 p1 (fun r1 => some r1) := f_laws_eqIntS fuel p0 p1 un_laws_eqIntS
theorem sh_laws_eqIntS_of {n : Nat} {p0 : List Int} {p1 : List Int} {r : Bool} (h : F_laws_eqIntS n p0 p1 (fun r1 => some r1) = some r) : sh_laws_eqIntS p0 p1 = some r := val_of (fun n m r hm h => by rw [← u_laws_eqIntS] at h ⊢; exact runFn_mono n_laws_eqIntS hm h) h
theorem m_laws_eqIntS : MeetsO Try.prog 42 o_laws_eqIntS := by
  refine ⟨fun ρ ds K => ?_, ⟨_, meets_run (kp := kp_laws_eqIntS 1) (weak := false) (df := [[]]) tsOk (ook_list (l := O_laws_eqIntS) (fk := E_laws_eqIntS.fk) (List.forall_mem_nil _)) mixed Try.func42 (body := b_laws_eqIntS) (by kernel_rfl) (ntmps := 26) (by kernel_rfl) (rs := [.tmp 4]) (by kernel_rfl), fun ds out h => ?_⟩, ⟨_, Try.func42, by kernel_rfl, by kernel_rfl⟩⟩
  · show G_laws_eqIntS ds K = (G_laws_eqIntS ds some).bind K
    unfold G_laws_eqIntS
    split
    · cases sh_laws_eqIntS _ _ <;> rfl
    · rfl
  · replace h : G_laws_eqIntS ds some = some out := h
    unfold G_laws_eqIntS at h
    split at h
    · obtain ⟨r, hr, h⟩ := Option.bind_eq_some_iff.1 h
      injection h with h
      subst h
      obtain ⟨n, hn⟩ := val_some hr
      replace hn := (u_laws_eqIntS n _ _).trans hn
      rw [runFn_bind (K := un_laws_eqIntS) (K' := some) (f := un_laws_eqIntS) n_laws_eqIntS (fun _ => rfl)] at hn
      obtain ⟨o, h1, h2⟩ := Option.bind_eq_some_iff.1 hn
      rw [un_laws_eqIntS_ok h2] at h1
      exact ⟨n, h1⟩
    · cases h
/-! f48 loop.example.g01239.laws.eqBoard -/
noncomputable def b_laws_eqBoard : Code := Try.f48.body.getD .skip
def kp_laws_eqBoard (g : Nat) : Nat → Option Keep := lk []
def O_laws_eqBoard : List (FuncId × Ora) := [(42, o_laws_eqIntS)]
def E_laws_eqBoard : Env := ⟨lk O_laws_eqBoard, fun _ => false⟩
def S_laws_eqBoard_e {ρ : Type} (p0_0 : Int) (p0_1 : Int) (p0_2 : List Int) (p1_0 : Int) (p1_1 : Int) (p1_2 : List Int)   (K : Bool → Option ρ) : Option ρ :=
  (bif !decide (p0_0 = p1_0) then K false else (bif !decide (p0_1 = p1_1) then K false else ((sh_laws_eqIntS p0_2 p1_2).bind fun r1 => (bif !r1 then K false else K true))))
theorem s_laws_eqBoard_e {ρ : Type} (g fuel : Nat) (p0_0 : Int) (p0_1 : Int) (p0_2 : List Int) (p1_0 : Int) (p1_1 : Int) (p1_2 : List Int) (Kk : Out → Option ρ) : runFn TT E_laws_eqBoard (kp_laws_eqBoard g) fuel [.val, .val] 2 false [[]] 21 [.tmp 4] b_laws_eqBoard [.agg [.int .i64 p0_0, .int .i64 p0_1, .sl (.ints .i64 p0_2)], .agg [.int .i64 p1_0, .int .i64 p1_1, .sl (.ints .i64 p1_2)]] Kk = S_laws_eqBoard_e p0_0 p0_1 p0_2 p1_0 p1_1 p1_2   (fun r1 => Kk ⟨[.x (.bool r1)], []⟩) := by
  kernel_rfl
def F_laws_eqBoard {ρ : Type} (fuel : Nat) (p0_0 : Int) (p0_1 : Int) (p0_2 : List Int) (p1_0 : Int) (p1_1 : Int) (p1_2 : List Int)  (K : Bool → Option ρ) : Option ρ := S_laws_eqBoard_e p0_0 p0_1 p0_2 p1_0 p1_1 p1_2   K
theorem f_laws_eqBoard {ρ : Type} (fuel : Nat) (p0_0 : Int) (p0_1 : Int) (p0_2 : List Int) (p1_0 : Int) (p1_1 : Int) (p1_2 : List Int) (Kk : Out → Option ρ) : runFn TT E_laws_eqBoard (kp_laws_eqBoard 1) fuel [.val, .val] 2 false [[]] 21 [.tmp 4] b_laws_eqBoard [.agg [.int .i64 p0_0, .int .i64 p0_1, .sl (.ints .i64 p0_2)], .agg [.int .i64 p1_0, .int .i64 p1_1, .sl (.ints .i64 p1_2)]] Kk = F_laws_eqBoard fuel p0_0 p0_1 p0_2 p1_0 p1_1 p1_2 (fun r1 => Kk ⟨[.x (.bool r1)], []⟩) := by
  rw [s_laws_eqBoard_e, F_laws_eqBoard]
noncomputable def sh_laws_eqBoard (p0_0 : Int) (p0_1 : Int) (p0_2 : List Int) (p1_0 : Int) (p1_1 : Int) (p1_2 : List Int) : Option (Bool) := F_laws_eqBoard 0 p0_0 p0_1 p0_2 p1_0 p1_1 p1_2 (fun r1 => some r1)
noncomputable def G_laws_eqBoard {ρ : Type} : List DU → (Out → Option ρ) → Option ρ
  | [.agg [.int .i64 p0_0, .int .i64 p0_1, .sl (.ints .i64 p0_2)], .agg [.int .i64 p1_0, .int .i64 p1_1, .sl (.ints .i64 p1_2)]], K => (sh_laws_eqBoard p0_0 p0_1 p0_2 p1_0 p1_1 p1_2).bind fun r => K ⟨[.x (.bool r)], []⟩
  | _, _ => none
noncomputable def o_laws_eqBoard : Ora := ⟨[.val, .val], 2, false, G_laws_eqBoard⟩
def un_laws_eqBoard : Out → Option (Bool)
  | ⟨[.x (.bool r1)], []⟩ => some r1
  | _ => none
theorem un_laws_eqBoard_ok {o : Out} {r : Bool} (h : un_laws_eqBoard o = some r) : o = ⟨[.x (.bool r)], []⟩ := by
  unfold un_laws_eqBoard at h
  split at h
  · injection h with h
    subst h
    rfl
  · cases h
theorem n_laws_eqBoard : ∀ k o, E_laws_eqBoard.fn k = some o → Nat1 o := fun k o h => (ook_list (P := Try.prog) (l := O_laws_eqBoard) (fk := E_laws_eqBoard.fk) (List.forall_mem_cons.2 ⟨m_laws_eqIntS, (List.forall_mem_nil _)⟩)).nat k o h
theorem u_laws_eqBoard (fuel : Nat) (p0_0 : Int) (p0_1 : Int) (p0_2 : List Int) (p1_0 : Int) (p1_1 : Int) (p1_2 : List Int) : runFn TT E_laws_eqBoard (kp_laws_eqBoard 1) fuel [.val, .val] 2 false [[]] 21 [.tmp 4] b_laws_eqBoard [.agg [.int .i64 p0_0, .int .i64 p0_1, .sl (.ints .i64 p0_2)], .agg [.int .i64 p1_0, .int .i64 p1_1, .sl (.ints .i64 p1_2)]] un_laws_eqBoard = F_laws_eqBoard fuel p0_0 p0_1 p0_2 p1_0 p1_1 p1_2 (fun r1 => some r1) := f_laws_eqBoard fuel p0_0 p0_1 p0_2 p1_0 p1_1 p1_2 un_laws_eqBoard
theorem m_laws_eqBoard : MeetsO Try.prog 48 o_laws_eqBoard := by
  refine ⟨fun ρ ds K => ?_, ⟨_, meets_run (kp := kp_laws_eqBoard 1) (weak := false) (df := [[]]) tsOk (ook_list (l := O_laws_eqBoard) (fk := E_laws_eqBoard.fk) (List.forall_mem_cons.2 ⟨m_laws_eqIntS, (List.forall_mem_nil _)⟩)) mixed Try.func48 (body := b_laws_eqBoard) (by kernel_rfl) (ntmps := 21) (by kernel_rfl) (rs := [.tmp 4]) (by kernel_rfl), fun ds out h => ?_⟩, ⟨_, Try.func48, by kernel_rfl, by kernel_rfl⟩⟩
  · show G_laws_eqBoard ds K = (G_laws_eqBoard ds some).bind K
    unfold G_laws_eqBoard
    split
    · cases sh_laws_eqBoard _ _ _ _ _ _ <;> rfl
    · rfl
  · replace h : G_laws_eqBoard ds some = some out := h
    unfold G_laws_eqBoard at h
    split at h
    · obtain ⟨r, hr, h⟩ := Option.bind_eq_some_iff.1 h
      injection h with h
      subst h
      have hn := (u_laws_eqBoard 0 _ _ _ _ _ _).trans hr
      rw [runFn_bind (K := un_laws_eqBoard) (K' := some) (f := un_laws_eqBoard) n_laws_eqBoard (fun _ => rfl)] at hn
      obtain ⟨o, h1, h2⟩ := Option.bind_eq_some_iff.1 hn
      rw [un_laws_eqBoard_ok h2] at h1
      exact ⟨0, h1⟩
    · cases h
/-! f51 loop.example.g01239.laws.eqLeaper -/
noncomputable def b_laws_eqLeaper : Code := Try.f51.body.getD .skip
def kp_laws_eqLeaper (g : Nat) : Nat → Option Keep := lk []
def O_laws_eqLeaper : List (FuncId × Ora) := []
def E_laws_eqLeaper : Env := ⟨lk O_laws_eqLeaper, fun _ => false⟩
def S_laws_eqLeaper_e {ρ : Type} (p0_0 : Int) (p0_1 : Int) (p1_0 : Int) (p1_1 : Int)   (K : Bool → Option ρ) : Option ρ :=
  (bif !decide (p0_0 = p1_0) then K false else (bif !decide (p0_1 = p1_1) then K false else K true))
theorem s_laws_eqLeaper_e {ρ : Type} (g fuel : Nat) (p0_0 : Int) (p0_1 : Int) (p1_0 : Int) (p1_1 : Int) (Kk : Out → Option ρ) : runFn TT E_laws_eqLeaper (kp_laws_eqLeaper g) fuel [.val, .val] 2 false [[]] 15 [.tmp 4] b_laws_eqLeaper [.agg [.int .i64 p0_0, .int .i64 p0_1], .agg [.int .i64 p1_0, .int .i64 p1_1]] Kk = S_laws_eqLeaper_e p0_0 p0_1 p1_0 p1_1   (fun r1 => Kk ⟨[.x (.bool r1)], []⟩) := by
  kernel_rfl
def F_laws_eqLeaper {ρ : Type} (fuel : Nat) (p0_0 : Int) (p0_1 : Int) (p1_0 : Int) (p1_1 : Int)  (K : Bool → Option ρ) : Option ρ := S_laws_eqLeaper_e p0_0 p0_1 p1_0 p1_1   K
theorem f_laws_eqLeaper {ρ : Type} (fuel : Nat) (p0_0 : Int) (p0_1 : Int) (p1_0 : Int) (p1_1 : Int) (Kk : Out → Option ρ) : runFn TT E_laws_eqLeaper (kp_laws_eqLeaper 1) fuel [.val, .val] 2 false [[]] 15 [.tmp 4] b_laws_eqLeaper [.agg [.int .i64 p0_0, .int .i64 p0_1], .agg [.int .i64 p1_0, .int .i64 p1_1]] Kk = F_laws_eqLeaper fuel p0_0 p0_1 p1_0 p1_1 (fun r1 => Kk ⟨[.x (.bool r1)], []⟩) := by
  rw [s_laws_eqLeaper_e, F_laws_eqLeaper]
noncomputable def sh_laws_eqLeaper (p0_0 : Int) (p0_1 : Int) (p1_0 : Int) (p1_1 : Int) : Option (Bool) := F_laws_eqLeaper 0 p0_0 p0_1 p1_0 p1_1 (fun r1 => some r1)
noncomputable def G_laws_eqLeaper {ρ : Type} : List DU → (Out → Option ρ) → Option ρ
  | [.agg [.int .i64 p0_0, .int .i64 p0_1], .agg [.int .i64 p1_0, .int .i64 p1_1]], K => (sh_laws_eqLeaper p0_0 p0_1 p1_0 p1_1).bind fun r => K ⟨[.x (.bool r)], []⟩
  | _, _ => none
noncomputable def o_laws_eqLeaper : Ora := ⟨[.val, .val], 2, false, G_laws_eqLeaper⟩
def un_laws_eqLeaper : Out → Option (Bool)
  | ⟨[.x (.bool r1)], []⟩ => some r1
  | _ => none
theorem un_laws_eqLeaper_ok {o : Out} {r : Bool} (h : un_laws_eqLeaper o = some r) : o = ⟨[.x (.bool r)], []⟩ := by
  unfold un_laws_eqLeaper at h
  split at h
  · injection h with h
    subst h
    rfl
  · cases h
theorem n_laws_eqLeaper : ∀ k o, E_laws_eqLeaper.fn k = some o → Nat1 o := fun k o h => (ook_list (P := Try.prog) (l := O_laws_eqLeaper) (fk := E_laws_eqLeaper.fk) (List.forall_mem_nil _)).nat k o h
theorem u_laws_eqLeaper (fuel : Nat) (p0_0 : Int) (p0_1 : Int) (p1_0 : Int) (p1_1 : Int) : runFn TT E_laws_eqLeaper (kp_laws_eqLeaper 1) fuel [.val, .val] 2 false [[]] 15 [.tmp 4] b_laws_eqLeaper [.agg [.int .i64 p0_0, .int .i64 p0_1], .agg [.int .i64 p1_0, .int .i64 p1_1]] un_laws_eqLeaper = F_laws_eqLeaper fuel p0_0 p0_1 p1_0 p1_1 (fun r1 => some r1) := f_laws_eqLeaper fuel p0_0 p0_1 p1_0 p1_1 un_laws_eqLeaper
theorem m_laws_eqLeaper : MeetsO Try.prog 51 o_laws_eqLeaper := by
  refine ⟨fun ρ ds K => ?_, ⟨_, meets_run (kp := kp_laws_eqLeaper 1) (weak := false) (df := [[]]) tsOk (ook_list (l := O_laws_eqLeaper) (fk := E_laws_eqLeaper.fk) (List.forall_mem_nil _)) mixed Try.func51 (body := b_laws_eqLeaper) (by kernel_rfl) (ntmps := 15) (by kernel_rfl) (rs := [.tmp 4]) (by kernel_rfl), fun ds out h => ?_⟩, ⟨_, Try.func51, by kernel_rfl, by kernel_rfl⟩⟩
  · show G_laws_eqLeaper ds K = (G_laws_eqLeaper ds some).bind K
    unfold G_laws_eqLeaper
    split
    · cases sh_laws_eqLeaper _ _ _ _ <;> rfl
    · rfl
  · replace h : G_laws_eqLeaper ds some = some out := h
    unfold G_laws_eqLeaper at h
    split at h
    · obtain ⟨r, hr, h⟩ := Option.bind_eq_some_iff.1 h
      injection h with h
      subst h
      have hn := (u_laws_eqLeaper 0 _ _ _ _).trans hr
      rw [runFn_bind (K := un_laws_eqLeaper) (K' := some) (f := un_laws_eqLeaper) n_laws_eqLeaper (fun _ => rfl)] at hn
      obtain ⟨o, h1, h2⟩ := Option.bind_eq_some_iff.1 hn
      rw [un_laws_eqLeaper_ok h2] at h1
      exact ⟨0, h1⟩
    · cases h
/-! f22 loop.example.g01239.laws.eqPuzzle -/
noncomputable def b_laws_eqPuzzle : Code := Try.f22.body.getD .skip
def kp_laws_eqPuzzle (g : Nat) : Nat → Option Keep := lk []
def O_laws_eqPuzzle : List (FuncId × Ora) := [(42, o_laws_eqIntS), (48, o_laws_eqBoard), (51, o_laws_eqLeaper)]
def E_laws_eqPuzzle : Env := ⟨lk O_laws_eqPuzzle, fun _ => false⟩
def S_laws_eqPuzzle_e {ρ : Type} (p0_0 : Int) (p0_1 : Int) (p0_2 : List Int) (p0_3 : Int) (p0_4 : Int) (p0_5 : List Int) (p1_0 : Int) (p1_1 : Int) (p1_2 : List Int) (p1_3 : Int) (p1_4 : Int) (p1_5 : List Int)   (K : Bool → Option ρ) : Option ρ :=
  ((sh_laws_eqBoard p0_0 p0_1 p0_2 p1_0 p1_1 p1_2).bind fun r1 => (bif !r1 then K false else ((sh_laws_eqLeaper p0_3 p0_4 p1_3 p1_4).bind fun r2 => (bif !r2 then K false else ((sh_laws_eqIntS p0_5 p1_5).bind fun r3 => (bif !r3 then K false else K true))))))
theorem s_laws_eqPuzzle_e {ρ : Type} (g fuel : Nat) (p0_0 : Int) (p0_1 : Int) (p0_2 : List Int) (p0_3 : Int) (p0_4 : Int) (p0_5 : List Int) (p1_0 : Int) (p1_1 : Int) (p1_2 : List Int) (p1_3 : Int) (p1_4 : Int) (p1_5 : List Int) (Kk : Out → Option ρ) : runFn TT E_laws_eqPuzzle (kp_laws_eqPuzzle g) fuel [.val, .val] 2 false [[]] 23 [.tmp 4] b_laws_eqPuzzle [.agg [.int .i64 p0_0, .int .i64 p0_1, .sl (.ints .i64 p0_2), .int .i64 p0_3, .int .i64 p0_4, .sl (.ints .i64 p0_5)], .agg [.int .i64 p1_0, .int .i64 p1_1, .sl (.ints .i64 p1_2), .int .i64 p1_3, .int .i64 p1_4, .sl (.ints .i64 p1_5)]] Kk = S_laws_eqPuzzle_e p0_0 p0_1 p0_2 p0_3 p0_4 p0_5 p1_0 p1_1 p1_2 p1_3 p1_4 p1_5   (fun r1 => Kk ⟨[.x (.bool r1)], []⟩) := by
  kernel_rfl
def F_laws_eqPuzzle {ρ : Type} (fuel : Nat) (p0_0 : Int) (p0_1 : Int) (p0_2 : List Int) (p0_3 : Int) (p0_4 : Int) (p0_5 : List Int) (p1_0 : Int) (p1_1 : Int) (p1_2 : List Int) (p1_3 : Int) (p1_4 : Int) (p1_5 : List Int)  (K : Bool → Option ρ) : Option ρ := S_laws_eqPuzzle_e p0_0 p0_1 p0_2 p0_3 p0_4 p0_5 p1_0 p1_1 p1_2 p1_3 p1_4 p1_5   K
theorem f_laws_eqPuzzle {ρ : Type} (fuel : Nat) (p0_0 : Int) (p0_1 : Int) (p0_2 : List Int) (p0_3 : Int) (p0_4 : Int) (p0_5 : List Int) (p1_0 : Int) (p1_1 : Int) (p1_2 : List Int) (p1_3 : Int) (p1_4 : Int) (p1_5 : List Int) (Kk : Out → Option ρ) : runFn TT E_laws_eqPuzzle (kp_laws_eqPuzzle 1) fuel [.val, .val] 2 false [[]] 23 [.tmp 4] b_laws_eqPuzzle [.agg [.int .i64 p0_0, .int .i64 p0_1, .sl (.ints .i64 p0_2), .int .i64 p0_3, .int .i64 p0_4, .sl (.ints .i64 p0_5)], .agg [.int .i64 p1_0, .int .i64 p1_1, .sl (.ints .i64 p1_2), .int .i64 p1_3, .int .i64 p1_4, .sl (.ints .i64 p1_5)]] Kk = F_laws_eqPuzzle fuel p0_0 p0_1 p0_2 p0_3 p0_4 p0_5 p1_0 p1_1 p1_2 p1_3 p1_4 p1_5 (fun r1 => Kk ⟨[.x (.bool r1)], []⟩) := by
  rw [s_laws_eqPuzzle_e, F_laws_eqPuzzle]
noncomputable def sh_laws_eqPuzzle (p0_0 : Int) (p0_1 : Int) (p0_2 : List Int) (p0_3 : Int) (p0_4 : Int) (p0_5 : List Int) (p1_0 : Int) (p1_1 : Int) (p1_2 : List Int) (p1_3 : Int) (p1_4 : Int) (p1_5 : List Int) : Option (Bool) := F_laws_eqPuzzle 0 p0_0 p0_1 p0_2 p0_3 p0_4 p0_5 p1_0 p1_1 p1_2 p1_3 p1_4 p1_5 (fun r1 => some r1)
noncomputable def G_laws_eqPuzzle {ρ : Type} : List DU → (Out → Option ρ) → Option ρ
  | [.agg [.int .i64 p0_0, .int .i64 p0_1, .sl (.ints .i64 p0_2), .int .i64 p0_3, .int .i64 p0_4, .sl (.ints .i64 p0_5)], .agg [.int .i64 p1_0, .int .i64 p1_1, .sl (.ints .i64 p1_2), .int .i64 p1_3, .int .i64 p1_4, .sl (.ints .i64 p1_5)]], K => (sh_laws_eqPuzzle p0_0 p0_1 p0_2 p0_3 p0_4 p0_5 p1_0 p1_1 p1_2 p1_3 p1_4 p1_5).bind fun r => K ⟨[.x (.bool r)], []⟩
  | _, _ => none
noncomputable def o_laws_eqPuzzle : Ora := ⟨[.val, .val], 2, false, G_laws_eqPuzzle⟩
def un_laws_eqPuzzle : Out → Option (Bool)
  | ⟨[.x (.bool r1)], []⟩ => some r1
  | _ => none
theorem un_laws_eqPuzzle_ok {o : Out} {r : Bool} (h : un_laws_eqPuzzle o = some r) : o = ⟨[.x (.bool r)], []⟩ := by
  unfold un_laws_eqPuzzle at h
  split at h
  · injection h with h
    subst h
    rfl
  · cases h
theorem n_laws_eqPuzzle : ∀ k o, E_laws_eqPuzzle.fn k = some o → Nat1 o := fun k o h => (ook_list (P := Try.prog) (l := O_laws_eqPuzzle) (fk := E_laws_eqPuzzle.fk) (List.forall_mem_cons.2 ⟨m_laws_eqIntS, (List.forall_mem_cons.2 ⟨m_laws_eqBoard, (List.forall_mem_cons.2 ⟨m_laws_eqLeaper, (List.forall_mem_nil _)⟩)⟩)⟩)).nat k o h
theorem u_laws_eqPuzzle (fuel : Nat) (p0_0 : Int) (p0_1 : Int) (p0_2 : List Int) (p0_3 : Int) (p0_4 : Int) (p0_5 : List Int) (p1_0 : Int) (p1_1 : Int) (p1_2 : List Int) (p1_3 : Int) (p1_4 : Int) (p1_5 : List Int) : runFn TT E_laws_eqPuzzle (kp_laws_eqPuzzle 1) fuel [.val, .val] 2 false [[]] 23 [.tmp 4] b_laws_eqPuzzle [.agg [.int .i64 p0_0, .int .i64 p0_1, .sl (.ints .i64 p0_2), .int .i64 p0_3, .int .i64 p0_4, .sl (.ints .i64 p0_5)], .agg [.int .i64 p1_0, .int .i64 p1_1, .sl (.ints .i64 p1_2), .int .i64 p1_3, .int .i64 p1_4, .sl (.ints .i64 p1_5)]] un_laws_eqPuzzle = F_laws_eqPuzzle fuel p0_0 p0_1 p0_2 p0_3 p0_4 p0_5 p1_0 p1_1 p1_2 p1_3 p1_4 p1_5 (fun r1 => some r1) := f_laws_eqPuzzle fuel p0_0 p0_1 p0_2 p0_3 p0_4 p0_5 p1_0 p1_1 p1_2 p1_3 p1_4 p1_5 un_laws_eqPuzzle
theorem m_laws_eqPuzzle : MeetsO Try.prog 22 o_laws_eqPuzzle := by
  refine ⟨fun ρ ds K => ?_, ⟨_, meets_run (kp := kp_laws_eqPuzzle 1) (weak := false) (df := [[]]) tsOk (ook_list (l := O_laws_eqPuzzle) (fk := E_laws_eqPuzzle.fk) (List.forall_mem_cons.2 ⟨m_laws_eqIntS, (List.forall_mem_cons.2 ⟨m_laws_eqBoard, (List.forall_mem_cons.2 ⟨m_laws_eqLeaper, (List.forall_mem_nil _)⟩)⟩)⟩)) mixed Try.func22 (body := b_laws_eqPuzzle) (by kernel_rfl) (ntmps := 23) (by kernel_rfl) (rs := [.tmp 4]) (by kernel_rfl), fun ds out h => ?_⟩, ⟨_, Try.func22, by kernel_rfl, by kernel_rfl⟩⟩
  · show G_laws_eqPuzzle ds K = (G_laws_eqPuzzle ds some).bind K
    unfold G_laws_eqPuzzle
    split
    · cases sh_laws_eqPuzzle _ _ _ _ _ _ _ _ _ _ _ _ <;> rfl
    · rfl
  · replace h : G_laws_eqPuzzle ds some = some out := h
    unfold G_laws_eqPuzzle at h
    split at h
    · obtain ⟨r, hr, h⟩ := Option.bind_eq_some_iff.1 h
      injection h with h
      subst h
      have hn := (u_laws_eqPuzzle 0 _ _ _ _ _ _ _ _ _ _ _ _).trans hr
      rw [runFn_bind (K := un_laws_eqPuzzle) (K' := some) (f := un_laws_eqPuzzle) n_laws_eqPuzzle (fun _ => rfl)] at hn
      obtain ⟨o, h1, h2⟩ := Option.bind_eq_some_iff.1 hn
      rw [un_laws_eqPuzzle_ok h2] at h1
      exact ⟨0, h1⟩
    · cases h
/-! f50 loop.example.g01239.laws.markIntS -/
noncomputable def b_laws_markIntS : Code := Try.f50.body.getD .skip
def kp_laws_markIntS (g : Nat) : Nat → Option Keep := lk [(2, ⟨[], [0, 1, 5], [], [], [], g⟩)]
def O_laws_markIntS : List (FuncId × Ora) := []
def E_laws_markIntS : Env := ⟨lk O_laws_markIntS, fun _ => false⟩
noncomputable def D_laws_markIntS_0 {ρ : Type} (g fuel : Nat) (p0 : List Int) (p1 : Int) (n : Nat) (v0 : List Int) (v1 : Int) (v5 : Int) (Kk : Out → Option ρ) : Option ρ :=
  iter (run TT E_laws_markIntS (kp_laws_markIntS g) fuel (cL (cB (cS2 (cS1 (cS2 (b_laws_markIntS))))))) (nrmAt (kp_laws_markIntS g) (firstRid (cL (cB (cS2 (cS1 (cS2 (b_laws_markIntS)))))))) n (⟨[.u (.x (.own 0 (.ints .i64 v0))), .u (.x (.int .i64 v1)), uu, uu, uu, .u (.x (.int .i64 v5)), uu, uu, uu, uu, uu, uu, uu, uu, uu, uu, uu, uu, uu], [], [(0, .ints .i64 v0)], []⟩) (blkK 0 (seqK (gateAt (kp_laws_markIntS g) (200000 + firstRid (cS2 (cS2 (b_laws_markIntS))))) (run TT E_laws_markIntS (kp_laws_markIntS g) fuel (cS2 (cS2 (b_laws_markIntS)))) (nrmAt (kp_laws_markIntS g) (200000 + firstRid (cS2 (cS2 (b_laws_markIntS))))) (topK TT [.wr, .val] false [[]] [.tmp 4] [.x (.sl (.ints .i64 p0)), .x (.int .i64 p1)] Kk)))
def S_laws_markIntS_e {ρ : Type} (p0 : List Int) (p1 : Int)  (k0 : (List Int → Int → Int → Option ρ)) : Option ρ :=
  k0 p0 p1 (0 : Int)
theorem s_laws_markIntS_e {ρ : Type} (g fuel : Nat) (p0 : List Int) (p1 : Int) (Kk : Out → Option ρ) : runFn TT E_laws_markIntS (kp_laws_markIntS g) fuel [.wr, .val] 2 false [[]] 19 [.tmp 4] b_laws_markIntS [.x (.sl (.ints .i64 p0)), .x (.int .i64 p1)] Kk = S_laws_markIntS_e p0 p1  (fun v0 v1 v5 => D_laws_markIntS_0 g fuel p0 p1 fuel v0 v1 v5 Kk) := by
  kernel_rfl
def S_laws_markIntS_0 {ρ : Type}  (v0 : List Int) (v1 : Int) (v5 : Int) (b0 : (List Int → Int → Int → Option ρ)) (K : Int → List Int → Option ρ) : Option ρ :=
  (bif decide (v5 < (v0.length : Int)) then (if 0 ≤ v5 then (if v5 < (v0.length : Int) then b0 (v0.set v5.toNat v1) (IntKind.i64.wrap (v1 + (1 : Int))) (IntKind.i64.wrap (v5 + (1 : Int))) else none) else none) else K v1 v0)
theorem s_laws_markIntS_0 {ρ : Type} (g fuel : Nat) (p0 : List Int) (p1 : Int) (n : Nat) (v0 : List Int) (v1 : Int) (v5 : Int) (Kk : Out → Option ρ) : D_laws_markIntS_0 g fuel p0 p1  (n + 1) v0 v1 v5 Kk = S_laws_markIntS_0  v0 v1 v5 (fun v0 v1 v5 => D_laws_markIntS_0 g fuel p0 p1 n v0 v1 v5 Kk) (fun r1 r2 => Kk ⟨[.x (.int .i64 r1)], [.x (.sl (.ints .i64 r2))]⟩) := by
  kernel_rfl
def F_laws_markIntS_0 {ρ : Type} (fuel : Nat)   (K : Int → List Int → Option ρ) : Nat → List Int → Int → Int → Option ρ
  | 0, _, _, _ => none
  | n + 1, v0, v1, v5 => S_laws_markIntS_0  v0 v1 v5 (F_laws_markIntS_0 fuel   K n) K
theorem f_laws_markIntS_0 {ρ : Type} (fuel : Nat) (p0 : List Int) (p1 : Int) (Kk : Out → Option ρ) : ∀ (n : Nat) (v0 : List Int) (v1 : Int) (v5 : Int), D_laws_markIntS_0 1 fuel p0 p1  n v0 v1 v5 Kk = F_laws_markIntS_0 fuel   (fun r1 r2 => Kk ⟨[.x (.int .i64 r1)], [.x (.sl (.ints .i64 r2))]⟩) n v0 v1 v5 := by
  intro n
  induction n with
  | zero => intros; rfl
  | succ n ih =>
    intro v0 v1 v5
    rw [s_laws_markIntS_0, F_laws_markIntS_0]
    try simp only [ih]
def F_laws_markIntS {ρ : Type} (fuel : Nat) (p0 : List Int) (p1 : Int)  (K : Int → List Int → Option ρ) : Option ρ := S_laws_markIntS_e p0 p1  (F_laws_markIntS_0 fuel   K fuel)
theorem f_laws_markIntS {ρ : Type} (fuel : Nat) (p0 : List Int) (p1 : Int) (Kk : Out → Option ρ) : runFn TT E_laws_markIntS (kp_laws_markIntS 1) fuel [.wr, .val] 2 false [[]] 19 [.tmp 4] b_laws_markIntS [.x (.sl (.ints .i64 p0)), .x (.int .i64 p1)] Kk = F_laws_markIntS fuel p0 p1 (fun r1 r2 => Kk ⟨[.x (.int .i64 r1)], [.x (.sl (.ints .i64 r2))]⟩) := by
  rw [s_laws_markIntS_e, F_laws_markIntS]
  try simp only [f_laws_markIntS_0]
noncomputable def sh_laws_markIntS (p0 : List Int) (p1 : Int) : Option (Int × List Int) := val fun n => F_laws_markIntS n p0 p1 (fun r1 r2 => some (r1, r2))
noncomputable def G_laws_markIntS {ρ : Type} : List DU → (Out → Option ρ) → Option ρ
  | [.x (.sl (.ints .i64 p0)), .x (.int .i64 p1)], K => (sh_laws_markIntS p0 p1).bind fun r => K ⟨[.x (.int .i64 r.1)], [.x (.sl (.ints .i64 r.2))]⟩
  | _, _ => none
noncomputable def o_laws_markIntS : Ora := ⟨[.wr, .val], 2, false, G_laws_markIntS⟩
def un_laws_markIntS : Out → Option (Int × List Int)
  | ⟨[.x (.int .i64 r1)], [.x (.sl (.ints .i64 r2))]⟩ => some (r1, r2)
  | _ => none
theorem un_laws_markIntS_ok {o : Out} {r : Int × List Int} (h : un_laws_markIntS o = some r) : o = ⟨[.x (.int .i64 r.1)], [.x (.sl (.ints .i64 r.2))]⟩ := by
  unfold un_laws_markIntS at h
  split at h
  · injection h with h
    subst h
    rfl
  · cases h
theorem n_laws_markIntS : ∀ k o, E_laws_markIntS.fn k = some o → Nat1 o := fun k o h => (ook_list (P := Try.prog) (l := O_laws_markIntS) (fk := E_laws_markIntS.fk) (List.forall_mem_nil _)).nat k o h
theorem u_laws_markIntS (fuel : Nat) (p0 : List Int) (p1 : Int) : runFn TT E_laws_markIntS (kp_laws_markIntS 1) fuel [.wr, .val] 2 false [[]] 19 [.tmp 4] b_laws_markIntS [.x (.sl (.ints .i64 p0)), .x (.int .i64 p1)] un_laws_markIntS = F_laws_markIntS fuel p0 p1 (fun r1 r2 => some (r1, r2)) := f_laws_markIntS fuel p0 p1 un_laws_markIntS
theorem sh_laws_markIntS_of {n : Nat} {p0 : List Int} {p1 : Int} {r : Int × List Int} (h : F_laws_markIntS n p0 p1 (fun r1 r2 => some (r1, r2)) = some r) : sh_laws_markIntS p0 p1 = some r := val_of (fun n m r hm h => by rw [← u_laws_markIntS] at h ⊢; exact runFn_mono n_laws_markIntS hm h) h
theorem m_laws_markIntS : MeetsO Try.prog 50 o_laws_markIntS := by
  refine ⟨fun ρ ds K => ?_, ⟨_, meets_run (kp := kp_laws_markIntS 1) (weak := false) (df := [[]]) tsOk (ook_list (l := O_laws_markIntS) (fk := E_laws_markIntS.fk) (List.forall_mem_nil _)) mixed Try.func50 (body := b_laws_markIntS) (by kernel_rfl) (ntmps := 19) (by kernel_rfl) (rs := [.tmp 4]) (by kernel_rfl), fun ds out h => ?_⟩, ⟨_, Try.func50, by kernel_rfl, by kernel_rfl⟩⟩
  · show G_laws_markIntS ds K = (G_laws_markIntS ds some).bind K
    unfold G_laws_markIntS
    split
    · cases sh_laws_markIntS _ _ <;> rfl
    · rfl
  · replace h : G_laws_markIntS ds some = some out := h
    unfold G_laws_markIntS at h
    split at h
    · obtain ⟨r, hr, h⟩ := Option.bind_eq_some_iff.1 h
      injection h with h
      subst h
      obtain ⟨n, hn⟩ := val_some hr
      replace hn := (u_laws_markIntS n _ _).trans hn
      rw [runFn_bind (K := un_laws_markIntS) (K' := some) (f := un_laws_markIntS) n_laws_markIntS (fun _ => rfl)] at hn
      obtain ⟨o, h1, h2⟩ := Option.bind_eq_some_iff.1 hn
      rw [un_laws_markIntS_ok h2] at h1
      exact ⟨n, h1⟩
    · cases h
/-! f49 loop.example.g01239.laws.markBoard -/
noncomputable def b_laws_markBoard : Code := Try.f49.body.getD .skip
def kp_laws_markBoard (g : Nat) : Nat → Option Keep := lk []
def O_laws_markBoard : List (FuncId × Ora) := [(50, o_laws_markIntS)]
def E_laws_markBoard : Env := ⟨lk O_laws_markBoard, fun _ => false⟩
def S_laws_markBoard_e {ρ : Type} (p0_0 : Int) (p0_1 : Int) (p0_2 : List Int) (p1 : Int)   (K : Int → Int → Int → List Int → Option ρ) : Option ρ :=
  ((sh_laws_markIntS p0_2 p1).bind fun r1 => K r1.1 p0_0 p0_1 r1.2)
theorem s_laws_markBoard_e {ρ : Type} (g fuel : Nat) (p0_0 : Int) (p0_1 : Int) (p0_2 : List Int) (p1 : Int) (Kk : Out → Option ρ) : runFn TT E_laws_markBoard (kp_laws_markBoard g) fuel [.wr, .val] 2 false [[]] 10 [.tmp 4] b_laws_markBoard [.agg [.int .i64 p0_0, .int .i64 p0_1, .sl (.ints .i64 p0_2)], .x (.int .i64 p1)] Kk = S_laws_markBoard_e p0_0 p0_1 p0_2 p1   (fun r1 r2 r3 r4 => Kk ⟨[.x (.int .i64 r1)], [.agg [.int .i64 r2, .int .i64 r3, .sl (.ints .i64 r4)]]⟩) := by
  kernel_rfl
def F_laws_markBoard {ρ : Type} (fuel : Nat) (p0_0 : Int) (p0_1 : Int) (p0_2 : List Int) (p1 : Int)  (K : Int → Int → Int → List Int → Option ρ) : Option ρ := S_laws_markBoard_e p0_0 p0_1 p0_2 p1   K
theorem f_laws_markBoard {ρ : Type} (fuel : Nat) (p0_0 : Int) (p0_1 : Int) (p0_2 : List Int) (p1 : Int) (Kk : Out → Option ρ) : runFn TT E_laws_markBoard (kp_laws_markBoard 1) fuel [.wr, .val] 2 false [[]] 10 [.tmp 4] b_laws_markBoard [.agg [.int .i64 p0_0, .int .i64 p0_1, .sl (.ints .i64 p0_2)], .x (.int .i64 p1)] Kk = F_laws_markBoard fuel p0_0 p0_1 p0_2 p1 (fun r1 r2 r3 r4 => Kk ⟨[.x (.int .i64 r1)], [.agg [.int .i64 r2, .int .i64 r3, .sl (.ints .i64 r4)]]⟩) := by
  rw [s_laws_markBoard_e, F_laws_markBoard]
noncomputable def sh_laws_markBoard (p0_0 : Int) (p0_1 : Int) (p0_2 : List Int) (p1 : Int) : Option (Int × Int × Int × List Int) := F_laws_markBoard 0 p0_0 p0_1 p0_2 p1 (fun r1 r2 r3 r4 => some (r1, r2, r3, r4))
noncomputable def G_laws_markBoard {ρ : Type} : List DU → (Out → Option ρ) → Option ρ
  | [.agg [.int .i64 p0_0, .int .i64 p0_1, .sl (.ints .i64 p0_2)], .x (.int .i64 p1)], K => (sh_laws_markBoard p0_0 p0_1 p0_2 p1).bind fun r => K ⟨[.x (.int .i64 r.1)], [.agg [.int .i64 r.2.1, .int .i64 r.2.2.1, .sl (.ints .i64 r.2.2.2)]]⟩
  | _, _ => none
noncomputable def o_laws_markBoard : Ora := ⟨[.wr, .val], 2, false, G_laws_markBoard⟩
def un_laws_markBoard : Out → Option (Int × Int × Int × List Int)
  | ⟨[.x (.int .i64 r1)], [.agg [.int .i64 r2, .int .i64 r3, .sl (.ints .i64 r4)]]⟩ => some (r1, r2, r3, r4)
  | _ => none
theorem un_laws_markBoard_ok {o : Out} {r : Int × Int × Int × List Int} (h : un_laws_markBoard o = some r) : o = ⟨[.x (.int .i64 r.1)], [.agg [.int .i64 r.2.1, .int .i64 r.2.2.1, .sl (.ints .i64 r.2.2.2)]]⟩ := by
  unfold un_laws_markBoard at h
  split at h
  · injection h with h
    subst h
    rfl
  · cases h
theorem n_laws_markBoard : ∀ k o, E_laws_markBoard.fn k = some o → Nat1 o := fun k o h => (ook_list (P := Try.prog) (l := O_laws_markBoard) (fk := E_laws_markBoard.fk) (List.forall_mem_cons.2 ⟨m_laws_markIntS, (List.forall_mem_nil _)⟩)).nat k o h
theorem u_laws_markBoard (fuel : Nat) (p0_0 : Int) (p0_1 : Int) (p0_2 : List Int) (p1 : Int) : runFn TT E_laws_markBoard (kp_laws_markBoard 1) fuel [.wr, .val] 2 false [[]] 10 [.tmp 4] b_laws_markBoard [.agg [.int .i64 p0_0, .int .i64 p0_1, .sl (.ints .i64 p0_2)], .x (.int .i64 p1)] un_laws_markBoard = F_laws_markBoard fuel p0_0 p0_1 p0_2 p1 (fun r1 r2 r3 r4 => some (r1, r2, r3, r4)) := f_laws_markBoard fuel p0_0 p0_1 p0_2 p1 un_laws_markBoard
theorem m_laws_markBoard : MeetsO Try.prog 49 o_laws_markBoard := by
  refine ⟨fun ρ ds K => ?_, ⟨_, meets_run (kp := kp_laws_markBoard 1) (weak := false) (df := [[]]) tsOk (ook_list (l := O_laws_markBoard) (fk := E_laws_markBoard.fk) (List.forall_mem_cons.2 ⟨m_laws_markIntS, (List.forall_mem_nil _)⟩)) mixed Try.func49 (body := b_laws_markBoard) (by kernel_rfl) (ntmps := 10) (by kernel_rfl) (rs := [.tmp 4]) (by kernel_rfl), fun ds out h => ?_⟩, ⟨_, Try.func49, by kernel_rfl, by kernel_rfl⟩⟩
  · show G_laws_markBoard ds K = (G_laws_markBoard ds some).bind K
    unfold G_laws_markBoard
    split
    · cases sh_laws_markBoard _ _ _ _ <;> rfl
    · rfl
  · replace h : G_laws_markBoard ds some = some out := h
    unfold G_laws_markBoard at h
    split at h
    · obtain ⟨r, hr, h⟩ := Option.bind_eq_some_iff.1 h
      injection h with h
      subst h
      have hn := (u_laws_markBoard 0 _ _ _ _).trans hr
      rw [runFn_bind (K := un_laws_markBoard) (K' := some) (f := un_laws_markBoard) n_laws_markBoard (fun _ => rfl)] at hn
      obtain ⟨o, h1, h2⟩ := Option.bind_eq_some_iff.1 hn
      rw [un_laws_markBoard_ok h2] at h1
      exact ⟨0, h1⟩
    · cases h
/-! f27 loop.example.g01239.laws.markPuzzle -/
noncomputable def b_laws_markPuzzle : Code := Try.f27.body.getD .skip
def kp_laws_markPuzzle (g : Nat) : Nat → Option Keep := lk []
def O_laws_markPuzzle : List (FuncId × Ora) := [(49, o_laws_markBoard), (50, o_laws_markIntS)]
def E_laws_markPuzzle : Env := ⟨lk O_laws_markPuzzle, fun _ => false⟩
def S_laws_markPuzzle_e {ρ : Type} (p0_0 : Int) (p0_1 : Int) (p0_2 : List Int) (p0_3 : Int) (p0_4 : Int) (p0_5 : List Int) (p1 : Int)   (K : Int → Int → Int → List Int → Int → Int → List Int → Option ρ) : Option ρ :=
  ((sh_laws_markBoard p0_0 p0_1 p0_2 p1).bind fun r1 => ((sh_laws_markIntS p0_5 r1.1).bind fun r2 => K r2.1 p0_0 p0_1 r1.2.2.2 p0_3 p0_4 r2.2))
theorem s_laws_markPuzzle_e {ρ : Type} (g fuel : Nat) (p0_0 : Int) (p0_1 : Int) (p0_2 : List Int) (p0_3 : Int) (p0_4 : Int) (p0_5 : List Int) (p1 : Int) (Kk : Out → Option ρ) : runFn TT E_laws_markPuzzle (kp_laws_markPuzzle g) fuel [.wr, .val] 2 false [[]] 14 [.tmp 4] b_laws_markPuzzle [.agg [.int .i64 p0_0, .int .i64 p0_1, .sl (.ints .i64 p0_2), .int .i64 p0_3, .int .i64 p0_4, .sl (.ints .i64 p0_5)], .x (.int .i64 p1)] Kk = S_laws_markPuzzle_e p0_0 p0_1 p0_2 p0_3 p0_4 p0_5 p1   (fun r1 r2 r3 r4 r5 r6 r7 => Kk ⟨[.x (.int .i64 r1)], [.agg [.int .i64 r2, .int .i64 r3, .sl (.ints .i64 r4), .int .i64 r5, .int .i64 r6, .sl (.ints .i64 r7)]]⟩) := by
  kernel_rfl
def F_laws_markPuzzle {ρ : Type} (fuel : Nat) (p0_0 : Int) (p0_1 : Int) (p0_2 : List Int) (p0_3 : Int) (p0_4 : Int) (p0_5 : List Int) (p1 : Int)  (K : Int → Int → Int → List Int → Int → Int → List Int → Option ρ) : Option ρ := S_laws_markPuzzle_e p0_0 p0_1 p0_2 p0_3 p0_4 p0_5 p1   K
theorem f_laws_markPuzzle {ρ : Type} (fuel : Nat) (p0_0 : Int) (p0_1 : Int) (p0_2 : List Int) (p0_3 : Int) (p0_4 : Int) (p0_5 : List Int) (p1 : Int) (Kk : Out → Option ρ) : runFn TT E_laws_markPuzzle (kp_laws_markPuzzle 1) fuel [.wr, .val] 2 false [[]] 14 [.tmp 4] b_laws_markPuzzle [.agg [.int .i64 p0_0, .int .i64 p0_1, .sl (.ints .i64 p0_2), .int .i64 p0_3, .int .i64 p0_4, .sl (.ints .i64 p0_5)], .x (.int .i64 p1)] Kk = F_laws_markPuzzle fuel p0_0 p0_1 p0_2 p0_3 p0_4 p0_5 p1 (fun r1 r2 r3 r4 r5 r6 r7 => Kk ⟨[.x (.int .i64 r1)], [.agg [.int .i64 r2, .int .i64 r3, .sl (.ints .i64 r4), .int .i64 r5, .int .i64 r6, .sl (.ints .i64 r7)]]⟩) := by
  rw [s_laws_markPuzzle_e, F_laws_markPuzzle]
noncomputable def sh_laws_markPuzzle (p0_0 : Int) (p0_1 : Int) (p0_2 : List Int) (p0_3 : Int) (p0_4 : Int) (p0_5 : List Int) (p1 : Int) : Option (Int × Int × Int × List Int × Int × Int × List Int) := F_laws_markPuzzle 0 p0_0 p0_1 p0_2 p0_3 p0_4 p0_5 p1 (fun r1 r2 r3 r4 r5 r6 r7 => some (r1, r2, r3, r4, r5, r6, r7))
noncomputable def G_laws_markPuzzle {ρ : Type} : List DU → (Out → Option ρ) → Option ρ
  | [.agg [.int .i64 p0_0, .int .i64 p0_1, .sl (.ints .i64 p0_2), .int .i64 p0_3, .int .i64 p0_4, .sl (.ints .i64 p0_5)], .x (.int .i64 p1)], K => (sh_laws_markPuzzle p0_0 p0_1 p0_2 p0_3 p0_4 p0_5 p1).bind fun r => K ⟨[.x (.int .i64 r.1)], [.agg [.int .i64 r.2.1, .int .i64 r.2.2.1, .sl (.ints .i64 r.2.2.2.1), .int .i64 r.2.2.2.2.1, .int .i64 r.2.2.2.2.2.1, .sl (.ints .i64 r.2.2.2.2.2.2)]]⟩
  | _, _ => none
noncomputable def o_laws_markPuzzle : Ora := ⟨[.wr, .val], 2, false, G_laws_markPuzzle⟩
def un_laws_markPuzzle : Out → Option (Int × Int × Int × List Int × Int × Int × List Int)
  | ⟨[.x (.int .i64 r1)], [.agg [.int .i64 r2, .int .i64 r3, .sl (.ints .i64 r4), .int .i64 r5, .int .i64 r6, .sl (.ints .i64 r7)]]⟩ => some (r1, r2, r3, r4, r5, r6, r7)
  | _ => none
theorem un_laws_markPuzzle_ok {o : Out} {r : Int × Int × Int × List Int × Int × Int × List Int} (h : un_laws_markPuzzle o = some r) : o = ⟨[.x (.int .i64 r.1)], [.agg [.int .i64 r.2.1, .int .i64 r.2.2.1, .sl (.ints .i64 r.2.2.2.1), .int .i64 r.2.2.2.2.1, .int .i64 r.2.2.2.2.2.1, .sl (.ints .i64 r.2.2.2.2.2.2)]]⟩ := by
  unfold un_laws_markPuzzle at h
  split at h
  · injection h with h
    subst h
    rfl
  · cases h
theorem n_laws_markPuzzle : ∀ k o, E_laws_markPuzzle.fn k = some o → Nat1 o := fun k o h => (ook_list (P := Try.prog) (l := O_laws_markPuzzle) (fk := E_laws_markPuzzle.fk) (List.forall_mem_cons.2 ⟨m_laws_markBoard, (List.forall_mem_cons.2 ⟨m_laws_markIntS, (List.forall_mem_nil _)⟩)⟩)).nat k o h
theorem u_laws_markPuzzle (fuel : Nat) (p0_0 : Int) (p0_1 : Int) (p0_2 : List Int) (p0_3 : Int) (p0_4 : Int) (p0_5 : List Int) (p1 : Int) : runFn TT E_laws_markPuzzle (kp_laws_markPuzzle 1) fuel [.wr, .val] 2 false [[]] 14 [.tmp 4] b_laws_markPuzzle [.agg [.int .i64 p0_0, .int .i64 p0_1, .sl (.ints .i64 p0_2), .int .i64 p0_3, .int .i64 p0_4, .sl (.ints .i64 p0_5)], .x (.int .i64 p1)] un_laws_markPuzzle = F_laws_markPuzzle fuel p0_0 p0_1 p0_2 p0_3 p0_4 p0_5 p1 (fun r1 r2 r3 r4 r5 r6 r7 => some (r1, r2, r3, r4, r5, r6, r7)) := f_laws_markPuzzle fuel p0_0 p0_1 p0_2 p0_3 p0_4 p0_5 p1 un_laws_markPuzzle
theorem m_laws_markPuzzle : MeetsO Try.prog 27 o_laws_markPuzzle := by
  refine ⟨fun ρ ds K => ?_, ⟨_, meets_run (kp := kp_laws_markPuzzle 1) (weak := false) (df := [[]]) tsOk (ook_list (l := O_laws_markPuzzle) (fk := E_laws_markPuzzle.fk) (List.forall_mem_cons.2 ⟨m_laws_markBoard, (List.forall_mem_cons.2 ⟨m_laws_markIntS, (List.forall_mem_nil _)⟩)⟩)) mixed Try.func27 (body := b_laws_markPuzzle) (by kernel_rfl) (ntmps := 14) (by kernel_rfl) (rs := [.tmp 4]) (by kernel_rfl), fun ds out h => ?_⟩, ⟨_, Try.func27, by kernel_rfl, by kernel_rfl⟩⟩
  · show G_laws_markPuzzle ds K = (G_laws_markPuzzle ds some).bind K
    unfold G_laws_markPuzzle
    split
    · cases sh_laws_markPuzzle _ _ _ _ _ _ _ <;> rfl
    · rfl
  · replace h : G_laws_markPuzzle ds some = some out := h
    unfold G_laws_markPuzzle at h
    split at h
    · obtain ⟨r, hr, h⟩ := Option.bind_eq_some_iff.1 h
      injection h with h
      subst h
      have hn := (u_laws_markPuzzle 0 _ _ _ _ _ _ _).trans hr
      rw [runFn_bind (K := un_laws_markPuzzle) (K' := some) (f := un_laws_markPuzzle) n_laws_markPuzzle (fun _ => rfl)] at hn
      obtain ⟨o, h1, h2⟩ := Option.bind_eq_some_iff.1 hn
      rw [un_laws_markPuzzle_ok h2] at h1
      exact ⟨0, h1⟩
    · cases h
/-! f53 loop.example.g01239.laws.heldIntS -/
noncomputable def b_laws_heldIntS : Code := Try.f53.body.getD .skip
def kp_laws_heldIntS (g : Nat) : Nat → Option Keep := lk [(2, ⟨[], [0, 1, 5], [], [], [], g⟩)]
def O_laws_heldIntS : List (FuncId × Ora) := []
def E_laws_heldIntS : Env := ⟨lk O_laws_heldIntS, fun _ => false⟩
noncomputable def D_laws_heldIntS_0 {ρ : Type} (g fuel : Nat) (p0 : List Int) (p1 : Int) (n : Nat) (v0 : List Int) (v1 : Int) (v5 : Int) (Kk : Out → Option ρ) : Option ρ :=
  iter (run TT E_laws_heldIntS (kp_laws_heldIntS g) fuel (cL (cB (cS2 (cS1 (cS2 (b_laws_heldIntS))))))) (nrmAt (kp_laws_heldIntS g) (firstRid (cL (cB (cS2 (cS1 (cS2 (b_laws_heldIntS)))))))) n (⟨[.u (.x (.ro (.ints .i64 v0))), .u (.x (.int .i64 v1)), uu, uu, uu, .u (.x (.int .i64 v5)), uu, uu, uu, uu, uu, uu, uu, uu, uu, uu, uu, uu, uu, uu, uu], [], [], []⟩) (blkK 0 (seqK (gateAt (kp_laws_heldIntS g) (200000 + firstRid (cS2 (cS2 (b_laws_heldIntS))))) (run TT E_laws_heldIntS (kp_laws_heldIntS g) fuel (cS2 (cS2 (b_laws_heldIntS)))) (nrmAt (kp_laws_heldIntS g) (200000 + firstRid (cS2 (cS2 (b_laws_heldIntS))))) (topK TT [.val, .val] false [[]] [.tmp 4] [.x (.sl (.ints .i64 p0)), .x (.int .i64 p1)] Kk)))
def S_laws_heldIntS_e {ρ : Type} (p0 : List Int) (p1 : Int)  (k0 : (List Int → Int → Int → Option ρ)) : Option ρ :=
  k0 p0 p1 (0 : Int)
theorem s_laws_heldIntS_e {ρ : Type} (g fuel : Nat) (p0 : List Int) (p1 : Int) (Kk : Out → Option ρ) : runFn TT E_laws_heldIntS (kp_laws_heldIntS g) fuel [.val, .val] 2 false [[]] 21 [.tmp 4] b_laws_heldIntS [.x (.sl (.ints .i64 p0)), .x (.int .i64 p1)] Kk = S_laws_heldIntS_e p0 p1  (fun v0 v1 v5 => D_laws_heldIntS_0 g fuel p0 p1 fuel v0 v1 v5 Kk) := by
  kernel_rfl
def S_laws_heldIntS_0 {ρ : Type}  (v0 : List Int) (v1 : Int) (v5 : Int) (b0 : (List Int → Int → Int → Option ρ)) (K : Int → Option ρ) : Option ρ :=
  (bif decide (v5 < (v0.length : Int)) then (if 0 ≤ v5 then (if v5 < (v0.length : Int) then (bif !decide ((v0.getD v5.toNat 0) = v1) then K (-1 : Int) else b0 v0 (IntKind.i64.wrap (v1 + (1 : Int))) (IntKind.i64.wrap (v5 + (1 : Int)))) else none) else none) else K v1)
theorem s_laws_heldIntS_0 {ρ : Type} (g fuel : Nat) (p0 : List Int) (p1 : Int) (n : Nat) (v0 : List Int) (v1 : Int) (v5 : Int) (Kk : Out → Option ρ) : D_laws_heldIntS_0 g fuel p0 p1  (n + 1) v0 v1 v5 Kk = S_laws_heldIntS_0  v0 v1 v5 (fun v0 v1 v5 => D_laws_heldIntS_0 g fuel p0 p1 n v0 v1 v5 Kk) (fun r1 => Kk ⟨[.x (.int .i64 r1)], []⟩) := by
  kernel_rfl
def F_laws_heldIntS_0 {ρ : Type} (fuel : Nat)   (K : Int → Option ρ) : Nat → List Int → Int → Int → Option ρ
  | 0, _, _, _ => none
  | n + 1, v0, v1, v5 => S_laws_heldIntS_0  v0 v1 v5 (F_laws_heldIntS_0 fuel   K n) K
theorem f_laws_heldIntS_0 {ρ : Type} (fuel : Nat) (p0 : List Int) (p1 : Int) (Kk : Out → Option ρ) : ∀ (n : Nat) (v0 : List Int) (v1 : Int) (v5 : Int), D_laws_heldIntS_0 1 fuel p0 p1  n v0 v1 v5 Kk = F_laws_heldIntS_0 fuel   (fun r1 => Kk ⟨[.x (.int .i64 r1)], []⟩) n v0 v1 v5 := by
  intro n
  induction n with
  | zero => intros; rfl
  | succ n ih =>
    intro v0 v1 v5
    rw [s_laws_heldIntS_0, F_laws_heldIntS_0]
    try simp only [ih]
def F_laws_heldIntS {ρ : Type} (fuel : Nat) (p0 : List Int) (p1 : Int)  (K : Int → Option ρ) : Option ρ := S_laws_heldIntS_e p0 p1  (F_laws_heldIntS_0 fuel   K fuel)
theorem f_laws_heldIntS {ρ : Type} (fuel : Nat) (p0 : List Int) (p1 : Int) (Kk : Out → Option ρ) : runFn TT E_laws_heldIntS (kp_laws_heldIntS 1) fuel [.val, .val] 2 false [[]] 21 [.tmp 4] b_laws_heldIntS [.x (.sl (.ints .i64 p0)), .x (.int .i64 p1)] Kk = F_laws_heldIntS fuel p0 p1 (fun r1 => Kk ⟨[.x (.int .i64 r1)], []⟩) := by
  rw [s_laws_heldIntS_e, F_laws_heldIntS]
  try simp only [f_laws_heldIntS_0]
noncomputable def sh_laws_heldIntS (p0 : List Int) (p1 : Int) : Option (Int) := val fun n => F_laws_heldIntS n p0 p1 (fun r1 => some r1)
noncomputable def G_laws_heldIntS {ρ : Type} : List DU → (Out → Option ρ) → Option ρ
  | [.x (.sl (.ints .i64 p0)), .x (.int .i64 p1)], K => (sh_laws_heldIntS p0 p1).bind fun r => K ⟨[.x (.int .i64 r)], []⟩
  | _, _ => none
noncomputable def o_laws_heldIntS : Ora := ⟨[.val, .val], 2, false, G_laws_heldIntS⟩
def un_laws_heldIntS : Out → Option (Int)
  | ⟨[.x (.int .i64 r1)], []⟩ => some r1
  | _ => none
theorem un_laws_heldIntS_ok {o : Out} {r : Int} (h : un_laws_heldIntS o = some r) : o = ⟨[.x (.int .i64 r)], []⟩ := by
  unfold un_laws_heldIntS at h
  split at h
  · injection h with h
    subst h
    rfl
  · cases h
theorem n_laws_heldIntS : ∀ k o, E_laws_heldIntS.fn k = some o → Nat1 o := fun k o h => (ook_list (P := Try.prog) (l := O_laws_heldIntS) (fk := E_laws_heldIntS.fk) (List.forall_mem_nil _)).nat k o h
theorem u_laws_heldIntS (fuel : Nat) (p0 : List Int) (p1 : Int) : runFn TT E_laws_heldIntS (kp_laws_heldIntS 1) fuel [.val, .val] 2 false [[]] 21 [.tmp 4] b_laws_heldIntS [.x (.sl (.ints .i64 p0)), .x (.int .i64 p1)] un_laws_heldIntS = F_laws_heldIntS fuel p0 p1 (fun r1 => some r1) := f_laws_heldIntS fuel p0 p1 un_laws_heldIntS
theorem sh_laws_heldIntS_of {n : Nat} {p0 : List Int} {p1 : Int} {r : Int} (h : F_laws_heldIntS n p0 p1 (fun r1 => some r1) = some r) : sh_laws_heldIntS p0 p1 = some r := val_of (fun n m r hm h => by rw [← u_laws_heldIntS] at h ⊢; exact runFn_mono n_laws_heldIntS hm h) h
theorem m_laws_heldIntS : MeetsO Try.prog 53 o_laws_heldIntS := by
  refine ⟨fun ρ ds K => ?_, ⟨_, meets_run (kp := kp_laws_heldIntS 1) (weak := false) (df := [[]]) tsOk (ook_list (l := O_laws_heldIntS) (fk := E_laws_heldIntS.fk) (List.forall_mem_nil _)) mixed Try.func53 (body := b_laws_heldIntS) (by kernel_rfl) (ntmps := 21) (by kernel_rfl) (rs := [.tmp 4]) (by kernel_rfl), fun ds out h => ?_⟩, ⟨_, Try.func53, by kernel_rfl, by kernel_rfl⟩⟩
  · show G_laws_heldIntS ds K = (G_laws_heldIntS ds some).bind K
    unfold G_laws_heldIntS
    split
    · cases sh_laws_heldIntS _ _ <;> rfl
    · rfl
  · replace h : G_laws_heldIntS ds some = some out := h
    unfold G_laws_heldIntS at h
    split at h
    · obtain ⟨r, hr, h⟩ := Option.bind_eq_some_iff.1 h
      injection h with h
      subst h
      obtain ⟨n, hn⟩ := val_some hr
      replace hn := (u_laws_heldIntS n _ _).trans hn
      rw [runFn_bind (K := un_laws_heldIntS) (K' := some) (f := un_laws_heldIntS) n_laws_heldIntS (fun _ => rfl)] at hn
      obtain ⟨o, h1, h2⟩ := Option.bind_eq_some_iff.1 hn
      rw [un_laws_heldIntS_ok h2] at h1
      exact ⟨n, h1⟩
    · cases h
/-! f52 loop.example.g01239.laws.heldBoard -/
noncomputable def b_laws_heldBoard : Code := Try.f52.body.getD .skip
def kp_laws_heldBoard (g : Nat) : Nat → Option Keep := lk []
def O_laws_heldBoard : List (FuncId × Ora) := [(53, o_laws_heldIntS)]
def E_laws_heldBoard : Env := ⟨lk O_laws_heldBoard, fun _ => false⟩
def S_laws_heldBoard_e {ρ : Type} (p0_0 : Int) (p0_1 : Int) (p0_2 : List Int) (p1 : Int)   (K : Int → Option ρ) : Option ρ :=
  ((sh_laws_heldIntS p0_2 p1).bind fun r1 => (bif decide (r1 < (0 : Int)) then K (-1 : Int) else K r1))
theorem s_laws_heldBoard_e {ρ : Type} (g fuel : Nat) (p0_0 : Int) (p0_1 : Int) (p0_2 : List Int) (p1 : Int) (Kk : Out → Option ρ) : runFn TT E_laws_heldBoard (kp_laws_heldBoard g) fuel [.val, .val] 2 false [[]] 12 [.tmp 4] b_laws_heldBoard [.agg [.int .i64 p0_0, .int .i64 p0_1, .sl (.ints .i64 p0_2)], .x (.int .i64 p1)] Kk = S_laws_heldBoard_e p0_0 p0_1 p0_2 p1   (fun r1 => Kk ⟨[.x (.int .i64 r1)], []⟩) := by
  kernel_rfl
def F_laws_heldBoard {ρ : Type} (fuel : Nat) (p0_0 : Int) (p0_1 : Int) (p0_2 : List Int) (p1 : Int)  (K : Int → Option ρ) : Option ρ := S_laws_heldBoard_e p0_0 p0_1 p0_2 p1   K
theorem f_laws_heldBoard {ρ : Type} (fuel : Nat) (p0_0 : Int) (p0_1 : Int) (p0_2 : List Int) (p1 : Int) (Kk : Out → Option ρ) : runFn TT E_laws_heldBoard (kp_laws_heldBoard 1) fuel [.val, .val] 2 false [[]] 12 [.tmp 4] b_laws_heldBoard [.agg [.int .i64 p0_0, .int .i64 p0_1, .sl (.ints .i64 p0_2)], .x (.int .i64 p1)] Kk = F_laws_heldBoard fuel p0_0 p0_1 p0_2 p1 (fun r1 => Kk ⟨[.x (.int .i64 r1)], []⟩) := by
  rw [s_laws_heldBoard_e, F_laws_heldBoard]
noncomputable def sh_laws_heldBoard (p0_0 : Int) (p0_1 : Int) (p0_2 : List Int) (p1 : Int) : Option (Int) := F_laws_heldBoard 0 p0_0 p0_1 p0_2 p1 (fun r1 => some r1)
noncomputable def G_laws_heldBoard {ρ : Type} : List DU → (Out → Option ρ) → Option ρ
  | [.agg [.int .i64 p0_0, .int .i64 p0_1, .sl (.ints .i64 p0_2)], .x (.int .i64 p1)], K => (sh_laws_heldBoard p0_0 p0_1 p0_2 p1).bind fun r => K ⟨[.x (.int .i64 r)], []⟩
  | _, _ => none
noncomputable def o_laws_heldBoard : Ora := ⟨[.val, .val], 2, false, G_laws_heldBoard⟩
def un_laws_heldBoard : Out → Option (Int)
  | ⟨[.x (.int .i64 r1)], []⟩ => some r1
  | _ => none
theorem un_laws_heldBoard_ok {o : Out} {r : Int} (h : un_laws_heldBoard o = some r) : o = ⟨[.x (.int .i64 r)], []⟩ := by
  unfold un_laws_heldBoard at h
  split at h
  · injection h with h
    subst h
    rfl
  · cases h
theorem n_laws_heldBoard : ∀ k o, E_laws_heldBoard.fn k = some o → Nat1 o := fun k o h => (ook_list (P := Try.prog) (l := O_laws_heldBoard) (fk := E_laws_heldBoard.fk) (List.forall_mem_cons.2 ⟨m_laws_heldIntS, (List.forall_mem_nil _)⟩)).nat k o h
theorem u_laws_heldBoard (fuel : Nat) (p0_0 : Int) (p0_1 : Int) (p0_2 : List Int) (p1 : Int) : runFn TT E_laws_heldBoard (kp_laws_heldBoard 1) fuel [.val, .val] 2 false [[]] 12 [.tmp 4] b_laws_heldBoard [.agg [.int .i64 p0_0, .int .i64 p0_1, .sl (.ints .i64 p0_2)], .x (.int .i64 p1)] un_laws_heldBoard = F_laws_heldBoard fuel p0_0 p0_1 p0_2 p1 (fun r1 => some r1) := f_laws_heldBoard fuel p0_0 p0_1 p0_2 p1 un_laws_heldBoard
theorem m_laws_heldBoard : MeetsO Try.prog 52 o_laws_heldBoard := by
  refine ⟨fun ρ ds K => ?_, ⟨_, meets_run (kp := kp_laws_heldBoard 1) (weak := false) (df := [[]]) tsOk (ook_list (l := O_laws_heldBoard) (fk := E_laws_heldBoard.fk) (List.forall_mem_cons.2 ⟨m_laws_heldIntS, (List.forall_mem_nil _)⟩)) mixed Try.func52 (body := b_laws_heldBoard) (by kernel_rfl) (ntmps := 12) (by kernel_rfl) (rs := [.tmp 4]) (by kernel_rfl), fun ds out h => ?_⟩, ⟨_, Try.func52, by kernel_rfl, by kernel_rfl⟩⟩
  · show G_laws_heldBoard ds K = (G_laws_heldBoard ds some).bind K
    unfold G_laws_heldBoard
    split
    · cases sh_laws_heldBoard _ _ _ _ <;> rfl
    · rfl
  · replace h : G_laws_heldBoard ds some = some out := h
    unfold G_laws_heldBoard at h
    split at h
    · obtain ⟨r, hr, h⟩ := Option.bind_eq_some_iff.1 h
      injection h with h
      subst h
      have hn := (u_laws_heldBoard 0 _ _ _ _).trans hr
      rw [runFn_bind (K := un_laws_heldBoard) (K' := some) (f := un_laws_heldBoard) n_laws_heldBoard (fun _ => rfl)] at hn
      obtain ⟨o, h1, h2⟩ := Option.bind_eq_some_iff.1 hn
      rw [un_laws_heldBoard_ok h2] at h1
      exact ⟨0, h1⟩
    · cases h
/-! f28 loop.example.g01239.laws.heldPuzzle -/
noncomputable def b_laws_heldPuzzle : Code := Try.f28.body.getD .skip
def kp_laws_heldPuzzle (g : Nat) : Nat → Option Keep := lk []
def O_laws_heldPuzzle : List (FuncId × Ora) := [(52, o_laws_heldBoard), (53, o_laws_heldIntS)]
def E_laws_heldPuzzle : Env := ⟨lk O_laws_heldPuzzle, fun _ => false⟩
def S_laws_heldPuzzle_e {ρ : Type} (p0_0 : Int) (p0_1 : Int) (p0_2 : List Int) (p0_3 : Int) (p0_4 : Int) (p0_5 : List Int) (p1 : Int)   (K : Int → Option ρ) : Option ρ :=
  ((sh_laws_heldBoard p0_0 p0_1 p0_2 p1).bind fun r1 => (bif decide (r1 < (0 : Int)) then K (-1 : Int) else ((sh_laws_heldIntS p0_5 r1).bind fun r2 => (bif decide (r2 < (0 : Int)) then K (-1 : Int) else K r2))))
theorem s_laws_heldPuzzle_e {ρ : Type} (g fuel : Nat) (p0_0 : Int) (p0_1 : Int) (p0_2 : List Int) (p0_3 : Int) (p0_4 : Int) (p0_5 : List Int) (p1 : Int) (Kk : Out → Option ρ) : runFn TT E_laws_heldPuzzle (kp_laws_heldPuzzle g) fuel [.val, .val] 2 false [[]] 18 [.tmp 4] b_laws_heldPuzzle [.agg [.int .i64 p0_0, .int .i64 p0_1, .sl (.ints .i64 p0_2), .int .i64 p0_3, .int .i64 p0_4, .sl (.ints .i64 p0_5)], .x (.int .i64 p1)] Kk = S_laws_heldPuzzle_e p0_0 p0_1 p0_2 p0_3 p0_4 p0_5 p1   (fun r1 => Kk ⟨[.x (.int .i64 r1)], []⟩) := by
  kernel_rfl
def F_laws_heldPuzzle {ρ : Type} (fuel : Nat) (p0_0 : Int) (p0_1 : Int) (p0_2 : List Int) (p0_3 : Int) (p0_4 : Int) (p0_5 : List Int) (p1 : Int)  (K : Int → Option ρ) : Option ρ := S_laws_heldPuzzle_e p0_0 p0_1 p0_2 p0_3 p0_4 p0_5 p1   K
theorem f_laws_heldPuzzle {ρ : Type} (fuel : Nat) (p0_0 : Int) (p0_1 : Int) (p0_2 : List Int) (p0_3 : Int) (p0_4 : Int) (p0_5 : List Int) (p1 : Int) (Kk : Out → Option ρ) : runFn TT E_laws_heldPuzzle (kp_laws_heldPuzzle 1) fuel [.val, .val] 2 false [[]] 18 [.tmp 4] b_laws_heldPuzzle [.agg [.int .i64 p0_0, .int .i64 p0_1, .sl (.ints .i64 p0_2), .int .i64 p0_3, .int .i64 p0_4, .sl (.ints .i64 p0_5)], .x (.int .i64 p1)] Kk = F_laws_heldPuzzle fuel p0_0 p0_1 p0_2 p0_3 p0_4 p0_5 p1 (fun r1 => Kk ⟨[.x (.int .i64 r1)], []⟩) := by
  rw [s_laws_heldPuzzle_e, F_laws_heldPuzzle]
noncomputable def sh_laws_heldPuzzle (p0_0 : Int) (p0_1 : Int) (p0_2 : List Int) (p0_3 : Int) (p0_4 : Int) (p0_5 : List Int) (p1 : Int) : Option (Int) := F_laws_heldPuzzle 0 p0_0 p0_1 p0_2 p0_3 p0_4 p0_5 p1 (fun r1 => some r1)
noncomputable def G_laws_heldPuzzle {ρ : Type} : List DU → (Out → Option ρ) → Option ρ
  | [.agg [.int .i64 p0_0, .int .i64 p0_1, .sl (.ints .i64 p0_2), .int .i64 p0_3, .int .i64 p0_4, .sl (.ints .i64 p0_5)], .x (.int .i64 p1)], K => (sh_laws_heldPuzzle p0_0 p0_1 p0_2 p0_3 p0_4 p0_5 p1).bind fun r => K ⟨[.x (.int .i64 r)], []⟩
  | _, _ => none
noncomputable def o_laws_heldPuzzle : Ora := ⟨[.val, .val], 2, false, G_laws_heldPuzzle⟩
def un_laws_heldPuzzle : Out → Option (Int)
  | ⟨[.x (.int .i64 r1)], []⟩ => some r1
  | _ => none
theorem un_laws_heldPuzzle_ok {o : Out} {r : Int} (h : un_laws_heldPuzzle o = some r) : o = ⟨[.x (.int .i64 r)], []⟩ := by
  unfold un_laws_heldPuzzle at h
  split at h
  · injection h with h
    subst h
    rfl
  · cases h
theorem n_laws_heldPuzzle : ∀ k o, E_laws_heldPuzzle.fn k = some o → Nat1 o := fun k o h => (ook_list (P := Try.prog) (l := O_laws_heldPuzzle) (fk := E_laws_heldPuzzle.fk) (List.forall_mem_cons.2 ⟨m_laws_heldBoard, (List.forall_mem_cons.2 ⟨m_laws_heldIntS, (List.forall_mem_nil _)⟩)⟩)).nat k o h
theorem u_laws_heldPuzzle (fuel : Nat) (p0_0 : Int) (p0_1 : Int) (p0_2 : List Int) (p0_3 : Int) (p0_4 : Int) (p0_5 : List Int) (p1 : Int) : runFn TT E_laws_heldPuzzle (kp_laws_heldPuzzle 1) fuel [.val, .val] 2 false [[]] 18 [.tmp 4] b_laws_heldPuzzle [.agg [.int .i64 p0_0, .int .i64 p0_1, .sl (.ints .i64 p0_2), .int .i64 p0_3, .int .i64 p0_4, .sl (.ints .i64 p0_5)], .x (.int .i64 p1)] un_laws_heldPuzzle = F_laws_heldPuzzle fuel p0_0 p0_1 p0_2 p0_3 p0_4 p0_5 p1 (fun r1 => some r1) := f_laws_heldPuzzle fuel p0_0 p0_1 p0_2 p0_3 p0_4 p0_5 p1 un_laws_heldPuzzle
theorem m_laws_heldPuzzle : MeetsO Try.prog 28 o_laws_heldPuzzle := by
  refine ⟨fun ρ ds K => ?_, ⟨_, meets_run (kp := kp_laws_heldPuzzle 1) (weak := false) (df := [[]]) tsOk (ook_list (l := O_laws_heldPuzzle) (fk := E_laws_heldPuzzle.fk) (List.forall_mem_cons.2 ⟨m_laws_heldBoard, (List.forall_mem_cons.2 ⟨m_laws_heldIntS, (List.forall_mem_nil _)⟩)⟩)) mixed Try.func28 (body := b_laws_heldPuzzle) (by kernel_rfl) (ntmps := 18) (by kernel_rfl) (rs := [.tmp 4]) (by kernel_rfl), fun ds out h => ?_⟩, ⟨_, Try.func28, by kernel_rfl, by kernel_rfl⟩⟩
  · show G_laws_heldPuzzle ds K = (G_laws_heldPuzzle ds some).bind K
    unfold G_laws_heldPuzzle
    split
    · cases sh_laws_heldPuzzle _ _ _ _ _ _ _ <;> rfl
    · rfl
  · replace h : G_laws_heldPuzzle ds some = some out := h
    unfold G_laws_heldPuzzle at h
    split at h
    · obtain ⟨r, hr, h⟩ := Option.bind_eq_some_iff.1 h
      injection h with h
      subst h
      have hn := (u_laws_heldPuzzle 0 _ _ _ _ _ _ _).trans hr
      rw [runFn_bind (K := un_laws_heldPuzzle) (K' := some) (f := un_laws_heldPuzzle) n_laws_heldPuzzle (fun _ => rfl)] at hn
      obtain ⟨o, h1, h2⟩ := Option.bind_eq_some_iff.1 hn
      rw [un_laws_heldPuzzle_ok h2] at h1
      exact ⟨0, h1⟩
    · cases h
/-! f10 loop.example.g01239.laws.FnExactMirrorPuzzle -/
noncomputable def b_laws_FnExactMirrorPuzzle : Code := Try.f10.body.getD .skip
def kp_laws_FnExactMirrorPuzzle (g : Nat) : Nat → Option Keep := lk []
def O_laws_FnExactMirrorPuzzle : List (FuncId × Ora) := [(18, o_laws_szPuzzle), (20, o_laws_toPuzzle), (22, o_laws_eqPuzzle), (27, o_laws_markPuzzle), (28, o_laws_heldPuzzle), (37, o_spec_MirrorPuzzle), (38, o_impl_MirrorPuzzle)]
def E_laws_FnExactMirrorPuzzle : Env := ⟨lk O_laws_FnExactMirrorPuzzle, fun _ => false⟩
def S_laws_FnExactMirrorPuzzle_e {ρ : Type} (p0_0 : Int) (p0_1 : Int) (p0_2 : List Int) (p0_3 : Int) (p0_4 : Int) (p0_5 : List Int)   (K : Bool → Option ρ) : Option ρ :=
  ((sh_laws_szPuzzle p0_0 p0_1 p0_2 p0_3 p0_4 p0_5 (1048576 : Int)).bind fun r1 => (bif decide (r1 < (0 : Int)) then K true else ((sh_laws_toPuzzle p0_0 p0_1 p0_2 p0_3 p0_4 p0_5).bind fun r2 => ((sh_spec_MirrorPuzzle r2.1 r2.2.1 r2.2.2.1 r2.2.2.2.1 r2.2.2.2.2.1 r2.2.2.2.2.2).bind fun r3 => ((sh_laws_toPuzzle p0_0 p0_1 p0_2 p0_3 p0_4 p0_5).bind fun r4 => ((sh_impl_MirrorPuzzle r4.1 r4.2.1 r4.2.2.1 r4.2.2.2.1 r4.2.2.2.2.1 r4.2.2.2.2.2).bind fun r5 => ((sh_laws_eqPuzzle r5.1 r5.2.1 r5.2.2.1 r5.2.2.2.1 r5.2.2.2.2.1 r5.2.2.2.2.2.1 r3.1 r3.2.1 r3.2.2.1 r3.2.2.2.1 r3.2.2.2.2.1 r3.2.2.2.2.2.1).bind fun r6 => (bif !r6 then K false else (bif !(r5.2.2.2.2.2.2 == r3.2.2.2.2.2.2) then K false else ((sh_laws_toPuzzle p0_0 p0_1 p0_2 p0_3 p0_4 p0_5).bind fun r7 => ((sh_laws_eqPuzzle r4.1 r4.2.1 r4.2.2.1 r4.2.2.2.1 r4.2.2.2.2.1 r4.2.2.2.2.2 r7.1 r7.2.1 r7.2.2.1 r7.2.2.2.1 r7.2.2.2.2.1 r7.2.2.2.2.2).bind fun r8 => (bif !r8 then K false else ((sh_laws_markPuzzle r4.1 r4.2.1 r4.2.2.1 r4.2.2.2.1 r4.2.2.2.2.1 r4.2.2.2.2.2 (1 : Int)).bind fun r9 => (bif decide (r9.1 < (0 : Int)) then K false else ((sh_laws_eqPuzzle r5.1 r5.2.1 r5.2.2.1 r5.2.2.2.1 r5.2.2.2.2.1 r5.2.2.2.2.2.1 r3.1 r3.2.1 r3.2.2.1 r3.2.2.2.1 r3.2.2.2.2.1 r3.2.2.2.2.2.1).bind fun r10 => (bif !r10 then K false else (bif !(r5.2.2.2.2.2.2 == r3.2.2.2.2.2.2) then K false else ((sh_laws_markPuzzle r5.1 r5.2.1 r5.2.2.1 r5.2.2.2.1 r5.2.2.2.2.1 r5.2.2.2.2.2.1 (1 : Int)).bind fun r11 => ((sh_laws_heldPuzzle r5.1 r5.2.1 r11.2.2.2.1 r5.2.2.2.1 r5.2.2.2.2.1 r11.2.2.2.2.2.2 (1 : Int)).bind fun r12 => (bif decide (r12 < (0 : Int)) then K false else (bif !decide (r12 = r11.1) then K false else ((sh_laws_toPuzzle p0_0 p0_1 p0_2 p0_3 p0_4 p0_5).bind fun r13 => ((sh_impl_MirrorPuzzle r13.1 r13.2.1 r13.2.2.1 r13.2.2.2.1 r13.2.2.2.2.1 r13.2.2.2.2.2).bind fun r14 => ((sh_laws_eqPuzzle r14.1 r14.2.1 r14.2.2.1 r14.2.2.2.1 r14.2.2.2.2.1 r14.2.2.2.2.2.1 r3.1 r3.2.1 r3.2.2.1 r3.2.2.2.1 r3.2.2.2.2.1 r3.2.2.2.2.2.1).bind fun r15 => (bif !r15 then K false else (bif !(r14.2.2.2.2.2.2 == r3.2.2.2.2.2.2) then K false else ((sh_laws_heldPuzzle r5.1 r5.2.1 r11.2.2.2.1 r5.2.2.2.1 r5.2.2.2.2.1 r11.2.2.2.2.2.2 (1 : Int)).bind fun r16 => (bif decide (r16 < (0 : Int)) then K false else (bif !decide (r16 = r11.1) then K false else K true)))))))))))))))))))))))))))))
theorem s_laws_FnExactMirrorPuzzle_e {ρ : Type} (g fuel : Nat) (p0_0 : Int) (p0_1 : Int) (p0_2 : List Int) (p0_3 : Int) (p0_4 : Int) (p0_5 : List Int) (Kk : Out → Option ρ) : runFn TT E_laws_FnExactMirrorPuzzle (kp_laws_FnExactMirrorPuzzle g) fuel [.val] 1 false [[]] 96 [.tmp 2] b_laws_FnExactMirrorPuzzle [.agg [.int .i64 p0_0, .int .i64 p0_1, .sl (.ints .i64 p0_2), .int .i64 p0_3, .int .i64 p0_4, .sl (.ints .i64 p0_5)]] Kk = S_laws_FnExactMirrorPuzzle_e p0_0 p0_1 p0_2 p0_3 p0_4 p0_5   (fun r1 => Kk ⟨[.x (.bool r1)], []⟩) := by
  kernel_rfl
def F_laws_FnExactMirrorPuzzle {ρ : Type} (fuel : Nat) (p0_0 : Int) (p0_1 : Int) (p0_2 : List Int) (p0_3 : Int) (p0_4 : Int) (p0_5 : List Int)  (K : Bool → Option ρ) : Option ρ := S_laws_FnExactMirrorPuzzle_e p0_0 p0_1 p0_2 p0_3 p0_4 p0_5   K
theorem f_laws_FnExactMirrorPuzzle {ρ : Type} (fuel : Nat) (p0_0 : Int) (p0_1 : Int) (p0_2 : List Int) (p0_3 : Int) (p0_4 : Int) (p0_5 : List Int) (Kk : Out → Option ρ) : runFn TT E_laws_FnExactMirrorPuzzle (kp_laws_FnExactMirrorPuzzle 1) fuel [.val] 1 false [[]] 96 [.tmp 2] b_laws_FnExactMirrorPuzzle [.agg [.int .i64 p0_0, .int .i64 p0_1, .sl (.ints .i64 p0_2), .int .i64 p0_3, .int .i64 p0_4, .sl (.ints .i64 p0_5)]] Kk = F_laws_FnExactMirrorPuzzle fuel p0_0 p0_1 p0_2 p0_3 p0_4 p0_5 (fun r1 => Kk ⟨[.x (.bool r1)], []⟩) := by
  rw [s_laws_FnExactMirrorPuzzle_e, F_laws_FnExactMirrorPuzzle]
noncomputable def sh_laws_FnExactMirrorPuzzle (p0_0 : Int) (p0_1 : Int) (p0_2 : List Int) (p0_3 : Int) (p0_4 : Int) (p0_5 : List Int) : Option (Bool) := F_laws_FnExactMirrorPuzzle 0 p0_0 p0_1 p0_2 p0_3 p0_4 p0_5 (fun r1 => some r1)
noncomputable def G_laws_FnExactMirrorPuzzle {ρ : Type} : List DU → (Out → Option ρ) → Option ρ
  | [.agg [.int .i64 p0_0, .int .i64 p0_1, .sl (.ints .i64 p0_2), .int .i64 p0_3, .int .i64 p0_4, .sl (.ints .i64 p0_5)]], K => (sh_laws_FnExactMirrorPuzzle p0_0 p0_1 p0_2 p0_3 p0_4 p0_5).bind fun r => K ⟨[.x (.bool r)], []⟩
  | _, _ => none
noncomputable def o_laws_FnExactMirrorPuzzle : Ora := ⟨[.val], 1, false, G_laws_FnExactMirrorPuzzle⟩
def un_laws_FnExactMirrorPuzzle : Out → Option (Bool)
  | ⟨[.x (.bool r1)], []⟩ => some r1
  | _ => none
theorem un_laws_FnExactMirrorPuzzle_ok {o : Out} {r : Bool} (h : un_laws_FnExactMirrorPuzzle o = some r) : o = ⟨[.x (.bool r)], []⟩ := by
  unfold un_laws_FnExactMirrorPuzzle at h
  split at h
  · injection h with h
    subst h
    rfl
  · cases h
theorem n_laws_FnExactMirrorPuzzle : ∀ k o, E_laws_FnExactMirrorPuzzle.fn k = some o → Nat1 o := fun k o h => (ook_list (P := Try.prog) (l := O_laws_FnExactMirrorPuzzle) (fk := E_laws_FnExactMirrorPuzzle.fk) (List.forall_mem_cons.2 ⟨m_laws_szPuzzle, (List.forall_mem_cons.2 ⟨m_laws_toPuzzle, (List.forall_mem_cons.2 ⟨m_laws_eqPuzzle, (List.forall_mem_cons.2 ⟨m_laws_markPuzzle, (List.forall_mem_cons.2 ⟨m_laws_heldPuzzle, (List.forall_mem_cons.2 ⟨m_spec_MirrorPuzzle, (List.forall_mem_cons.2 ⟨m_impl_MirrorPuzzle, (List.forall_mem_nil _)⟩)⟩)⟩)⟩)⟩)⟩)⟩)).nat k o h
theorem u_laws_FnExactMirrorPuzzle (fuel : Nat) (p0_0 : Int) (p0_1 : Int) (p0_2 : List Int) (p0_3 : Int) (p0_4 : Int) (p0_5 : List Int) : runFn TT E_laws_FnExactMirrorPuzzle (kp_laws_FnExactMirrorPuzzle 1) fuel [.val] 1 false [[]] 96 [.tmp 2] b_laws_FnExactMirrorPuzzle [.agg [.int .i64 p0_0, .int .i64 p0_1, .sl (.ints .i64 p0_2), .int .i64 p0_3, .int .i64 p0_4, .sl (.ints .i64 p0_5)]] un_laws_FnExactMirrorPuzzle = F_laws_FnExactMirrorPuzzle fuel p0_0 p0_1 p0_2 p0_3 p0_4 p0_5 (fun r1 => some r1) := f_laws_FnExactMirrorPuzzle fuel p0_0 p0_1 p0_2 p0_3 p0_4 p0_5 un_laws_FnExactMirrorPuzzle
theorem m_laws_FnExactMirrorPuzzle : MeetsO Try.prog 10 o_laws_FnExactMirrorPuzzle := by
  refine ⟨fun ρ ds K => ?_, ⟨_, meets_run (kp := kp_laws_FnExactMirrorPuzzle 1) (weak := false) (df := [[]]) tsOk (ook_list (l := O_laws_FnExactMirrorPuzzle) (fk := E_laws_FnExactMirrorPuzzle.fk) (List.forall_mem_cons.2 ⟨m_laws_szPuzzle, (List.forall_mem_cons.2 ⟨m_laws_toPuzzle, (List.forall_mem_cons.2 ⟨m_laws_eqPuzzle, (List.forall_mem_cons.2 ⟨m_laws_markPuzzle, (List.forall_mem_cons.2 ⟨m_laws_heldPuzzle, (List.forall_mem_cons.2 ⟨m_spec_MirrorPuzzle, (List.forall_mem_cons.2 ⟨m_impl_MirrorPuzzle, (List.forall_mem_nil _)⟩)⟩)⟩)⟩)⟩)⟩)⟩)) mixed Try.func10 (body := b_laws_FnExactMirrorPuzzle) (by kernel_rfl) (ntmps := 96) (by kernel_rfl) (rs := [.tmp 2]) (by kernel_rfl), fun ds out h => ?_⟩, ⟨_, Try.func10, by kernel_rfl, by kernel_rfl⟩⟩
  · show G_laws_FnExactMirrorPuzzle ds K = (G_laws_FnExactMirrorPuzzle ds some).bind K
    unfold G_laws_FnExactMirrorPuzzle
    split
    · cases sh_laws_FnExactMirrorPuzzle _ _ _ _ _ _ <;> rfl
    · rfl
  · replace h : G_laws_FnExactMirrorPuzzle ds some = some out := h
    unfold G_laws_FnExactMirrorPuzzle at h
    split at h
    · obtain ⟨r, hr, h⟩ := Option.bind_eq_some_iff.1 h
      injection h with h
      subst h
      have hn := (u_laws_FnExactMirrorPuzzle 0 _ _ _ _ _ _).trans hr
      rw [runFn_bind (K := un_laws_FnExactMirrorPuzzle) (K' := some) (f := un_laws_FnExactMirrorPuzzle) n_laws_FnExactMirrorPuzzle (fun _ => rfl)] at hn
      obtain ⟨o, h1, h2⟩ := Option.bind_eq_some_iff.1 hn
      rw [un_laws_FnExactMirrorPuzzle_ok h2] at h1
      exact ⟨0, h1⟩
    · cases h
end
end Go.Proofs.Ytafdeomdhkmjmaa

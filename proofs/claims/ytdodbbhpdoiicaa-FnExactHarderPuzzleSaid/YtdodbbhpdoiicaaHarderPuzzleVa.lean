/-
  The walks: what each function of the law answers is what the plain function beside it answers.
-/
import Derived.Test.YtdodbbhpdoiicaaC4
import Derived.KernelRfl
import Derived.Test.YtdodbbhpdoiicaaShelf
set_option linter.unusedVariables false
set_option linter.unusedSimpArgs false
namespace Go.Proofs.Ytdodbbhpdoiicaa
open Go.BV
noncomputable section
theorem tok3 : TOk Try.prog 3 ⟨.int .i64, 1, [.int .i64 0]⟩ := tok_mk (z := .int .i64 0) (by kernel_rfl) (by kernel_rfl) (fun _ _ => ⟨rfl, trivial⟩) (show Try.prog.underlying 3 = some (.int .i64) by kernel_rfl)
theorem tok4 : TOk Try.prog 4 ⟨.bool, 1, [.bool false]⟩ := tok_mk (z := .bool false) (by kernel_rfl) (by kernel_rfl) (fun _ _ => ⟨rfl, trivial⟩) (show Try.prog.underlying 4 = some (.bool) by kernel_rfl)
theorem tok22 : TOk Try.prog 22 ⟨.slice (.ints .i64 []), 1, [.nil (.ints .i64 [])]⟩ := tok_mk (z := .slice none 0 0) (by kernel_rfl) (by kernel_rfl) (fun _ _ => ⟨⟨rfl, rfl⟩, trivial⟩) (desc_slice (e := 3) (c := .ints .i64 []) (d := .int .i64) (ze := .int .i64 0) (b := 8) (by kernel_rfl) (show Try.prog.underlying 3 = some (.int .i64) by kernel_rfl) (by kernel_rfl) rfl (by kernel_rfl) (by kernel_rfl) (by decide) (by kernel_rfl) rfl (.inl rfl) zero_ints)
theorem tok24 : TOk Try.prog 24 ⟨.struct [(0, 1, false), (1, 1, false), (2, 1, false)], 3, [.int .i64 0, .int .i64 0, .nil (.ints .i64 [])]⟩ := tok_mk (z := .agg #[.int .i64 0, .int .i64 0, .slice none 0 0]) (by kernel_rfl) (by kernel_rfl) (fun _ _ => ⟨rfl, rfl, ⟨rfl, rfl⟩, trivial⟩) (desc_struct Try.underlying24 ⟨rfl, by kernel_rfl, rfl, ⟨_, Try.underlying3, rfl⟩, ⟨rfl, by kernel_rfl, rfl, ⟨_, Try.underlying3, rfl⟩, ⟨rfl, by kernel_rfl, rfl, ⟨_, Try.underlying22, rfl⟩, trivial⟩⟩⟩)
theorem tok26 : TOk Try.prog 26 ⟨.struct [(0, 1, false), (1, 1, false)], 2, [.int .i64 0, .int .i64 0]⟩ := tok_mk (z := .agg #[.int .i64 0, .int .i64 0]) (by kernel_rfl) (by kernel_rfl) (fun _ _ => ⟨rfl, rfl, trivial⟩) (desc_struct Try.underlying26 ⟨rfl, by kernel_rfl, rfl, ⟨_, Try.underlying3, rfl⟩, ⟨rfl, by kernel_rfl, rfl, ⟨_, Try.underlying3, rfl⟩, trivial⟩⟩)
theorem tok28 : TOk Try.prog 28 ⟨.struct [(0, 3, true), (3, 2, true), (5, 1, false)], 6, [.int .i64 0, .int .i64 0, .nil (.ints .i64 []), .int .i64 0, .int .i64 0, .nil (.ints .i64 [])]⟩ := tok_mk (z := .agg #[.int .i64 0, .int .i64 0, .slice none 0 0, .int .i64 0, .int .i64 0, .slice none 0 0]) (by kernel_rfl) (by kernel_rfl) (fun _ _ => ⟨rfl, rfl, ⟨rfl, rfl⟩, rfl, rfl, ⟨rfl, rfl⟩, trivial⟩) (desc_struct Try.underlying28 ⟨rfl, by kernel_rfl, rfl, ⟨_, Try.underlying24, rfl⟩, ⟨rfl, by kernel_rfl, rfl, ⟨_, Try.underlying26, rfl⟩, ⟨rfl, by kernel_rfl, rfl, ⟨_, Try.underlying22, rfl⟩, trivial⟩⟩⟩)
theorem tok32 : TOk Try.prog 32 ⟨.struct [(0, 1, false), (1, 1, false), (2, 1, false)], 3, [.int .i64 0, .int .i64 0, .nil (.ints .i64 [])]⟩ := tok_mk (z := .agg #[.int .i64 0, .int .i64 0, .slice none 0 0]) (by kernel_rfl) (by kernel_rfl) (fun _ _ => ⟨rfl, rfl, ⟨rfl, rfl⟩, trivial⟩) (desc_struct Try.underlying32 ⟨rfl, by kernel_rfl, rfl, ⟨_, Try.underlying3, rfl⟩, ⟨rfl, by kernel_rfl, rfl, ⟨_, Try.underlying3, rfl⟩, ⟨rfl, by kernel_rfl, rfl, ⟨_, Try.underlying22, rfl⟩, trivial⟩⟩⟩)
theorem tok33 : TOk Try.prog 33 ⟨.struct [(0, 1, false), (1, 1, false)], 2, [.int .i64 0, .int .i64 0]⟩ := tok_mk (z := .agg #[.int .i64 0, .int .i64 0]) (by kernel_rfl) (by kernel_rfl) (fun _ _ => ⟨rfl, rfl, trivial⟩) (desc_struct Try.underlying33 ⟨rfl, by kernel_rfl, rfl, ⟨_, Try.underlying3, rfl⟩, ⟨rfl, by kernel_rfl, rfl, ⟨_, Try.underlying3, rfl⟩, trivial⟩⟩)
theorem tok35 : TOk Try.prog 35 ⟨.struct [(0, 3, true), (3, 2, true), (5, 1, false)], 6, [.int .i64 0, .int .i64 0, .nil (.ints .i64 []), .int .i64 0, .int .i64 0, .nil (.ints .i64 [])]⟩ := tok_mk (z := .agg #[.int .i64 0, .int .i64 0, .slice none 0 0, .int .i64 0, .int .i64 0, .slice none 0 0]) (by kernel_rfl) (by kernel_rfl) (fun _ _ => ⟨rfl, rfl, ⟨rfl, rfl⟩, rfl, rfl, ⟨rfl, rfl⟩, trivial⟩) (desc_struct Try.underlying35 ⟨rfl, by kernel_rfl, rfl, ⟨_, Try.underlying32, rfl⟩, ⟨rfl, by kernel_rfl, rfl, ⟨_, Try.underlying33, rfl⟩, ⟨rfl, by kernel_rfl, rfl, ⟨_, Try.underlying22, rfl⟩, trivial⟩⟩⟩)
theorem tok44 : TOk Try.prog 44 ⟨.slice (.orows []), 1, [.nil (.orows [])]⟩ := tok_mk (z := .slice none 0 0) (by kernel_rfl) (by kernel_rfl) (fun _ _ => ⟨⟨rfl, rfl⟩, trivial⟩) (desc_slice (e := 22) (c := .orows []) (d := .slice 3) (ze := .slice none 0 0) (b := 24) (by kernel_rfl) trivial (by kernel_rfl) rfl (by kernel_rfl) (by kernel_rfl) (by decide) (by kernel_rfl) rfl (.inr rfl) zero_orows)
theorem tok73 : TOk Try.prog 73 ⟨.one, 1, [.nilp]⟩ := tok_mk (z := .pointer none) (by kernel_rfl) (by kernel_rfl) (fun _ _ => ⟨rfl, trivial⟩) ⟨_, Try.underlying73, rfl⟩
theorem tok78 : TOk Try.prog 78 ⟨.struct [(0, 3, true), (3, 2, true), (5, 1, false), (6, 1, false)], 7, [.int .i64 0, .int .i64 0, .nil (.ints .i64 []), .int .i64 0, .int .i64 0, .nil (.ints .i64 []), .nil (.orows [])]⟩ := tok_mk (z := .agg #[.int .i64 0, .int .i64 0, .slice none 0 0, .int .i64 0, .int .i64 0, .slice none 0 0, .slice none 0 0]) (by kernel_rfl) (by kernel_rfl) (fun _ _ => ⟨rfl, rfl, ⟨rfl, rfl⟩, rfl, rfl, ⟨rfl, rfl⟩, ⟨rfl, rfl⟩, trivial⟩) (desc_struct Try.underlying78 ⟨rfl, by kernel_rfl, rfl, ⟨_, Try.underlying32, rfl⟩, ⟨rfl, by kernel_rfl, rfl, ⟨_, Try.underlying33, rfl⟩, ⟨rfl, by kernel_rfl, rfl, ⟨_, Try.underlying22, rfl⟩, ⟨rfl, by kernel_rfl, rfl, ⟨_, Try.underlying44, rfl⟩, trivial⟩⟩⟩⟩)
theorem tok87 : TOk Try.prog 87 ⟨.slice (.bools []), 1, [.nil (.bools [])]⟩ := tok_mk (z := .slice none 0 0) (by kernel_rfl) (by kernel_rfl) (fun _ _ => ⟨⟨rfl, rfl⟩, trivial⟩) (desc_slice (e := 4) (c := .bools []) (d := .bool) (ze := .bool false) (b := 1) (by kernel_rfl) trivial (by kernel_rfl) rfl (by kernel_rfl) (by kernel_rfl) (by decide) (by kernel_rfl) rfl (.inl rfl) zero_bools)
theorem tok93 : TOk Try.prog 93 ⟨.one, 1, [.undef]⟩ := tok_mk (z := .nilFunc) (by kernel_rfl) (by kernel_rfl) (fun _ _ => ⟨trivial, trivial⟩) ⟨_, Try.underlying93, rfl⟩
def TTl : List (TypeId × TI) := [(3, ⟨.int .i64, 1, [.int .i64 0]⟩), (4, ⟨.bool, 1, [.bool false]⟩), (22, ⟨.slice (.ints .i64 []), 1, [.nil (.ints .i64 [])]⟩), (24, ⟨.struct [(0, 1, false), (1, 1, false), (2, 1, false)], 3, [.int .i64 0, .int .i64 0, .nil (.ints .i64 [])]⟩), (26, ⟨.struct [(0, 1, false), (1, 1, false)], 2, [.int .i64 0, .int .i64 0]⟩), (28, ⟨.struct [(0, 3, true), (3, 2, true), (5, 1, false)], 6, [.int .i64 0, .int .i64 0, .nil (.ints .i64 []), .int .i64 0, .int .i64 0, .nil (.ints .i64 [])]⟩), (32, ⟨.struct [(0, 1, false), (1, 1, false), (2, 1, false)], 3, [.int .i64 0, .int .i64 0, .nil (.ints .i64 [])]⟩), (33, ⟨.struct [(0, 1, false), (1, 1, false)], 2, [.int .i64 0, .int .i64 0]⟩), (35, ⟨.struct [(0, 3, true), (3, 2, true), (5, 1, false)], 6, [.int .i64 0, .int .i64 0, .nil (.ints .i64 []), .int .i64 0, .int .i64 0, .nil (.ints .i64 [])]⟩), (44, ⟨.slice (.orows []), 1, [.nil (.orows [])]⟩), (73, ⟨.one, 1, [.nilp]⟩), (78, ⟨.struct [(0, 3, true), (3, 2, true), (5, 1, false), (6, 1, false)], 7, [.int .i64 0, .int .i64 0, .nil (.ints .i64 []), .int .i64 0, .int .i64 0, .nil (.ints .i64 []), .nil (.orows [])]⟩), (87, ⟨.slice (.bools []), 1, [.nil (.bools [])]⟩), (93, ⟨.one, 1, [.undef]⟩)]
def TT : TypeId → TI := tlk TTl
theorem tsOk : TsOk Try.prog TT := tsok_list (l := TTl) (List.forall_mem_cons.2 ⟨⟨by simp, tok3⟩, (List.forall_mem_cons.2 ⟨⟨by simp, tok4⟩, (List.forall_mem_cons.2 ⟨⟨by simp, tok22⟩, (List.forall_mem_cons.2 ⟨⟨by simp, tok24⟩, (List.forall_mem_cons.2 ⟨⟨by simp, tok26⟩, (List.forall_mem_cons.2 ⟨⟨by simp, tok28⟩, (List.forall_mem_cons.2 ⟨⟨by simp, tok32⟩, (List.forall_mem_cons.2 ⟨⟨by simp, tok33⟩, (List.forall_mem_cons.2 ⟨⟨by simp, tok35⟩, (List.forall_mem_cons.2 ⟨⟨by simp, tok44⟩, (List.forall_mem_cons.2 ⟨⟨by simp, tok73⟩, (List.forall_mem_cons.2 ⟨⟨by simp, tok78⟩, (List.forall_mem_cons.2 ⟨⟨by simp, tok87⟩, (List.forall_mem_cons.2 ⟨⟨by simp, tok93⟩, (List.forall_mem_nil _)⟩)⟩)⟩)⟩)⟩)⟩)⟩)⟩)⟩)⟩)⟩)⟩)⟩)⟩)
theorem mixed : Try.prog.follows .mixedOrders = true := by kernel_rfl
/-! f45 loop.example.g01239.laws.szIntS -/
noncomputable def b_laws_szIntS : Code := Try.f45.body.getD .skip
def kp_laws_szIntS (g : Nat) : Nat → Option Keep := lk []
def O_laws_szIntS : List (FuncId × Ora) := []
def E_laws_szIntS : Env := ⟨lk O_laws_szIntS, fun _ => false⟩
def S_laws_szIntS_e {ρ : Type} (p0 : List Int) (p1 : Int)   (K : Int → Option ρ) : Option ρ :=
  (bif decide ((IntKind.i64.wrap (p1 - (p0.length : Int))) < (0 : Int)) then K (-1 : Int) else K (IntKind.i64.wrap (p1 - (p0.length : Int))))
theorem s_laws_szIntS_e {ρ : Type} (g fuel : Nat) (p0 : List Int) (p1 : Int) (Kk : Out → Option ρ) : runFn TT E_laws_szIntS (kp_laws_szIntS g) fuel [.val, .val] 2 false [[]] 12 [.tmp 4] b_laws_szIntS [.x (.sl (.ints .i64 p0)), .x (.int .i64 p1)] Kk = S_laws_szIntS_e p0 p1   (fun r1 => Kk ⟨[.x (.int .i64 r1)], []⟩) := by
  kernel_rfl
def F_laws_szIntS {ρ : Type} (fuel : Nat) (p0 : List Int) (p1 : Int)  (K : Int → Option ρ) : Option ρ := S_laws_szIntS_e p0 p1   K
theorem f_laws_szIntS {ρ : Type} (fuel : Nat) (p0 : List Int) (p1 : Int) (Kk : Out → Option ρ) : runFn TT E_laws_szIntS (kp_laws_szIntS 1) fuel [.val, .val] 2 false [[]] 12 [.tmp 4] b_laws_szIntS [.x (.sl (.ints .i64 p0)), .x (.int .i64 p1)] Kk = F_laws_szIntS fuel p0 p1 (fun r1 => Kk ⟨[.x (.int .i64 r1)], []⟩) := by
  rw [s_laws_szIntS_e, F_laws_szIntS]
noncomputable def sh_laws_szIntS (p0 : List Int) (p1 : Int) : Option (Int) := F_laws_szIntS 0 p0 p1 (fun r1 => some r1)
noncomputable def G_laws_szIntS {ρ : Type} : List DU → (Out → Option ρ) → Option ρ
  | [.x (.sl (.ints .i64 p0)), .x (.int .i64 p1)], K => (sh_laws_szIntS p0 p1).bind fun r => K ⟨[.x (.int .i64 r)], []⟩
  | _, _ => none
noncomputable def o_laws_szIntS : Ora := ⟨[.val, .val], 2, false, G_laws_szIntS⟩
def un_laws_szIntS : Out → Option (Int)
  | ⟨[.x (.int .i64 r1)], []⟩ => some r1
  | _ => none
theorem un_laws_szIntS_ok {o : Out} {r : Int} (h : un_laws_szIntS o = some r) : o = ⟨[.x (.int .i64 r)], []⟩ := by
  unfold un_laws_szIntS at h
  split at h
  · injection h with h
    subst h
    rfl
  · cases h
theorem n_laws_szIntS : ∀ k o, E_laws_szIntS.fn k = some o → Nat1 o := fun k o h => (ook_list (P := Try.prog) (l := O_laws_szIntS) (fk := E_laws_szIntS.fk) (List.forall_mem_nil _)).nat k o h
theorem u_laws_szIntS (fuel : Nat) (p0 : List Int) (p1 : Int) : runFn TT E_laws_szIntS (kp_laws_szIntS 1) fuel [.val, .val] 2 false [[]] 12 [.tmp 4] b_laws_szIntS [.x (.sl (.ints .i64 p0)), .x (.int .i64 p1)] un_laws_szIntS = F_laws_szIntS fuel p0 p1 (fun r1 => some r1) := f_laws_szIntS fuel p0 p1 un_laws_szIntS
theorem m_laws_szIntS : MeetsO Try.prog 45 o_laws_szIntS := by
  refine ⟨fun ρ ds K => ?_, ⟨_, meets_run (kp := kp_laws_szIntS 1) (weak := false) (df := [[]]) tsOk (ook_list (l := O_laws_szIntS) (fk := E_laws_szIntS.fk) (List.forall_mem_nil _)) mixed Try.func45 (body := b_laws_szIntS) (by kernel_rfl) (ntmps := 12) (by kernel_rfl) (rs := [.tmp 4]) (by kernel_rfl), fun ds out h => ?_⟩, ⟨_, Try.func45, by kernel_rfl, by kernel_rfl⟩⟩
  · show G_laws_szIntS ds K = (G_laws_szIntS ds some).bind K
    unfold G_laws_szIntS
    split
    · cases sh_laws_szIntS _ _ <;> rfl
    · rfl
  · replace h : G_laws_szIntS ds some = some out := h
    unfold G_laws_szIntS at h
    split at h
    · obtain ⟨r, hr, h⟩ := Option.bind_eq_some_iff.1 h
      injection h with h
      subst h
      have hn := (u_laws_szIntS 0 _ _).trans hr
      rw [runFn_bind (K := un_laws_szIntS) (K' := some) (f := un_laws_szIntS) n_laws_szIntS (fun _ => rfl)] at hn
      obtain ⟨o, h1, h2⟩ := Option.bind_eq_some_iff.1 hn
      rw [un_laws_szIntS_ok h2] at h1
      exact ⟨0, h1⟩
    · cases h
/-! f44 loop.example.g01239.laws.szBoard -/
noncomputable def b_laws_szBoard : Code := Try.f44.body.getD .skip
def kp_laws_szBoard (g : Nat) : Nat → Option Keep := lk []
def O_laws_szBoard : List (FuncId × Ora) := [(45, o_laws_szIntS)]
def E_laws_szBoard : Env := ⟨lk O_laws_szBoard, fun _ => false⟩
def S_laws_szBoard_e {ρ : Type} (p0_0 : Int) (p0_1 : Int) (p0_2 : List Int) (p1 : Int)   (K : Int → Option ρ) : Option ρ :=
  ((sh_laws_szIntS p0_2 p1).bind fun r1 => (bif decide (r1 < (0 : Int)) then K (-1 : Int) else K r1))
theorem s_laws_szBoard_e {ρ : Type} (g fuel : Nat) (p0_0 : Int) (p0_1 : Int) (p0_2 : List Int) (p1 : Int) (Kk : Out → Option ρ) : runFn TT E_laws_szBoard (kp_laws_szBoard g) fuel [.val, .val] 2 false [[]] 12 [.tmp 4] b_laws_szBoard [.agg [.int .i64 p0_0, .int .i64 p0_1, .sl (.ints .i64 p0_2)], .x (.int .i64 p1)] Kk = S_laws_szBoard_e p0_0 p0_1 p0_2 p1   (fun r1 => Kk ⟨[.x (.int .i64 r1)], []⟩) := by
  kernel_rfl
def F_laws_szBoard {ρ : Type} (fuel : Nat) (p0_0 : Int) (p0_1 : Int) (p0_2 : List Int) (p1 : Int)  (K : Int → Option ρ) : Option ρ := S_laws_szBoard_e p0_0 p0_1 p0_2 p1   K
theorem f_laws_szBoard {ρ : Type} (fuel : Nat) (p0_0 : Int) (p0_1 : Int) (p0_2 : List Int) (p1 : Int) (Kk : Out → Option ρ) : runFn TT E_laws_szBoard (kp_laws_szBoard 1) fuel [.val, .val] 2 false [[]] 12 [.tmp 4] b_laws_szBoard [.agg [.int .i64 p0_0, .int .i64 p0_1, .sl (.ints .i64 p0_2)], .x (.int .i64 p1)] Kk = F_laws_szBoard fuel p0_0 p0_1 p0_2 p1 (fun r1 => Kk ⟨[.x (.int .i64 r1)], []⟩) := by
  rw [s_laws_szBoard_e, F_laws_szBoard]
noncomputable def sh_laws_szBoard (p0_0 : Int) (p0_1 : Int) (p0_2 : List Int) (p1 : Int) : Option (Int) := F_laws_szBoard 0 p0_0 p0_1 p0_2 p1 (fun r1 => some r1)
noncomputable def G_laws_szBoard {ρ : Type} : List DU → (Out → Option ρ) → Option ρ
  | [.agg [.int .i64 p0_0, .int .i64 p0_1, .sl (.ints .i64 p0_2)], .x (.int .i64 p1)], K => (sh_laws_szBoard p0_0 p0_1 p0_2 p1).bind fun r => K ⟨[.x (.int .i64 r)], []⟩
  | _, _ => none
noncomputable def o_laws_szBoard : Ora := ⟨[.val, .val], 2, false, G_laws_szBoard⟩
def un_laws_szBoard : Out → Option (Int)
  | ⟨[.x (.int .i64 r1)], []⟩ => some r1
  | _ => none
theorem un_laws_szBoard_ok {o : Out} {r : Int} (h : un_laws_szBoard o = some r) : o = ⟨[.x (.int .i64 r)], []⟩ := by
  unfold un_laws_szBoard at h
  split at h
  · injection h with h
    subst h
    rfl
  · cases h
theorem n_laws_szBoard : ∀ k o, E_laws_szBoard.fn k = some o → Nat1 o := fun k o h => (ook_list (P := Try.prog) (l := O_laws_szBoard) (fk := E_laws_szBoard.fk) (List.forall_mem_cons.2 ⟨m_laws_szIntS, (List.forall_mem_nil _)⟩)).nat k o h
theorem u_laws_szBoard (fuel : Nat) (p0_0 : Int) (p0_1 : Int) (p0_2 : List Int) (p1 : Int) : runFn TT E_laws_szBoard (kp_laws_szBoard 1) fuel [.val, .val] 2 false [[]] 12 [.tmp 4] b_laws_szBoard [.agg [.int .i64 p0_0, .int .i64 p0_1, .sl (.ints .i64 p0_2)], .x (.int .i64 p1)] un_laws_szBoard = F_laws_szBoard fuel p0_0 p0_1 p0_2 p1 (fun r1 => some r1) := f_laws_szBoard fuel p0_0 p0_1 p0_2 p1 un_laws_szBoard
theorem m_laws_szBoard : MeetsO Try.prog 44 o_laws_szBoard := by
  refine ⟨fun ρ ds K => ?_, ⟨_, meets_run (kp := kp_laws_szBoard 1) (weak := false) (df := [[]]) tsOk (ook_list (l := O_laws_szBoard) (fk := E_laws_szBoard.fk) (List.forall_mem_cons.2 ⟨m_laws_szIntS, (List.forall_mem_nil _)⟩)) mixed Try.func44 (body := b_laws_szBoard) (by kernel_rfl) (ntmps := 12) (by kernel_rfl) (rs := [.tmp 4]) (by kernel_rfl), fun ds out h => ?_⟩, ⟨_, Try.func44, by kernel_rfl, by kernel_rfl⟩⟩
  · show G_laws_szBoard ds K = (G_laws_szBoard ds some).bind K
    unfold G_laws_szBoard
    split
    · cases sh_laws_szBoard _ _ _ _ <;> rfl
    · rfl
  · replace h : G_laws_szBoard ds some = some out := h
    unfold G_laws_szBoard at h
    split at h
    · obtain ⟨r, hr, h⟩ := Option.bind_eq_some_iff.1 h
      injection h with h
      subst h
      have hn := (u_laws_szBoard 0 _ _ _ _).trans hr
      rw [runFn_bind (K := un_laws_szBoard) (K' := some) (f := un_laws_szBoard) n_laws_szBoard (fun _ => rfl)] at hn
      obtain ⟨o, h1, h2⟩ := Option.bind_eq_some_iff.1 hn
      rw [un_laws_szBoard_ok h2] at h1
      exact ⟨0, h1⟩
    · cases h
/-! f10 loop.example.g01239.laws.szPuzzle -/
noncomputable def b_laws_szPuzzle : Code := Try.f10.body.getD .skip
def kp_laws_szPuzzle (g : Nat) : Nat → Option Keep := lk []
def O_laws_szPuzzle : List (FuncId × Ora) := [(44, o_laws_szBoard), (45, o_laws_szIntS)]
def E_laws_szPuzzle : Env := ⟨lk O_laws_szPuzzle, fun _ => false⟩
def S_laws_szPuzzle_e {ρ : Type} (p0_0 : Int) (p0_1 : Int) (p0_2 : List Int) (p0_3 : Int) (p0_4 : Int) (p0_5 : List Int) (p1 : Int)   (K : Int → Option ρ) : Option ρ :=
  ((sh_laws_szBoard p0_0 p0_1 p0_2 p1).bind fun r1 => (bif decide (r1 < (0 : Int)) then K (-1 : Int) else ((sh_laws_szIntS p0_5 r1).bind fun r2 => (bif decide (r2 < (0 : Int)) then K (-1 : Int) else K r2))))
theorem s_laws_szPuzzle_e {ρ : Type} (g fuel : Nat) (p0_0 : Int) (p0_1 : Int) (p0_2 : List Int) (p0_3 : Int) (p0_4 : Int) (p0_5 : List Int) (p1 : Int) (Kk : Out → Option ρ) : runFn TT E_laws_szPuzzle (kp_laws_szPuzzle g) fuel [.val, .val] 2 false [[]] 18 [.tmp 4] b_laws_szPuzzle [.agg [.int .i64 p0_0, .int .i64 p0_1, .sl (.ints .i64 p0_2), .int .i64 p0_3, .int .i64 p0_4, .sl (.ints .i64 p0_5)], .x (.int .i64 p1)] Kk = S_laws_szPuzzle_e p0_0 p0_1 p0_2 p0_3 p0_4 p0_5 p1   (fun r1 => Kk ⟨[.x (.int .i64 r1)], []⟩) := by
  kernel_rfl
def F_laws_szPuzzle {ρ : Type} (fuel : Nat) (p0_0 : Int) (p0_1 : Int) (p0_2 : List Int) (p0_3 : Int) (p0_4 : Int) (p0_5 : List Int) (p1 : Int)  (K : Int → Option ρ) : Option ρ := S_laws_szPuzzle_e p0_0 p0_1 p0_2 p0_3 p0_4 p0_5 p1   K
theorem f_laws_szPuzzle {ρ : Type} (fuel : Nat) (p0_0 : Int) (p0_1 : Int) (p0_2 : List Int) (p0_3 : Int) (p0_4 : Int) (p0_5 : List Int) (p1 : Int) (Kk : Out → Option ρ) : runFn TT E_laws_szPuzzle (kp_laws_szPuzzle 1) fuel [.val, .val] 2 false [[]] 18 [.tmp 4] b_laws_szPuzzle [.agg [.int .i64 p0_0, .int .i64 p0_1, .sl (.ints .i64 p0_2), .int .i64 p0_3, .int .i64 p0_4, .sl (.ints .i64 p0_5)], .x (.int .i64 p1)] Kk = F_laws_szPuzzle fuel p0_0 p0_1 p0_2 p0_3 p0_4 p0_5 p1 (fun r1 => Kk ⟨[.x (.int .i64 r1)], []⟩) := by
  rw [s_laws_szPuzzle_e, F_laws_szPuzzle]
noncomputable def sh_laws_szPuzzle (p0_0 : Int) (p0_1 : Int) (p0_2 : List Int) (p0_3 : Int) (p0_4 : Int) (p0_5 : List Int) (p1 : Int) : Option (Int) := F_laws_szPuzzle 0 p0_0 p0_1 p0_2 p0_3 p0_4 p0_5 p1 (fun r1 => some r1)
noncomputable def G_laws_szPuzzle {ρ : Type} : List DU → (Out → Option ρ) → Option ρ
  | [.agg [.int .i64 p0_0, .int .i64 p0_1, .sl (.ints .i64 p0_2), .int .i64 p0_3, .int .i64 p0_4, .sl (.ints .i64 p0_5)], .x (.int .i64 p1)], K => (sh_laws_szPuzzle p0_0 p0_1 p0_2 p0_3 p0_4 p0_5 p1).bind fun r => K ⟨[.x (.int .i64 r)], []⟩
  | _, _ => none
noncomputable def o_laws_szPuzzle : Ora := ⟨[.val, .val], 2, false, G_laws_szPuzzle⟩
def un_laws_szPuzzle : Out → Option (Int)
  | ⟨[.x (.int .i64 r1)], []⟩ => some r1
  | _ => none
theorem un_laws_szPuzzle_ok {o : Out} {r : Int} (h : un_laws_szPuzzle o = some r) : o = ⟨[.x (.int .i64 r)], []⟩ := by
  unfold un_laws_szPuzzle at h
  split at h
  · injection h with h
    subst h
    rfl
  · cases h
theorem n_laws_szPuzzle : ∀ k o, E_laws_szPuzzle.fn k = some o → Nat1 o := fun k o h => (ook_list (P := Try.prog) (l := O_laws_szPuzzle) (fk := E_laws_szPuzzle.fk) (List.forall_mem_cons.2 ⟨m_laws_szBoard, (List.forall_mem_cons.2 ⟨m_laws_szIntS, (List.forall_mem_nil _)⟩)⟩)).nat k o h
theorem u_laws_szPuzzle (fuel : Nat) (p0_0 : Int) (p0_1 : Int) (p0_2 : List Int) (p0_3 : Int) (p0_4 : Int) (p0_5 : List Int) (p1 : Int) : runFn TT E_laws_szPuzzle (kp_laws_szPuzzle 1) fuel [.val, .val] 2 false [[]] 18 [.tmp 4] b_laws_szPuzzle [.agg [.int .i64 p0_0, .int .i64 p0_1, .sl (.ints .i64 p0_2), .int .i64 p0_3, .int .i64 p0_4, .sl (.ints .i64 p0_5)], .x (.int .i64 p1)] un_laws_szPuzzle = F_laws_szPuzzle fuel p0_0 p0_1 p0_2 p0_3 p0_4 p0_5 p1 (fun r1 => some r1) := f_laws_szPuzzle fuel p0_0 p0_1 p0_2 p0_3 p0_4 p0_5 p1 un_laws_szPuzzle
theorem m_laws_szPuzzle : MeetsO Try.prog 10 o_laws_szPuzzle := by
  refine ⟨fun ρ ds K => ?_, ⟨_, meets_run (kp := kp_laws_szPuzzle 1) (weak := false) (df := [[]]) tsOk (ook_list (l := O_laws_szPuzzle) (fk := E_laws_szPuzzle.fk) (List.forall_mem_cons.2 ⟨m_laws_szBoard, (List.forall_mem_cons.2 ⟨m_laws_szIntS, (List.forall_mem_nil _)⟩)⟩)) mixed Try.func10 (body := b_laws_szPuzzle) (by kernel_rfl) (ntmps := 18) (by kernel_rfl) (rs := [.tmp 4]) (by kernel_rfl), fun ds out h => ?_⟩, ⟨_, Try.func10, by kernel_rfl, by kernel_rfl⟩⟩
  · show G_laws_szPuzzle ds K = (G_laws_szPuzzle ds some).bind K
    unfold G_laws_szPuzzle
    split
    · cases sh_laws_szPuzzle _ _ _ _ _ _ _ <;> rfl
    · rfl
  · replace h : G_laws_szPuzzle ds some = some out := h
    unfold G_laws_szPuzzle at h
    split at h
    · obtain ⟨r, hr, h⟩ := Option.bind_eq_some_iff.1 h
      injection h with h
      subst h
      have hn := (u_laws_szPuzzle 0 _ _ _ _ _ _ _).trans hr
      rw [runFn_bind (K := un_laws_szPuzzle) (K' := some) (f := un_laws_szPuzzle) n_laws_szPuzzle (fun _ => rfl)] at hn
      obtain ⟨o, h1, h2⟩ := Option.bind_eq_some_iff.1 hn
      rw [un_laws_szPuzzle_ok h2] at h1
      exact ⟨0, h1⟩
    · cases h
/-! f49 loop.example.g01239.laws.toIntS -/
noncomputable def b_laws_toIntS : Code := Try.f49.body.getD .skip
def kp_laws_toIntS (g : Nat) : Nat → Option Keep := lk [(3, ⟨[], [0, 3, 4], [], [], [], g⟩)]
def O_laws_toIntS : List (FuncId × Ora) := []
def E_laws_toIntS : Env := ⟨lk O_laws_toIntS, fun _ => false⟩
noncomputable def D_laws_toIntS_0 {ρ : Type} (g fuel : Nat) (p0 : List Int) (n : Nat) (v0 : List Int) (v3 : List Int) (v4 : Int) (Kk : Out → Option ρ) : Option ρ :=
  iter (run TT E_laws_toIntS (kp_laws_toIntS g) fuel (cL (cB (cS2 (cS1 (cS2 (cS2 (b_laws_toIntS)))))))) (nrmAt (kp_laws_toIntS g) (firstRid (cL (cB (cS2 (cS1 (cS2 (cS2 (b_laws_toIntS))))))))) n (⟨[.u (.x (.ro (.ints .i64 v0))), uu, uu, .u (.x (.own 5152 (.ints .i64 v3))), .u (.x (.int .i64 v4)), uu, uu, uu, uu, uu, uu, uu, uu, uu, uu, uu, uu, uu, uu, uu, uu, uu], [], [], []⟩) (blkK 0 (seqK (gateAt (kp_laws_toIntS g) (200000 + firstRid (cS2 (cS2 (cS2 (b_laws_toIntS)))))) (run TT E_laws_toIntS (kp_laws_toIntS g) fuel (cS2 (cS2 (cS2 (b_laws_toIntS))))) (nrmAt (kp_laws_toIntS g) (200000 + firstRid (cS2 (cS2 (cS2 (b_laws_toIntS)))))) (topK TT [.val] false [[]] [.tmp 2] [.x (.sl (.ints .i64 p0))] Kk)))
def S_laws_toIntS_e {ρ : Type} (p0 : List Int)  (k0 : (List Int → List Int → Int → Option ρ)) : Option ρ :=
  (if 0 ≤ (p0.length : Int) then (if (p0.length : Int) ≤ 1099511627776 then k0 p0 (List.replicate (p0.length : Int).toNat (0 : Int)) (0 : Int) else none) else none)
theorem s_laws_toIntS_e {ρ : Type} (g fuel : Nat) (p0 : List Int) (Kk : Out → Option ρ) : runFn TT E_laws_toIntS (kp_laws_toIntS g) fuel [.val] 1 false [[]] 22 [.tmp 2] b_laws_toIntS [.x (.sl (.ints .i64 p0))] Kk = S_laws_toIntS_e p0  (fun v0 v3 v4 => D_laws_toIntS_0 g fuel p0 fuel v0 v3 v4 Kk) := by
  kernel_rfl
def S_laws_toIntS_0 {ρ : Type}  (v0 : List Int) (v3 : List Int) (v4 : Int) (b0 : (List Int → List Int → Int → Option ρ)) (K : List Int → Option ρ) : Option ρ :=
  (bif decide (v4 < (v0.length : Int)) then (if 0 ≤ v4 then (if v4 < (v0.length : Int) then (if 0 ≤ v4 then (if v4 < (v3.length : Int) then b0 v0 (v3.set v4.toNat (v0.getD v4.toNat 0)) (IntKind.i64.wrap (v4 + (1 : Int))) else none) else none) else none) else none) else K v3)
theorem s_laws_toIntS_0 {ρ : Type} (g fuel : Nat) (p0 : List Int) (n : Nat) (v0 : List Int) (v3 : List Int) (v4 : Int) (Kk : Out → Option ρ) : D_laws_toIntS_0 g fuel p0  (n + 1) v0 v3 v4 Kk = S_laws_toIntS_0  v0 v3 v4 (fun v0 v3 v4 => D_laws_toIntS_0 g fuel p0 n v0 v3 v4 Kk) (fun r1 => Kk ⟨[.x (.sl (.ints .i64 r1))], []⟩) := by
  kernel_rfl
def F_laws_toIntS_0 {ρ : Type} (fuel : Nat)   (K : List Int → Option ρ) : Nat → List Int → List Int → Int → Option ρ
  | 0, _, _, _ => none
  | n + 1, v0, v3, v4 => S_laws_toIntS_0  v0 v3 v4 (F_laws_toIntS_0 fuel   K n) K
theorem f_laws_toIntS_0 {ρ : Type} (fuel : Nat) (p0 : List Int) (Kk : Out → Option ρ) : ∀ (n : Nat) (v0 : List Int) (v3 : List Int) (v4 : Int), D_laws_toIntS_0 1 fuel p0  n v0 v3 v4 Kk = F_laws_toIntS_0 fuel   (fun r1 => Kk ⟨[.x (.sl (.ints .i64 r1))], []⟩) n v0 v3 v4 := by
  intro n
  induction n with
  | zero => intros; rfl
  | succ n ih =>
    intro v0 v3 v4
    rw [s_laws_toIntS_0, F_laws_toIntS_0]
    try simp only [ih]
def F_laws_toIntS {ρ : Type} (fuel : Nat) (p0 : List Int)  (K : List Int → Option ρ) : Option ρ := S_laws_toIntS_e p0  (F_laws_toIntS_0 fuel   K fuel)
theorem f_laws_toIntS {ρ : Type} (fuel : Nat) (p0 : List Int) (Kk : Out → Option ρ) : runFn TT E_laws_toIntS (kp_laws_toIntS 1) fuel [.val] 1 false [[]] 22 [.tmp 2] b_laws_toIntS [.x (.sl (.ints .i64 p0))] Kk = F_laws_toIntS fuel p0 (fun r1 => Kk ⟨[.x (.sl (.ints .i64 r1))], []⟩) := by
  rw [s_laws_toIntS_e, F_laws_toIntS]
  try simp only [f_laws_toIntS_0]
noncomputable def sh_laws_toIntS (p0 : List Int) : Option (List Int) := val fun n => F_laws_toIntS n p0 (fun r1 => some r1)
noncomputable def G_laws_toIntS {ρ : Type} : List DU → (Out → Option ρ) → Option ρ
  | [.x (.sl (.ints .i64 p0))], K => (sh_laws_toIntS p0).bind fun r => K ⟨[.x (.sl (.ints .i64 r))], []⟩
  | _, _ => none
noncomputable def o_laws_toIntS : Ora := ⟨[.val], 1, false, G_laws_toIntS⟩
def un_laws_toIntS : Out → Option (List Int)
  | ⟨[.x (.sl (.ints .i64 r1))], []⟩ => some r1
  | _ => none
theorem un_laws_toIntS_ok {o : Out} {r : List Int} (h : un_laws_toIntS o = some r) : o = ⟨[.x (.sl (.ints .i64 r))], []⟩ := by
  unfold un_laws_toIntS at h
  split at h
  · injection h with h
    subst h
    rfl
  · cases h
theorem n_laws_toIntS : ∀ k o, E_laws_toIntS.fn k = some o → Nat1 o := fun k o h => (ook_list (P := Try.prog) (l := O_laws_toIntS) (fk := E_laws_toIntS.fk) (List.forall_mem_nil _)).nat k o h
theorem u_laws_toIntS (fuel : Nat) (p0 : List Int) : runFn TT E_laws_toIntS (kp_laws_toIntS 1) fuel [.val] 1 false [[]] 22 [.tmp 2] b_laws_toIntS [.x (.sl (.ints .i64 p0))] un_laws_toIntS = F_laws_toIntS fuel p0 (fun r1 => some r1) := f_laws_toIntS fuel p0 un_laws_toIntS
theorem sh_laws_toIntS_of {n : Nat} {p0 : List Int} {r : List Int} (h : F_laws_toIntS n p0 (fun r1 => some r1) = some r) : sh_laws_toIntS p0 = some r := val_of (fun n m r hm h => by rw [← u_laws_toIntS] at h ⊢; exact runFn_mono n_laws_toIntS hm h) h
theorem m_laws_toIntS : MeetsO Try.prog 49 o_laws_toIntS := by
  refine ⟨fun ρ ds K => ?_, ⟨_, meets_run (kp := kp_laws_toIntS 1) (weak := false) (df := [[]]) tsOk (ook_list (l := O_laws_toIntS) (fk := E_laws_toIntS.fk) (List.forall_mem_nil _)) mixed Try.func49 (body := b_laws_toIntS) (by kernel_rfl) (ntmps := 22) (by kernel_rfl) (rs := [.tmp 2]) (by kernel_rfl), fun ds out h => ?_⟩, ⟨_, Try.func49, by kernel_rfl, by kernel_rfl⟩⟩
  · show G_laws_toIntS ds K = (G_laws_toIntS ds some).bind K
    unfold G_laws_toIntS
    split
    · cases sh_laws_toIntS _ <;> rfl
    · rfl
  · replace h : G_laws_toIntS ds some = some out := h
    unfold G_laws_toIntS at h
    split at h
    · obtain ⟨r, hr, h⟩ := Option.bind_eq_some_iff.1 h
      injection h with h
      subst h
      obtain ⟨n, hn⟩ := val_some hr
      replace hn := (u_laws_toIntS n _).trans hn
      rw [runFn_bind (K := un_laws_toIntS) (K' := some) (f := un_laws_toIntS) n_laws_toIntS (fun _ => rfl)] at hn
      obtain ⟨o, h1, h2⟩ := Option.bind_eq_some_iff.1 hn
      rw [un_laws_toIntS_ok h2] at h1
      exact ⟨n, h1⟩
    · cases h
/-! f47 loop.example.g01239.laws.toBoard -/
noncomputable def b_laws_toBoard : Code := Try.f47.body.getD .skip
def kp_laws_toBoard (g : Nat) : Nat → Option Keep := lk []
def O_laws_toBoard : List (FuncId × Ora) := [(49, o_laws_toIntS)]
def E_laws_toBoard : Env := ⟨lk O_laws_toBoard, fun _ => false⟩
def S_laws_toBoard_e {ρ : Type} (p0_0 : Int) (p0_1 : Int) (p0_2 : List Int)   (K : Int → Int → List Int → Option ρ) : Option ρ :=
  ((sh_laws_toIntS p0_2).bind fun r1 => K p0_0 p0_1 r1)
theorem s_laws_toBoard_e {ρ : Type} (g fuel : Nat) (p0_0 : Int) (p0_1 : Int) (p0_2 : List Int) (Kk : Out → Option ρ) : runFn TT E_laws_toBoard (kp_laws_toBoard g) fuel [.val] 1 false [[]] 15 [.cell 2 32] b_laws_toBoard [.agg [.int .i64 p0_0, .int .i64 p0_1, .sl (.ints .i64 p0_2)]] Kk = S_laws_toBoard_e p0_0 p0_1 p0_2   (fun r1 r2 r3 => Kk ⟨[.agg [.int .i64 r1, .int .i64 r2, .sl (.ints .i64 r3)]], []⟩) := by
  kernel_rfl
def F_laws_toBoard {ρ : Type} (fuel : Nat) (p0_0 : Int) (p0_1 : Int) (p0_2 : List Int)  (K : Int → Int → List Int → Option ρ) : Option ρ := S_laws_toBoard_e p0_0 p0_1 p0_2   K
theorem f_laws_toBoard {ρ : Type} (fuel : Nat) (p0_0 : Int) (p0_1 : Int) (p0_2 : List Int) (Kk : Out → Option ρ) : runFn TT E_laws_toBoard (kp_laws_toBoard 1) fuel [.val] 1 false [[]] 15 [.cell 2 32] b_laws_toBoard [.agg [.int .i64 p0_0, .int .i64 p0_1, .sl (.ints .i64 p0_2)]] Kk = F_laws_toBoard fuel p0_0 p0_1 p0_2 (fun r1 r2 r3 => Kk ⟨[.agg [.int .i64 r1, .int .i64 r2, .sl (.ints .i64 r3)]], []⟩) := by
  rw [s_laws_toBoard_e, F_laws_toBoard]
noncomputable def sh_laws_toBoard (p0_0 : Int) (p0_1 : Int) (p0_2 : List Int) : Option (Int × Int × List Int) := F_laws_toBoard 0 p0_0 p0_1 p0_2 (fun r1 r2 r3 => some (r1, r2, r3))
noncomputable def G_laws_toBoard {ρ : Type} : List DU → (Out → Option ρ) → Option ρ
  | [.agg [.int .i64 p0_0, .int .i64 p0_1, .sl (.ints .i64 p0_2)]], K => (sh_laws_toBoard p0_0 p0_1 p0_2).bind fun r => K ⟨[.agg [.int .i64 r.1, .int .i64 r.2.1, .sl (.ints .i64 r.2.2)]], []⟩
  | _, _ => none
noncomputable def o_laws_toBoard : Ora := ⟨[.val], 1, false, G_laws_toBoard⟩
def un_laws_toBoard : Out → Option (Int × Int × List Int)
  | ⟨[.agg [.int .i64 r1, .int .i64 r2, .sl (.ints .i64 r3)]], []⟩ => some (r1, r2, r3)
  | _ => none
theorem un_laws_toBoard_ok {o : Out} {r : Int × Int × List Int} (h : un_laws_toBoard o = some r) : o = ⟨[.agg [.int .i64 r.1, .int .i64 r.2.1, .sl (.ints .i64 r.2.2)]], []⟩ := by
  unfold un_laws_toBoard at h
  split at h
  · injection h with h
    subst h
    rfl
  · cases h
theorem n_laws_toBoard : ∀ k o, E_laws_toBoard.fn k = some o → Nat1 o := fun k o h => (ook_list (P := Try.prog) (l := O_laws_toBoard) (fk := E_laws_toBoard.fk) (List.forall_mem_cons.2 ⟨m_laws_toIntS, (List.forall_mem_nil _)⟩)).nat k o h
theorem u_laws_toBoard (fuel : Nat) (p0_0 : Int) (p0_1 : Int) (p0_2 : List Int) : runFn TT E_laws_toBoard (kp_laws_toBoard 1) fuel [.val] 1 false [[]] 15 [.cell 2 32] b_laws_toBoard [.agg [.int .i64 p0_0, .int .i64 p0_1, .sl (.ints .i64 p0_2)]] un_laws_toBoard = F_laws_toBoard fuel p0_0 p0_1 p0_2 (fun r1 r2 r3 => some (r1, r2, r3)) := f_laws_toBoard fuel p0_0 p0_1 p0_2 un_laws_toBoard
theorem m_laws_toBoard : MeetsO Try.prog 47 o_laws_toBoard := by
  refine ⟨fun ρ ds K => ?_, ⟨_, meets_run (kp := kp_laws_toBoard 1) (weak := false) (df := [[]]) tsOk (ook_list (l := O_laws_toBoard) (fk := E_laws_toBoard.fk) (List.forall_mem_cons.2 ⟨m_laws_toIntS, (List.forall_mem_nil _)⟩)) mixed Try.func47 (body := b_laws_toBoard) (by kernel_rfl) (ntmps := 15) (by kernel_rfl) (rs := [.cell 2 32]) (by kernel_rfl), fun ds out h => ?_⟩, ⟨_, Try.func47, by kernel_rfl, by kernel_rfl⟩⟩
  · show G_laws_toBoard ds K = (G_laws_toBoard ds some).bind K
    unfold G_laws_toBoard
    split
    · cases sh_laws_toBoard _ _ _ <;> rfl
    · rfl
  · replace h : G_laws_toBoard ds some = some out := h
    unfold G_laws_toBoard at h
    split at h
    · obtain ⟨r, hr, h⟩ := Option.bind_eq_some_iff.1 h
      injection h with h
      subst h
      have hn := (u_laws_toBoard 0 _ _ _).trans hr
      rw [runFn_bind (K := un_laws_toBoard) (K' := some) (f := un_laws_toBoard) n_laws_toBoard (fun _ => rfl)] at hn
      obtain ⟨o, h1, h2⟩ := Option.bind_eq_some_iff.1 hn
      rw [un_laws_toBoard_ok h2] at h1
      exact ⟨0, h1⟩
    · cases h
/-! f48 loop.example.g01239.laws.toLeaper -/
noncomputable def b_laws_toLeaper : Code := Try.f48.body.getD .skip
def kp_laws_toLeaper (g : Nat) : Nat → Option Keep := lk []
def O_laws_toLeaper : List (FuncId × Ora) := []
def E_laws_toLeaper : Env := ⟨lk O_laws_toLeaper, fun _ => false⟩
def S_laws_toLeaper_e {ρ : Type} (p0_0 : Int) (p0_1 : Int)   (K : Int → Int → Option ρ) : Option ρ :=
  K p0_0 p0_1
theorem s_laws_toLeaper_e {ρ : Type} (g fuel : Nat) (p0_0 : Int) (p0_1 : Int) (Kk : Out → Option ρ) : runFn TT E_laws_toLeaper (kp_laws_toLeaper g) fuel [.val] 1 false [[]] 11 [.cell 2 33] b_laws_toLeaper [.agg [.int .i64 p0_0, .int .i64 p0_1]] Kk = S_laws_toLeaper_e p0_0 p0_1   (fun r1 r2 => Kk ⟨[.agg [.int .i64 r1, .int .i64 r2]], []⟩) := by
  kernel_rfl
def F_laws_toLeaper {ρ : Type} (fuel : Nat) (p0_0 : Int) (p0_1 : Int)  (K : Int → Int → Option ρ) : Option ρ := S_laws_toLeaper_e p0_0 p0_1   K
theorem f_laws_toLeaper {ρ : Type} (fuel : Nat) (p0_0 : Int) (p0_1 : Int) (Kk : Out → Option ρ) : runFn TT E_laws_toLeaper (kp_laws_toLeaper 1) fuel [.val] 1 false [[]] 11 [.cell 2 33] b_laws_toLeaper [.agg [.int .i64 p0_0, .int .i64 p0_1]] Kk = F_laws_toLeaper fuel p0_0 p0_1 (fun r1 r2 => Kk ⟨[.agg [.int .i64 r1, .int .i64 r2]], []⟩) := by
  rw [s_laws_toLeaper_e, F_laws_toLeaper]
noncomputable def sh_laws_toLeaper (p0_0 : Int) (p0_1 : Int) : Option (Int × Int) := F_laws_toLeaper 0 p0_0 p0_1 (fun r1 r2 => some (r1, r2))
noncomputable def G_laws_toLeaper {ρ : Type} : List DU → (Out → Option ρ) → Option ρ
  | [.agg [.int .i64 p0_0, .int .i64 p0_1]], K => (sh_laws_toLeaper p0_0 p0_1).bind fun r => K ⟨[.agg [.int .i64 r.1, .int .i64 r.2]], []⟩
  | _, _ => none
noncomputable def o_laws_toLeaper : Ora := ⟨[.val], 1, false, G_laws_toLeaper⟩
def un_laws_toLeaper : Out → Option (Int × Int)
  | ⟨[.agg [.int .i64 r1, .int .i64 r2]], []⟩ => some (r1, r2)
  | _ => none
theorem un_laws_toLeaper_ok {o : Out} {r : Int × Int} (h : un_laws_toLeaper o = some r) : o = ⟨[.agg [.int .i64 r.1, .int .i64 r.2]], []⟩ := by
  unfold un_laws_toLeaper at h
  split at h
  · injection h with h
    subst h
    rfl
  · cases h
theorem n_laws_toLeaper : ∀ k o, E_laws_toLeaper.fn k = some o → Nat1 o := fun k o h => (ook_list (P := Try.prog) (l := O_laws_toLeaper) (fk := E_laws_toLeaper.fk) (List.forall_mem_nil _)).nat k o h
theorem u_laws_toLeaper (fuel : Nat) (p0_0 : Int) (p0_1 : Int) : runFn TT E_laws_toLeaper (kp_laws_toLeaper 1) fuel [.val] 1 false [[]] 11 [.cell 2 33] b_laws_toLeaper [.agg [.int .i64 p0_0, .int .i64 p0_1]] un_laws_toLeaper = F_laws_toLeaper fuel p0_0 p0_1 (fun r1 r2 => some (r1, r2)) := f_laws_toLeaper fuel p0_0 p0_1 un_laws_toLeaper
theorem m_laws_toLeaper : MeetsO Try.prog 48 o_laws_toLeaper := by
  refine ⟨fun ρ ds K => ?_, ⟨_, meets_run (kp := kp_laws_toLeaper 1) (weak := false) (df := [[]]) tsOk (ook_list (l := O_laws_toLeaper) (fk := E_laws_toLeaper.fk) (List.forall_mem_nil _)) mixed Try.func48 (body := b_laws_toLeaper) (by kernel_rfl) (ntmps := 11) (by kernel_rfl) (rs := [.cell 2 33]) (by kernel_rfl), fun ds out h => ?_⟩, ⟨_, Try.func48, by kernel_rfl, by kernel_rfl⟩⟩
  · show G_laws_toLeaper ds K = (G_laws_toLeaper ds some).bind K
    unfold G_laws_toLeaper
    split
    · cases sh_laws_toLeaper _ _ <;> rfl
    · rfl
  · replace h : G_laws_toLeaper ds some = some out := h
    unfold G_laws_toLeaper at h
    split at h
    · obtain ⟨r, hr, h⟩ := Option.bind_eq_some_iff.1 h
      injection h with h
      subst h
      have hn := (u_laws_toLeaper 0 _ _).trans hr
      rw [runFn_bind (K := un_laws_toLeaper) (K' := some) (f := un_laws_toLeaper) n_laws_toLeaper (fun _ => rfl)] at hn
      obtain ⟨o, h1, h2⟩ := Option.bind_eq_some_iff.1 hn
      rw [un_laws_toLeaper_ok h2] at h1
      exact ⟨0, h1⟩
    · cases h
/-! f12 loop.example.g01239.laws.toPuzzle -/
noncomputable def b_laws_toPuzzle : Code := Try.f12.body.getD .skip
def kp_laws_toPuzzle (g : Nat) : Nat → Option Keep := lk []
def O_laws_toPuzzle : List (FuncId × Ora) := [(47, o_laws_toBoard), (48, o_laws_toLeaper), (49, o_laws_toIntS)]
def E_laws_toPuzzle : Env := ⟨lk O_laws_toPuzzle, fun _ => false⟩
def S_laws_toPuzzle_e {ρ : Type} (p0_0 : Int) (p0_1 : Int) (p0_2 : List Int) (p0_3 : Int) (p0_4 : Int) (p0_5 : List Int)   (K : Int → Int → List Int → Int → Int → List Int → Option ρ) : Option ρ :=
  ((sh_laws_toBoard p0_0 p0_1 p0_2).bind fun r1 => ((sh_laws_toLeaper p0_3 p0_4).bind fun r2 => ((sh_laws_toIntS p0_5).bind fun r3 => K r1.1 r1.2.1 r1.2.2 r2.1 r2.2 r3)))
theorem s_laws_toPuzzle_e {ρ : Type} (g fuel : Nat) (p0_0 : Int) (p0_1 : Int) (p0_2 : List Int) (p0_3 : Int) (p0_4 : Int) (p0_5 : List Int) (Kk : Out → Option ρ) : runFn TT E_laws_toPuzzle (kp_laws_toPuzzle g) fuel [.val] 1 false [[]] 17 [.cell 2 35] b_laws_toPuzzle [.agg [.int .i64 p0_0, .int .i64 p0_1, .sl (.ints .i64 p0_2), .int .i64 p0_3, .int .i64 p0_4, .sl (.ints .i64 p0_5)]] Kk = S_laws_toPuzzle_e p0_0 p0_1 p0_2 p0_3 p0_4 p0_5   (fun r1 r2 r3 r4 r5 r6 => Kk ⟨[.agg [.int .i64 r1, .int .i64 r2, .sl (.ints .i64 r3), .int .i64 r4, .int .i64 r5, .sl (.ints .i64 r6)]], []⟩) := by
  kernel_rfl
def F_laws_toPuzzle {ρ : Type} (fuel : Nat) (p0_0 : Int) (p0_1 : Int) (p0_2 : List Int) (p0_3 : Int) (p0_4 : Int) (p0_5 : List Int)  (K : Int → Int → List Int → Int → Int → List Int → Option ρ) : Option ρ := S_laws_toPuzzle_e p0_0 p0_1 p0_2 p0_3 p0_4 p0_5   K
theorem f_laws_toPuzzle {ρ : Type} (fuel : Nat) (p0_0 : Int) (p0_1 : Int) (p0_2 : List Int) (p0_3 : Int) (p0_4 : Int) (p0_5 : List Int) (Kk : Out → Option ρ) : runFn TT E_laws_toPuzzle (kp_laws_toPuzzle 1) fuel [.val] 1 false [[]] 17 [.cell 2 35] b_laws_toPuzzle [.agg [.int .i64 p0_0, .int .i64 p0_1, .sl (.ints .i64 p0_2), .int .i64 p0_3, .int .i64 p0_4, .sl (.ints .i64 p0_5)]] Kk = F_laws_toPuzzle fuel p0_0 p0_1 p0_2 p0_3 p0_4 p0_5 (fun r1 r2 r3 r4 r5 r6 => Kk ⟨[.agg [.int .i64 r1, .int .i64 r2, .sl (.ints .i64 r3), .int .i64 r4, .int .i64 r5, .sl (.ints .i64 r6)]], []⟩) := by
  rw [s_laws_toPuzzle_e, F_laws_toPuzzle]
noncomputable def sh_laws_toPuzzle (p0_0 : Int) (p0_1 : Int) (p0_2 : List Int) (p0_3 : Int) (p0_4 : Int) (p0_5 : List Int) : Option (Int × Int × List Int × Int × Int × List Int) := F_laws_toPuzzle 0 p0_0 p0_1 p0_2 p0_3 p0_4 p0_5 (fun r1 r2 r3 r4 r5 r6 => some (r1, r2, r3, r4, r5, r6))
noncomputable def G_laws_toPuzzle {ρ : Type} : List DU → (Out → Option ρ) → Option ρ
  | [.agg [.int .i64 p0_0, .int .i64 p0_1, .sl (.ints .i64 p0_2), .int .i64 p0_3, .int .i64 p0_4, .sl (.ints .i64 p0_5)]], K => (sh_laws_toPuzzle p0_0 p0_1 p0_2 p0_3 p0_4 p0_5).bind fun r => K ⟨[.agg [.int .i64 r.1, .int .i64 r.2.1, .sl (.ints .i64 r.2.2.1), .int .i64 r.2.2.2.1, .int .i64 r.2.2.2.2.1, .sl (.ints .i64 r.2.2.2.2.2)]], []⟩
  | _, _ => none
noncomputable def o_laws_toPuzzle : Ora := ⟨[.val], 1, false, G_laws_toPuzzle⟩
def un_laws_toPuzzle : Out → Option (Int × Int × List Int × Int × Int × List Int)
  | ⟨[.agg [.int .i64 r1, .int .i64 r2, .sl (.ints .i64 r3), .int .i64 r4, .int .i64 r5, .sl (.ints .i64 r6)]], []⟩ => some (r1, r2, r3, r4, r5, r6)
  | _ => none
theorem un_laws_toPuzzle_ok {o : Out} {r : Int × Int × List Int × Int × Int × List Int} (h : un_laws_toPuzzle o = some r) : o = ⟨[.agg [.int .i64 r.1, .int .i64 r.2.1, .sl (.ints .i64 r.2.2.1), .int .i64 r.2.2.2.1, .int .i64 r.2.2.2.2.1, .sl (.ints .i64 r.2.2.2.2.2)]], []⟩ := by
  unfold un_laws_toPuzzle at h
  split at h
  · injection h with h
    subst h
    rfl
  · cases h
theorem n_laws_toPuzzle : ∀ k o, E_laws_toPuzzle.fn k = some o → Nat1 o := fun k o h => (ook_list (P := Try.prog) (l := O_laws_toPuzzle) (fk := E_laws_toPuzzle.fk) (List.forall_mem_cons.2 ⟨m_laws_toBoard, (List.forall_mem_cons.2 ⟨m_laws_toLeaper, (List.forall_mem_cons.2 ⟨m_laws_toIntS, (List.forall_mem_nil _)⟩)⟩)⟩)).nat k o h
theorem u_laws_toPuzzle (fuel : Nat) (p0_0 : Int) (p0_1 : Int) (p0_2 : List Int) (p0_3 : Int) (p0_4 : Int) (p0_5 : List Int) : runFn TT E_laws_toPuzzle (kp_laws_toPuzzle 1) fuel [.val] 1 false [[]] 17 [.cell 2 35] b_laws_toPuzzle [.agg [.int .i64 p0_0, .int .i64 p0_1, .sl (.ints .i64 p0_2), .int .i64 p0_3, .int .i64 p0_4, .sl (.ints .i64 p0_5)]] un_laws_toPuzzle = F_laws_toPuzzle fuel p0_0 p0_1 p0_2 p0_3 p0_4 p0_5 (fun r1 r2 r3 r4 r5 r6 => some (r1, r2, r3, r4, r5, r6)) := f_laws_toPuzzle fuel p0_0 p0_1 p0_2 p0_3 p0_4 p0_5 un_laws_toPuzzle
theorem m_laws_toPuzzle : MeetsO Try.prog 12 o_laws_toPuzzle := by
  refine ⟨fun ρ ds K => ?_, ⟨_, meets_run (kp := kp_laws_toPuzzle 1) (weak := false) (df := [[]]) tsOk (ook_list (l := O_laws_toPuzzle) (fk := E_laws_toPuzzle.fk) (List.forall_mem_cons.2 ⟨m_laws_toBoard, (List.forall_mem_cons.2 ⟨m_laws_toLeaper, (List.forall_mem_cons.2 ⟨m_laws_toIntS, (List.forall_mem_nil _)⟩)⟩)⟩)) mixed Try.func12 (body := b_laws_toPuzzle) (by kernel_rfl) (ntmps := 17) (by kernel_rfl) (rs := [.cell 2 35]) (by kernel_rfl), fun ds out h => ?_⟩, ⟨_, Try.func12, by kernel_rfl, by kernel_rfl⟩⟩
  · show G_laws_toPuzzle ds K = (G_laws_toPuzzle ds some).bind K
    unfold G_laws_toPuzzle
    split
    · cases sh_laws_toPuzzle _ _ _ _ _ _ <;> rfl
    · rfl
  · replace h : G_laws_toPuzzle ds some = some out := h
    unfold G_laws_toPuzzle at h
    split at h
    · obtain ⟨r, hr, h⟩ := Option.bind_eq_some_iff.1 h
      injection h with h
      subst h
      have hn := (u_laws_toPuzzle 0 _ _ _ _ _ _).trans hr
      rw [runFn_bind (K := un_laws_toPuzzle) (K' := some) (f := un_laws_toPuzzle) n_laws_toPuzzle (fun _ => rfl)] at hn
      obtain ⟨o, h1, h2⟩ := Option.bind_eq_some_iff.1 hn
      rw [un_laws_toPuzzle_ok h2] at h1
      exact ⟨0, h1⟩
    · cases h
/-! f66 loop.example.g01239.spec.l1In -/
noncomputable def b_spec_l1In : Code := Try.f66.body.getD .skip
def kp_spec_l1In (g : Nat) : Nat → Option Keep := lk []
def O_spec_l1In : List (FuncId × Ora) := []
def E_spec_l1In : Env := ⟨lk O_spec_l1In, fun _ => false⟩
def S_spec_l1In_e {ρ : Type} (p0 : Int) (p1 : Int) (p2 : Int)   (K : Bool → Option ρ) : Option ρ :=
  (bif decide (p0 ≥ p1) then K (decide (p0 ≤ p2)) else K false)
theorem s_spec_l1In_e {ρ : Type} (g fuel : Nat) (p0 : Int) (p1 : Int) (p2 : Int) (Kk : Out → Option ρ) : runFn TT E_spec_l1In (kp_spec_l1In g) fuel [.val, .val, .val] 3 false [[]] 15 [.tmp 6] b_spec_l1In [.x (.int .i64 p0), .x (.int .i64 p1), .x (.int .i64 p2)] Kk = S_spec_l1In_e p0 p1 p2   (fun r1 => Kk ⟨[.x (.bool r1)], []⟩) := by
  kernel_rfl
def F_spec_l1In {ρ : Type} (fuel : Nat) (p0 : Int) (p1 : Int) (p2 : Int)  (K : Bool → Option ρ) : Option ρ := S_spec_l1In_e p0 p1 p2   K
theorem f_spec_l1In {ρ : Type} (fuel : Nat) (p0 : Int) (p1 : Int) (p2 : Int) (Kk : Out → Option ρ) : runFn TT E_spec_l1In (kp_spec_l1In 1) fuel [.val, .val, .val] 3 false [[]] 15 [.tmp 6] b_spec_l1In [.x (.int .i64 p0), .x (.int .i64 p1), .x (.int .i64 p2)] Kk = F_spec_l1In fuel p0 p1 p2 (fun r1 => Kk ⟨[.x (.bool r1)], []⟩) := by
  rw [s_spec_l1In_e, F_spec_l1In]
noncomputable def sh_spec_l1In (p0 : Int) (p1 : Int) (p2 : Int) : Option (Bool) := F_spec_l1In 0 p0 p1 p2 (fun r1 => some r1)
noncomputable def G_spec_l1In {ρ : Type} : List DU → (Out → Option ρ) → Option ρ
  | [.x (.int .i64 p0), .x (.int .i64 p1), .x (.int .i64 p2)], K => (sh_spec_l1In p0 p1 p2).bind fun r => K ⟨[.x (.bool r)], []⟩
  | _, _ => none
noncomputable def o_spec_l1In : Ora := ⟨[.val, .val, .val], 3, false, G_spec_l1In⟩
def un_spec_l1In : Out → Option (Bool)
  | ⟨[.x (.bool r1)], []⟩ => some r1
  | _ => none
theorem un_spec_l1In_ok {o : Out} {r : Bool} (h : un_spec_l1In o = some r) : o = ⟨[.x (.bool r)], []⟩ := by
  unfold un_spec_l1In at h
  split at h
  · injection h with h
    subst h
    rfl
  · cases h
theorem n_spec_l1In : ∀ k o, E_spec_l1In.fn k = some o → Nat1 o := fun k o h => (ook_list (P := Try.prog) (l := O_spec_l1In) (fk := E_spec_l1In.fk) (List.forall_mem_nil _)).nat k o h
theorem u_spec_l1In (fuel : Nat) (p0 : Int) (p1 : Int) (p2 : Int) : runFn TT E_spec_l1In (kp_spec_l1In 1) fuel [.val, .val, .val] 3 false [[]] 15 [.tmp 6] b_spec_l1In [.x (.int .i64 p0), .x (.int .i64 p1), .x (.int .i64 p2)] un_spec_l1In = F_spec_l1In fuel p0 p1 p2 (fun r1 => some r1) := f_spec_l1In fuel p0 p1 p2 un_spec_l1In
theorem m_spec_l1In : MeetsO Try.prog 66 o_spec_l1In := by
  refine ⟨fun ρ ds K => ?_, ⟨_, meets_run (kp := kp_spec_l1In 1) (weak := false) (df := [[]]) tsOk (ook_list (l := O_spec_l1In) (fk := E_spec_l1In.fk) (List.forall_mem_nil _)) mixed Try.func66 (body := b_spec_l1In) (by kernel_rfl) (ntmps := 15) (by kernel_rfl) (rs := [.tmp 6]) (by kernel_rfl), fun ds out h => ?_⟩, ⟨_, Try.func66, by kernel_rfl, by kernel_rfl⟩⟩
  · show G_spec_l1In ds K = (G_spec_l1In ds some).bind K
    unfold G_spec_l1In
    split
    · cases sh_spec_l1In _ _ _ <;> rfl
    · rfl
  · replace h : G_spec_l1In ds some = some out := h
    unfold G_spec_l1In at h
    split at h
    · obtain ⟨r, hr, h⟩ := Option.bind_eq_some_iff.1 h
      injection h with h
      subst h
      have hn := (u_spec_l1In 0 _ _ _).trans hr
      rw [runFn_bind (K := un_spec_l1In) (K' := some) (f := un_spec_l1In) n_spec_l1In (fun _ => rfl)] at hn
      obtain ⟨o, h1, h2⟩ := Option.bind_eq_some_iff.1 hn
      rw [un_spec_l1In_ok h2] at h1
      exact ⟨0, h1⟩
    · cases h
/-! f97 loop.example.g01239.spec.boSize -/
noncomputable def b_spec_boSize : Code := Try.f97.body.getD .skip
def kp_spec_boSize (g : Nat) : Nat → Option Keep := lk []
def O_spec_boSize : List (FuncId × Ora) := [(66, o_spec_l1In)]
def E_spec_boSize : Env := ⟨lk O_spec_boSize, fun _ => false⟩
def S_spec_boSize_e {ρ : Type} (p0 : Int) (p1 : Int)   (K : Bool → Option ρ) : Option ρ :=
  ((sh_spec_l1In p0 (1 : Int) (8 : Int)).bind fun r1 => (bif r1 then ((sh_spec_l1In p1 (1 : Int) (8 : Int)).bind fun r2 => K r2) else K false))
theorem s_spec_boSize_e {ρ : Type} (g fuel : Nat) (p0 : Int) (p1 : Int) (Kk : Out → Option ρ) : runFn TT E_spec_boSize (kp_spec_boSize g) fuel [.val, .val] 2 false [[]] 11 [.tmp 4] b_spec_boSize [.x (.int .i64 p0), .x (.int .i64 p1)] Kk = S_spec_boSize_e p0 p1   (fun r1 => Kk ⟨[.x (.bool r1)], []⟩) := by
  kernel_rfl
def F_spec_boSize {ρ : Type} (fuel : Nat) (p0 : Int) (p1 : Int)  (K : Bool → Option ρ) : Option ρ := S_spec_boSize_e p0 p1   K
theorem f_spec_boSize {ρ : Type} (fuel : Nat) (p0 : Int) (p1 : Int) (Kk : Out → Option ρ) : runFn TT E_spec_boSize (kp_spec_boSize 1) fuel [.val, .val] 2 false [[]] 11 [.tmp 4] b_spec_boSize [.x (.int .i64 p0), .x (.int .i64 p1)] Kk = F_spec_boSize fuel p0 p1 (fun r1 => Kk ⟨[.x (.bool r1)], []⟩) := by
  rw [s_spec_boSize_e, F_spec_boSize]
noncomputable def sh_spec_boSize (p0 : Int) (p1 : Int) : Option (Bool) := F_spec_boSize 0 p0 p1 (fun r1 => some r1)
noncomputable def G_spec_boSize {ρ : Type} : List DU → (Out → Option ρ) → Option ρ
  | [.x (.int .i64 p0), .x (.int .i64 p1)], K => (sh_spec_boSize p0 p1).bind fun r => K ⟨[.x (.bool r)], []⟩
  | _, _ => none
noncomputable def o_spec_boSize : Ora := ⟨[.val, .val], 2, false, G_spec_boSize⟩
def un_spec_boSize : Out → Option (Bool)
  | ⟨[.x (.bool r1)], []⟩ => some r1
  | _ => none
theorem un_spec_boSize_ok {o : Out} {r : Bool} (h : un_spec_boSize o = some r) : o = ⟨[.x (.bool r)], []⟩ := by
  unfold un_spec_boSize at h
  split at h
  · injection h with h
    subst h
    rfl
  · cases h
theorem n_spec_boSize : ∀ k o, E_spec_boSize.fn k = some o → Nat1 o := fun k o h => (ook_list (P := Try.prog) (l := O_spec_boSize) (fk := E_spec_boSize.fk) (List.forall_mem_cons.2 ⟨m_spec_l1In, (List.forall_mem_nil _)⟩)).nat k o h
theorem u_spec_boSize (fuel : Nat) (p0 : Int) (p1 : Int) : runFn TT E_spec_boSize (kp_spec_boSize 1) fuel [.val, .val] 2 false [[]] 11 [.tmp 4] b_spec_boSize [.x (.int .i64 p0), .x (.int .i64 p1)] un_spec_boSize = F_spec_boSize fuel p0 p1 (fun r1 => some r1) := f_spec_boSize fuel p0 p1 un_spec_boSize
theorem m_spec_boSize : MeetsO Try.prog 97 o_spec_boSize := by
  refine ⟨fun ρ ds K => ?_, ⟨_, meets_run (kp := kp_spec_boSize 1) (weak := false) (df := [[]]) tsOk (ook_list (l := O_spec_boSize) (fk := E_spec_boSize.fk) (List.forall_mem_cons.2 ⟨m_spec_l1In, (List.forall_mem_nil _)⟩)) mixed Try.func97 (body := b_spec_boSize) (by kernel_rfl) (ntmps := 11) (by kernel_rfl) (rs := [.tmp 4]) (by kernel_rfl), fun ds out h => ?_⟩, ⟨_, Try.func97, by kernel_rfl, by kernel_rfl⟩⟩
  · show G_spec_boSize ds K = (G_spec_boSize ds some).bind K
    unfold G_spec_boSize
    split
    · cases sh_spec_boSize _ _ <;> rfl
    · rfl
  · replace h : G_spec_boSize ds some = some out := h
    unfold G_spec_boSize at h
    split at h
    · obtain ⟨r, hr, h⟩ := Option.bind_eq_some_iff.1 h
      injection h with h
      subst h
      have hn := (u_spec_boSize 0 _ _).trans hr
      rw [runFn_bind (K := un_spec_boSize) (K' := some) (f := un_spec_boSize) n_spec_boSize (fun _ => rfl)] at hn
      obtain ⟨o, h1, h2⟩ := Option.bind_eq_some_iff.1 hn
      rw [un_spec_boSize_ok h2] at h1
      exact ⟨0, h1⟩
    · cases h
/-! f98 loop.example.g01239.spec.l1All -/
noncomputable def b_spec_l1All : Code := Try.f98.body.getD .skip
def kp_spec_l1All (g : Nat) : Nat → Option Keep := lk [(2, ⟨[], [1, 2, 9, 10, 11], [], [], [], g⟩)]
def O_spec_l1All : List (FuncId × Ora) := [(66, o_spec_l1In)]
def E_spec_l1All : Env := ⟨lk O_spec_l1All, fun _ => false⟩
noncomputable def D_spec_l1All_0 {ρ : Type} (g fuel : Nat) (p0 : List Int) (p1 : Int) (p2 : Int) (n : Nat) (v1 : Int) (v2 : Int) (v9 : List Int) (v10 : Int) (v11 : Int) (Kk : Out → Option ρ) : Option ρ :=
  iter (run TT E_spec_l1All (kp_spec_l1All g) fuel (cL (cB (cS2 (cS1 (cS2 (b_spec_l1All))))))) (nrmAt (kp_spec_l1All g) (firstRid (cL (cB (cS2 (cS1 (cS2 (b_spec_l1All)))))))) n (⟨[uu, .u (.x (.int .i64 v1)), .u (.x (.int .i64 v2)), uu, uu, uu, uu, uu, uu, .u (.x (.ro (.ints .i64 v9))), .u (.x (.int .i64 v10)), .u (.x (.int .i64 v11)), uu, uu, uu, uu, uu, uu, uu, uu, uu], [], [], []⟩) (blkK 0 (seqK (gateAt (kp_spec_l1All g) (200000 + firstRid (cS2 (cS2 (b_spec_l1All))))) (run TT E_spec_l1All (kp_spec_l1All g) fuel (cS2 (cS2 (b_spec_l1All)))) (nrmAt (kp_spec_l1All g) (200000 + firstRid (cS2 (cS2 (b_spec_l1All))))) (topK TT [.val, .val, .val] false [[]] [.tmp 6] [.x (.sl (.ints .i64 p0)), .x (.int .i64 p1), .x (.int .i64 p2)] Kk)))
def S_spec_l1All_e {ρ : Type} (p0 : List Int) (p1 : Int) (p2 : Int)  (k0 : (Int → Int → List Int → Int → Int → Option ρ)) : Option ρ :=
  k0 p1 p2 p0 (p0.length : Int) (0 : Int)
theorem s_spec_l1All_e {ρ : Type} (g fuel : Nat) (p0 : List Int) (p1 : Int) (p2 : Int) (Kk : Out → Option ρ) : runFn TT E_spec_l1All (kp_spec_l1All g) fuel [.val, .val, .val] 3 false [[]] 21 [.tmp 6] b_spec_l1All [.x (.sl (.ints .i64 p0)), .x (.int .i64 p1), .x (.int .i64 p2)] Kk = S_spec_l1All_e p0 p1 p2  (fun v1 v2 v9 v10 v11 => D_spec_l1All_0 g fuel p0 p1 p2 fuel v1 v2 v9 v10 v11 Kk) := by
  kernel_rfl
def S_spec_l1All_0 {ρ : Type}  (v1 : Int) (v2 : Int) (v9 : List Int) (v10 : Int) (v11 : Int) (b0 : (Int → Int → List Int → Int → Int → Option ρ)) (K : Bool → Option ρ) : Option ρ :=
  (bif decide (v11 < v10) then (if 0 ≤ v11 then (if v11 < (v9.length : Int) then ((sh_spec_l1In (v9.getD v11.toNat 0) v1 v2).bind fun r1 => (bif !r1 then K false else b0 v1 v2 v9 v10 (IntKind.i64.wrap (v11 + (1 : Int))))) else none) else none) else K true)
theorem s_spec_l1All_0 {ρ : Type} (g fuel : Nat) (p0 : List Int) (p1 : Int) (p2 : Int) (n : Nat) (v1 : Int) (v2 : Int) (v9 : List Int) (v10 : Int) (v11 : Int) (Kk : Out → Option ρ) : D_spec_l1All_0 g fuel p0 p1 p2  (n + 1) v1 v2 v9 v10 v11 Kk = S_spec_l1All_0  v1 v2 v9 v10 v11 (fun v1 v2 v9 v10 v11 => D_spec_l1All_0 g fuel p0 p1 p2 n v1 v2 v9 v10 v11 Kk) (fun r1 => Kk ⟨[.x (.bool r1)], []⟩) := by
  kernel_rfl
def F_spec_l1All_0 {ρ : Type} (fuel : Nat)   (K : Bool → Option ρ) : Nat → Int → Int → List Int → Int → Int → Option ρ
  | 0, _, _, _, _, _ => none
  | n + 1, v1, v2, v9, v10, v11 => S_spec_l1All_0  v1 v2 v9 v10 v11 (F_spec_l1All_0 fuel   K n) K
theorem f_spec_l1All_0 {ρ : Type} (fuel : Nat) (p0 : List Int) (p1 : Int) (p2 : Int) (Kk : Out → Option ρ) : ∀ (n : Nat) (v1 : Int) (v2 : Int) (v9 : List Int) (v10 : Int) (v11 : Int), D_spec_l1All_0 1 fuel p0 p1 p2  n v1 v2 v9 v10 v11 Kk = F_spec_l1All_0 fuel   (fun r1 => Kk ⟨[.x (.bool r1)], []⟩) n v1 v2 v9 v10 v11 := by
  intro n
  induction n with
  | zero => intros; rfl
  | succ n ih =>
    intro v1 v2 v9 v10 v11
    rw [s_spec_l1All_0, F_spec_l1All_0]
    try simp only [ih]
def F_spec_l1All {ρ : Type} (fuel : Nat) (p0 : List Int) (p1 : Int) (p2 : Int)  (K : Bool → Option ρ) : Option ρ := S_spec_l1All_e p0 p1 p2  (F_spec_l1All_0 fuel   K fuel)
theorem f_spec_l1All {ρ : Type} (fuel : Nat) (p0 : List Int) (p1 : Int) (p2 : Int) (Kk : Out → Option ρ) : runFn TT E_spec_l1All (kp_spec_l1All 1) fuel [.val, .val, .val] 3 false [[]] 21 [.tmp 6] b_spec_l1All [.x (.sl (.ints .i64 p0)), .x (.int .i64 p1), .x (.int .i64 p2)] Kk = F_spec_l1All fuel p0 p1 p2 (fun r1 => Kk ⟨[.x (.bool r1)], []⟩) := by
  rw [s_spec_l1All_e, F_spec_l1All]
  try simp only [f_spec_l1All_0]
noncomputable def sh_spec_l1All (p0 : List Int) (p1 : Int) (p2 : Int) : Option (Bool) := val fun n => F_spec_l1All n p0 p1 p2 (fun r1 => some r1)
noncomputable def G_spec_l1All {ρ : Type} : List DU → (Out → Option ρ) → Option ρ
  | [.x (.sl (.ints .i64 p0)), .x (.int .i64 p1), .x (.int .i64 p2)], K => (sh_spec_l1All p0 p1 p2).bind fun r => K ⟨[.x (.bool r)], []⟩
  | _, _ => none
noncomputable def o_spec_l1All : Ora := ⟨[.val, .val, .val], 3, false, G_spec_l1All⟩
def un_spec_l1All : Out → Option (Bool)
  | ⟨[.x (.bool r1)], []⟩ => some r1
  | _ => none
theorem un_spec_l1All_ok {o : Out} {r : Bool} (h : un_spec_l1All o = some r) : o = ⟨[.x (.bool r)], []⟩ := by
  unfold un_spec_l1All at h
  split at h
  · injection h with h
    subst h
    rfl
  · cases h
theorem n_spec_l1All : ∀ k o, E_spec_l1All.fn k = some o → Nat1 o := fun k o h => (ook_list (P := Try.prog) (l := O_spec_l1All) (fk := E_spec_l1All.fk) (List.forall_mem_cons.2 ⟨m_spec_l1In, (List.forall_mem_nil _)⟩)).nat k o h
theorem u_spec_l1All (fuel : Nat) (p0 : List Int) (p1 : Int) (p2 : Int) : runFn TT E_spec_l1All (kp_spec_l1All 1) fuel [.val, .val, .val] 3 false [[]] 21 [.tmp 6] b_spec_l1All [.x (.sl (.ints .i64 p0)), .x (.int .i64 p1), .x (.int .i64 p2)] un_spec_l1All = F_spec_l1All fuel p0 p1 p2 (fun r1 => some r1) := f_spec_l1All fuel p0 p1 p2 un_spec_l1All
theorem sh_spec_l1All_of {n : Nat} {p0 : List Int} {p1 : Int} {p2 : Int} {r : Bool} (h : F_spec_l1All n p0 p1 p2 (fun r1 => some r1) = some r) : sh_spec_l1All p0 p1 p2 = some r := val_of (fun n m r hm h => by rw [← u_spec_l1All] at h ⊢; exact runFn_mono n_spec_l1All hm h) h
theorem m_spec_l1All : MeetsO Try.prog 98 o_spec_l1All := by
  refine ⟨fun ρ ds K => ?_, ⟨_, meets_run (kp := kp_spec_l1All 1) (weak := false) (df := [[]]) tsOk (ook_list (l := O_spec_l1All) (fk := E_spec_l1All.fk) (List.forall_mem_cons.2 ⟨m_spec_l1In, (List.forall_mem_nil _)⟩)) mixed Try.func98 (body := b_spec_l1All) (by kernel_rfl) (ntmps := 21) (by kernel_rfl) (rs := [.tmp 6]) (by kernel_rfl), fun ds out h => ?_⟩, ⟨_, Try.func98, by kernel_rfl, by kernel_rfl⟩⟩
  · show G_spec_l1All ds K = (G_spec_l1All ds some).bind K
    unfold G_spec_l1All
    split
    · cases sh_spec_l1All _ _ _ <;> rfl
    · rfl
  · replace h : G_spec_l1All ds some = some out := h
    unfold G_spec_l1All at h
    split at h
    · obtain ⟨r, hr, h⟩ := Option.bind_eq_some_iff.1 h
      injection h with h
      subst h
      obtain ⟨n, hn⟩ := val_some hr
      replace hn := (u_spec_l1All n _ _ _).trans hn
      rw [runFn_bind (K := un_spec_l1All) (K' := some) (f := un_spec_l1All) n_spec_l1All (fun _ => rfl)] at hn
      obtain ⟨o, h1, h2⟩ := Option.bind_eq_some_iff.1 hn
      rw [un_spec_l1All_ok h2] at h1
      exact ⟨n, h1⟩
    · cases h
/-! f84 loop.example.g01239.spec.boGood -/
noncomputable def b_spec_boGood : Code := Try.f84.body.getD .skip
def kp_spec_boGood (g : Nat) : Nat → Option Keep := lk [(4, ⟨[], [1, 3], [4096], [], [], g⟩)]
def O_spec_boGood : List (FuncId × Ora) := [(97, o_spec_boSize), (98, o_spec_l1All)]
def E_spec_boGood : Env := ⟨lk O_spec_boGood, fun _ => false⟩
noncomputable def D_spec_boGood_0 {ρ : Type} (g fuel : Nat) (p0_0 : Int) (p0_1 : Int) (p0_2 : List Int) (n : Nat) (v3 : Int) (c4096_0 : Int) (c4096_1 : Int) (c4096_2 : List Int) (Kk : Out → Option ρ) : Option ρ :=
  iter (run TT E_spec_boGood (kp_spec_boGood g) fuel (cL (cB (cS2 (cS1 (cS2 (cS2 (b_spec_boGood)))))))) (nrmAt (kp_spec_boGood g) (firstRid (cL (cB (cS2 (cS1 (cS2 (cS2 (b_spec_boGood))))))))) n (⟨[uu, .u (.x (.ptr 4096 0)), uu, .u (.x (.int .i64 v3)), uu, uu, uu, uu, uu, uu, uu, uu, uu, uu, uu, uu, uu, uu, uu, uu, uu, uu, uu, uu, uu, uu, uu, uu, uu, uu, uu, uu, uu, uu, uu, uu, uu, uu, uu, uu, uu, uu, uu, uu, uu, uu, uu, uu, uu, uu, uu, uu], [(4096, [.int .i64 c4096_0, .int .i64 c4096_1, .ro (.ints .i64 c4096_2)])], [], []⟩) (blkK 0 (seqK (gateAt (kp_spec_boGood g) (200000 + firstRid (cS2 (cS2 (cS2 (b_spec_boGood)))))) (run TT E_spec_boGood (kp_spec_boGood g) fuel (cS2 (cS2 (cS2 (b_spec_boGood))))) (nrmAt (kp_spec_boGood g) (200000 + firstRid (cS2 (cS2 (cS2 (b_spec_boGood)))))) (topK TT [.val] false [[]] [.tmp 2] [.agg [.int .i64 p0_0, .int .i64 p0_1, .sl (.ints .i64 p0_2)]] Kk)))
def S_spec_boGood_e {ρ : Type} (p0_0 : Int) (p0_1 : Int) (p0_2 : List Int)  (k0 : (Int → Int → Int → List Int → Option ρ)) (K : Bool → Option ρ) : Option ρ :=
  ((sh_spec_boSize p0_0 p0_1).bind fun r1 => (bif !r1 then K false else (bif decide ((p0_2.length : Int) ≥ (IntKind.i64.wrap (p0_0 * p0_1))) then K false else ((sh_spec_l1All p0_2 (0 : Int) (IntKind.i64.wrap ((IntKind.i64.wrap (p0_0 * p0_1)) - (1 : Int)))).bind fun r2 => (bif !r2 then K false else k0 (1 : Int) p0_0 p0_1 p0_2)))))
theorem s_spec_boGood_e {ρ : Type} (g fuel : Nat) (p0_0 : Int) (p0_1 : Int) (p0_2 : List Int) (Kk : Out → Option ρ) : runFn TT E_spec_boGood (kp_spec_boGood g) fuel [.val] 1 false [[]] 52 [.tmp 2] b_spec_boGood [.agg [.int .i64 p0_0, .int .i64 p0_1, .sl (.ints .i64 p0_2)]] Kk = S_spec_boGood_e p0_0 p0_1 p0_2  (fun v3 c4096_0 c4096_1 c4096_2 => D_spec_boGood_0 g fuel p0_0 p0_1 p0_2 fuel v3 c4096_0 c4096_1 c4096_2 Kk) (fun r1 => Kk ⟨[.x (.bool r1)], []⟩) := by
  kernel_rfl
def S_spec_boGood_0 {ρ : Type}  (v3 : Int) (c4096_0 : Int) (c4096_1 : Int) (c4096_2 : List Int) (b0 : (Int → Int → Int → List Int → Option ρ)) (K : Bool → Option ρ) : Option ρ :=
  (bif decide (v3 < (c4096_2.length : Int)) then (if 0 ≤ (IntKind.i64.wrap (v3 - (1 : Int))) then (if (IntKind.i64.wrap (v3 - (1 : Int))) < (c4096_2.length : Int) then (if 0 ≤ v3 then (if v3 < (c4096_2.length : Int) then (bif decide ((c4096_2.getD ((IntKind.i64.wrap (v3 - (1 : Int))).toNat) 0) ≥ (c4096_2.getD v3.toNat 0)) then K false else b0 (IntKind.i64.wrap (v3 + (1 : Int))) c4096_0 c4096_1 c4096_2) else none) else none) else none) else none) else K true)
theorem s_spec_boGood_0 {ρ : Type} (g fuel : Nat) (p0_0 : Int) (p0_1 : Int) (p0_2 : List Int) (n : Nat) (v3 : Int) (c4096_0 : Int) (c4096_1 : Int) (c4096_2 : List Int) (Kk : Out → Option ρ) : D_spec_boGood_0 g fuel p0_0 p0_1 p0_2  (n + 1) v3 c4096_0 c4096_1 c4096_2 Kk = S_spec_boGood_0  v3 c4096_0 c4096_1 c4096_2 (fun v3 c4096_0 c4096_1 c4096_2 => D_spec_boGood_0 g fuel p0_0 p0_1 p0_2 n v3 c4096_0 c4096_1 c4096_2 Kk) (fun r1 => Kk ⟨[.x (.bool r1)], []⟩) := by
  kernel_rfl
def F_spec_boGood_0 {ρ : Type} (fuel : Nat)   (K : Bool → Option ρ) : Nat → Int → Int → Int → List Int → Option ρ
  | 0, _, _, _, _ => none
  | n + 1, v3, c4096_0, c4096_1, c4096_2 => S_spec_boGood_0  v3 c4096_0 c4096_1 c4096_2 (F_spec_boGood_0 fuel   K n) K
theorem f_spec_boGood_0 {ρ : Type} (fuel : Nat) (p0_0 : Int) (p0_1 : Int) (p0_2 : List Int) (Kk : Out → Option ρ) : ∀ (n : Nat) (v3 : Int) (c4096_0 : Int) (c4096_1 : Int) (c4096_2 : List Int), D_spec_boGood_0 1 fuel p0_0 p0_1 p0_2  n v3 c4096_0 c4096_1 c4096_2 Kk = F_spec_boGood_0 fuel   (fun r1 => Kk ⟨[.x (.bool r1)], []⟩) n v3 c4096_0 c4096_1 c4096_2 := by
  intro n
  induction n with
  | zero => intros; rfl
  | succ n ih =>
    intro v3 c4096_0 c4096_1 c4096_2
    rw [s_spec_boGood_0, F_spec_boGood_0]
    try simp only [ih]
def F_spec_boGood {ρ : Type} (fuel : Nat) (p0_0 : Int) (p0_1 : Int) (p0_2 : List Int)  (K : Bool → Option ρ) : Option ρ := S_spec_boGood_e p0_0 p0_1 p0_2  (F_spec_boGood_0 fuel   K fuel) K
theorem f_spec_boGood {ρ : Type} (fuel : Nat) (p0_0 : Int) (p0_1 : Int) (p0_2 : List Int) (Kk : Out → Option ρ) : runFn TT E_spec_boGood (kp_spec_boGood 1) fuel [.val] 1 false [[]] 52 [.tmp 2] b_spec_boGood [.agg [.int .i64 p0_0, .int .i64 p0_1, .sl (.ints .i64 p0_2)]] Kk = F_spec_boGood fuel p0_0 p0_1 p0_2 (fun r1 => Kk ⟨[.x (.bool r1)], []⟩) := by
  rw [s_spec_boGood_e, F_spec_boGood]
  try simp only [f_spec_boGood_0]
noncomputable def sh_spec_boGood (p0_0 : Int) (p0_1 : Int) (p0_2 : List Int) : Option (Bool) := val fun n => F_spec_boGood n p0_0 p0_1 p0_2 (fun r1 => some r1)
noncomputable def G_spec_boGood {ρ : Type} : List DU → (Out → Option ρ) → Option ρ
  | [.agg [.int .i64 p0_0, .int .i64 p0_1, .sl (.ints .i64 p0_2)]], K => (sh_spec_boGood p0_0 p0_1 p0_2).bind fun r => K ⟨[.x (.bool r)], []⟩
  | _, _ => none
noncomputable def o_spec_boGood : Ora := ⟨[.val], 1, false, G_spec_boGood⟩
def un_spec_boGood : Out → Option (Bool)
  | ⟨[.x (.bool r1)], []⟩ => some r1
  | _ => none
theorem un_spec_boGood_ok {o : Out} {r : Bool} (h : un_spec_boGood o = some r) : o = ⟨[.x (.bool r)], []⟩ := by
  unfold un_spec_boGood at h
  split at h
  · injection h with h
    subst h
    rfl
  · cases h
theorem n_spec_boGood : ∀ k o, E_spec_boGood.fn k = some o → Nat1 o := fun k o h => (ook_list (P := Try.prog) (l := O_spec_boGood) (fk := E_spec_boGood.fk) (List.forall_mem_cons.2 ⟨m_spec_boSize, (List.forall_mem_cons.2 ⟨m_spec_l1All, (List.forall_mem_nil _)⟩)⟩)).nat k o h
theorem u_spec_boGood (fuel : Nat) (p0_0 : Int) (p0_1 : Int) (p0_2 : List Int) : runFn TT E_spec_boGood (kp_spec_boGood 1) fuel [.val] 1 false [[]] 52 [.tmp 2] b_spec_boGood [.agg [.int .i64 p0_0, .int .i64 p0_1, .sl (.ints .i64 p0_2)]] un_spec_boGood = F_spec_boGood fuel p0_0 p0_1 p0_2 (fun r1 => some r1) := f_spec_boGood fuel p0_0 p0_1 p0_2 un_spec_boGood
theorem sh_spec_boGood_of {n : Nat} {p0_0 : Int} {p0_1 : Int} {p0_2 : List Int} {r : Bool} (h : F_spec_boGood n p0_0 p0_1 p0_2 (fun r1 => some r1) = some r) : sh_spec_boGood p0_0 p0_1 p0_2 = some r := val_of (fun n m r hm h => by rw [← u_spec_boGood] at h ⊢; exact runFn_mono n_spec_boGood hm h) h
theorem m_spec_boGood : MeetsO Try.prog 84 o_spec_boGood := by
  refine ⟨fun ρ ds K => ?_, ⟨_, meets_run (kp := kp_spec_boGood 1) (weak := false) (df := [[]]) tsOk (ook_list (l := O_spec_boGood) (fk := E_spec_boGood.fk) (List.forall_mem_cons.2 ⟨m_spec_boSize, (List.forall_mem_cons.2 ⟨m_spec_l1All, (List.forall_mem_nil _)⟩)⟩)) mixed Try.func84 (body := b_spec_boGood) (by kernel_rfl) (ntmps := 52) (by kernel_rfl) (rs := [.tmp 2]) (by kernel_rfl), fun ds out h => ?_⟩, ⟨_, Try.func84, by kernel_rfl, by kernel_rfl⟩⟩
  · show G_spec_boGood ds K = (G_spec_boGood ds some).bind K
    unfold G_spec_boGood
    split
    · cases sh_spec_boGood _ _ _ <;> rfl
    · rfl
  · replace h : G_spec_boGood ds some = some out := h
    unfold G_spec_boGood at h
    split at h
    · obtain ⟨r, hr, h⟩ := Option.bind_eq_some_iff.1 h
      injection h with h
      subst h
      obtain ⟨n, hn⟩ := val_some hr
      replace hn := (u_spec_boGood n _ _ _).trans hn
      rw [runFn_bind (K := un_spec_boGood) (K' := some) (f := un_spec_boGood) n_spec_boGood (fun _ => rfl)] at hn
      obtain ⟨o, h1, h2⟩ := Option.bind_eq_some_iff.1 hn
      rw [un_spec_boGood_ok h2] at h1
      exact ⟨n, h1⟩
    · cases h
/-! f85 loop.example.g01239.spec.boLeaper -/
noncomputable def b_spec_boLeaper : Code := Try.f85.body.getD .skip
def kp_spec_boLeaper (g : Nat) : Nat → Option Keep := lk []
def O_spec_boLeaper : List (FuncId × Ora) := [(66, o_spec_l1In)]
def E_spec_boLeaper : Env := ⟨lk O_spec_boLeaper, fun _ => false⟩
def S_spec_boLeaper_e {ρ : Type} (p0_0 : Int) (p0_1 : Int)   (K : Bool → Option ρ) : Option ρ :=
  ((sh_spec_l1In p0_1 (1 : Int) (5 : Int)).bind fun r1 => (bif r1 then ((sh_spec_l1In p0_0 (0 : Int) p0_1).bind fun r2 => K r2) else K false))
theorem s_spec_boLeaper_e {ρ : Type} (g fuel : Nat) (p0_0 : Int) (p0_1 : Int) (Kk : Out → Option ρ) : runFn TT E_spec_boLeaper (kp_spec_boLeaper g) fuel [.val] 1 false [[]] 13 [.tmp 2] b_spec_boLeaper [.agg [.int .i64 p0_0, .int .i64 p0_1]] Kk = S_spec_boLeaper_e p0_0 p0_1   (fun r1 => Kk ⟨[.x (.bool r1)], []⟩) := by
  kernel_rfl
def F_spec_boLeaper {ρ : Type} (fuel : Nat) (p0_0 : Int) (p0_1 : Int)  (K : Bool → Option ρ) : Option ρ := S_spec_boLeaper_e p0_0 p0_1   K
theorem f_spec_boLeaper {ρ : Type} (fuel : Nat) (p0_0 : Int) (p0_1 : Int) (Kk : Out → Option ρ) : runFn TT E_spec_boLeaper (kp_spec_boLeaper 1) fuel [.val] 1 false [[]] 13 [.tmp 2] b_spec_boLeaper [.agg [.int .i64 p0_0, .int .i64 p0_1]] Kk = F_spec_boLeaper fuel p0_0 p0_1 (fun r1 => Kk ⟨[.x (.bool r1)], []⟩) := by
  rw [s_spec_boLeaper_e, F_spec_boLeaper]
noncomputable def sh_spec_boLeaper (p0_0 : Int) (p0_1 : Int) : Option (Bool) := F_spec_boLeaper 0 p0_0 p0_1 (fun r1 => some r1)
noncomputable def G_spec_boLeaper {ρ : Type} : List DU → (Out → Option ρ) → Option ρ
  | [.agg [.int .i64 p0_0, .int .i64 p0_1]], K => (sh_spec_boLeaper p0_0 p0_1).bind fun r => K ⟨[.x (.bool r)], []⟩
  | _, _ => none
noncomputable def o_spec_boLeaper : Ora := ⟨[.val], 1, false, G_spec_boLeaper⟩
def un_spec_boLeaper : Out → Option (Bool)
  | ⟨[.x (.bool r1)], []⟩ => some r1
  | _ => none
theorem un_spec_boLeaper_ok {o : Out} {r : Bool} (h : un_spec_boLeaper o = some r) : o = ⟨[.x (.bool r)], []⟩ := by
  unfold un_spec_boLeaper at h
  split at h
  · injection h with h
    subst h
    rfl
  · cases h
theorem n_spec_boLeaper : ∀ k o, E_spec_boLeaper.fn k = some o → Nat1 o := fun k o h => (ook_list (P := Try.prog) (l := O_spec_boLeaper) (fk := E_spec_boLeaper.fk) (List.forall_mem_cons.2 ⟨m_spec_l1In, (List.forall_mem_nil _)⟩)).nat k o h
theorem u_spec_boLeaper (fuel : Nat) (p0_0 : Int) (p0_1 : Int) : runFn TT E_spec_boLeaper (kp_spec_boLeaper 1) fuel [.val] 1 false [[]] 13 [.tmp 2] b_spec_boLeaper [.agg [.int .i64 p0_0, .int .i64 p0_1]] un_spec_boLeaper = F_spec_boLeaper fuel p0_0 p0_1 (fun r1 => some r1) := f_spec_boLeaper fuel p0_0 p0_1 un_spec_boLeaper
theorem m_spec_boLeaper : MeetsO Try.prog 85 o_spec_boLeaper := by
  refine ⟨fun ρ ds K => ?_, ⟨_, meets_run (kp := kp_spec_boLeaper 1) (weak := false) (df := [[]]) tsOk (ook_list (l := O_spec_boLeaper) (fk := E_spec_boLeaper.fk) (List.forall_mem_cons.2 ⟨m_spec_l1In, (List.forall_mem_nil _)⟩)) mixed Try.func85 (body := b_spec_boLeaper) (by kernel_rfl) (ntmps := 13) (by kernel_rfl) (rs := [.tmp 2]) (by kernel_rfl), fun ds out h => ?_⟩, ⟨_, Try.func85, by kernel_rfl, by kernel_rfl⟩⟩
  · show G_spec_boLeaper ds K = (G_spec_boLeaper ds some).bind K
    unfold G_spec_boLeaper
    split
    · cases sh_spec_boLeaper _ _ <;> rfl
    · rfl
  · replace h : G_spec_boLeaper ds some = some out := h
    unfold G_spec_boLeaper at h
    split at h
    · obtain ⟨r, hr, h⟩ := Option.bind_eq_some_iff.1 h
      injection h with h
      subst h
      have hn := (u_spec_boLeaper 0 _ _).trans hr
      rw [runFn_bind (K := un_spec_boLeaper) (K' := some) (f := un_spec_boLeaper) n_spec_boLeaper (fun _ => rfl)] at hn
      obtain ⟨o, h1, h2⟩ := Option.bind_eq_some_iff.1 hn
      rw [un_spec_boLeaper_ok h2] at h1
      exact ⟨0, h1⟩
    · cases h
/-! f64 loop.example.g01239.spec.boTwo -/
noncomputable def b_spec_boTwo : Code := Try.f64.body.getD .skip
def kp_spec_boTwo (g : Nat) : Nat → Option Keep := lk []
def O_spec_boTwo : List (FuncId × Ora) := [(84, o_spec_boGood), (85, o_spec_boLeaper)]
def E_spec_boTwo : Env := ⟨lk O_spec_boTwo, fun _ => false⟩
def S_spec_boTwo_e {ρ : Type} (p0_0 : Int) (p0_1 : Int) (p0_2 : List Int) (p1_0 : Int) (p1_1 : Int)   (K : Bool → Option ρ) : Option ρ :=
  ((sh_spec_boGood p0_0 p0_1 p0_2).bind fun r1 => (bif r1 then ((sh_spec_boLeaper p1_0 p1_1).bind fun r2 => K r2) else K false))
theorem s_spec_boTwo_e {ρ : Type} (g fuel : Nat) (p0_0 : Int) (p0_1 : Int) (p0_2 : List Int) (p1_0 : Int) (p1_1 : Int) (Kk : Out → Option ρ) : runFn TT E_spec_boTwo (kp_spec_boTwo g) fuel [.val, .val] 2 false [[]] 11 [.tmp 4] b_spec_boTwo [.agg [.int .i64 p0_0, .int .i64 p0_1, .sl (.ints .i64 p0_2)], .agg [.int .i64 p1_0, .int .i64 p1_1]] Kk = S_spec_boTwo_e p0_0 p0_1 p0_2 p1_0 p1_1   (fun r1 => Kk ⟨[.x (.bool r1)], []⟩) := by
  kernel_rfl
def F_spec_boTwo {ρ : Type} (fuel : Nat) (p0_0 : Int) (p0_1 : Int) (p0_2 : List Int) (p1_0 : Int) (p1_1 : Int)  (K : Bool → Option ρ) : Option ρ := S_spec_boTwo_e p0_0 p0_1 p0_2 p1_0 p1_1   K
theorem f_spec_boTwo {ρ : Type} (fuel : Nat) (p0_0 : Int) (p0_1 : Int) (p0_2 : List Int) (p1_0 : Int) (p1_1 : Int) (Kk : Out → Option ρ) : runFn TT E_spec_boTwo (kp_spec_boTwo 1) fuel [.val, .val] 2 false [[]] 11 [.tmp 4] b_spec_boTwo [.agg [.int .i64 p0_0, .int .i64 p0_1, .sl (.ints .i64 p0_2)], .agg [.int .i64 p1_0, .int .i64 p1_1]] Kk = F_spec_boTwo fuel p0_0 p0_1 p0_2 p1_0 p1_1 (fun r1 => Kk ⟨[.x (.bool r1)], []⟩) := by
  rw [s_spec_boTwo_e, F_spec_boTwo]
noncomputable def sh_spec_boTwo (p0_0 : Int) (p0_1 : Int) (p0_2 : List Int) (p1_0 : Int) (p1_1 : Int) : Option (Bool) := F_spec_boTwo 0 p0_0 p0_1 p0_2 p1_0 p1_1 (fun r1 => some r1)
noncomputable def G_spec_boTwo {ρ : Type} : List DU → (Out → Option ρ) → Option ρ
  | [.agg [.int .i64 p0_0, .int .i64 p0_1, .sl (.ints .i64 p0_2)], .agg [.int .i64 p1_0, .int .i64 p1_1]], K => (sh_spec_boTwo p0_0 p0_1 p0_2 p1_0 p1_1).bind fun r => K ⟨[.x (.bool r)], []⟩
  | _, _ => none
noncomputable def o_spec_boTwo : Ora := ⟨[.val, .val], 2, false, G_spec_boTwo⟩
def un_spec_boTwo : Out → Option (Bool)
  | ⟨[.x (.bool r1)], []⟩ => some r1
  | _ => none
theorem un_spec_boTwo_ok {o : Out} {r : Bool} (h : un_spec_boTwo o = some r) : o = ⟨[.x (.bool r)], []⟩ := by
  unfold un_spec_boTwo at h
  split at h
  · injection h with h
    subst h
    rfl
  · cases h
theorem n_spec_boTwo : ∀ k o, E_spec_boTwo.fn k = some o → Nat1 o := fun k o h => (ook_list (P := Try.prog) (l := O_spec_boTwo) (fk := E_spec_boTwo.fk) (List.forall_mem_cons.2 ⟨m_spec_boGood, (List.forall_mem_cons.2 ⟨m_spec_boLeaper, (List.forall_mem_nil _)⟩)⟩)).nat k o h
theorem u_spec_boTwo (fuel : Nat) (p0_0 : Int) (p0_1 : Int) (p0_2 : List Int) (p1_0 : Int) (p1_1 : Int) : runFn TT E_spec_boTwo (kp_spec_boTwo 1) fuel [.val, .val] 2 false [[]] 11 [.tmp 4] b_spec_boTwo [.agg [.int .i64 p0_0, .int .i64 p0_1, .sl (.ints .i64 p0_2)], .agg [.int .i64 p1_0, .int .i64 p1_1]] un_spec_boTwo = F_spec_boTwo fuel p0_0 p0_1 p0_2 p1_0 p1_1 (fun r1 => some r1) := f_spec_boTwo fuel p0_0 p0_1 p0_2 p1_0 p1_1 un_spec_boTwo
theorem m_spec_boTwo : MeetsO Try.prog 64 o_spec_boTwo := by
  refine ⟨fun ρ ds K => ?_, ⟨_, meets_run (kp := kp_spec_boTwo 1) (weak := false) (df := [[]]) tsOk (ook_list (l := O_spec_boTwo) (fk := E_spec_boTwo.fk) (List.forall_mem_cons.2 ⟨m_spec_boGood, (List.forall_mem_cons.2 ⟨m_spec_boLeaper, (List.forall_mem_nil _)⟩)⟩)) mixed Try.func64 (body := b_spec_boTwo) (by kernel_rfl) (ntmps := 11) (by kernel_rfl) (rs := [.tmp 4]) (by kernel_rfl), fun ds out h => ?_⟩, ⟨_, Try.func64, by kernel_rfl, by kernel_rfl⟩⟩
  · show G_spec_boTwo ds K = (G_spec_boTwo ds some).bind K
    unfold G_spec_boTwo
    split
    · cases sh_spec_boTwo _ _ _ _ _ <;> rfl
    · rfl
  · replace h : G_spec_boTwo ds some = some out := h
    unfold G_spec_boTwo at h
    split at h
    · obtain ⟨r, hr, h⟩ := Option.bind_eq_some_iff.1 h
      injection h with h
      subst h
      have hn := (u_spec_boTwo 0 _ _ _ _ _).trans hr
      rw [runFn_bind (K := un_spec_boTwo) (K' := some) (f := un_spec_boTwo) n_spec_boTwo (fun _ => rfl)] at hn
      obtain ⟨o, h1, h2⟩ := Option.bind_eq_some_iff.1 hn
      rw [un_spec_boTwo_ok h2] at h1
      exact ⟨0, h1⟩
    · cases h
/-! f91 loop.example.g01239.spec.l1Has -/
noncomputable def b_spec_l1Has : Code := Try.f91.body.getD .skip
def kp_spec_l1Has (g : Nat) : Nat → Option Keep := lk [(2, ⟨[], [1, 7, 8, 9], [], [], [], g⟩)]
def O_spec_l1Has : List (FuncId × Ora) := []
def E_spec_l1Has : Env := ⟨lk O_spec_l1Has, fun _ => false⟩
noncomputable def D_spec_l1Has_0 {ρ : Type} (g fuel : Nat) (p0 : List Int) (p1 : Int) (n : Nat) (v1 : Int) (v7 : List Int) (v8 : Int) (v9 : Int) (Kk : Out → Option ρ) : Option ρ :=
  iter (run TT E_spec_l1Has (kp_spec_l1Has g) fuel (cL (cB (cS2 (cS1 (cS2 (b_spec_l1Has))))))) (nrmAt (kp_spec_l1Has g) (firstRid (cL (cB (cS2 (cS1 (cS2 (b_spec_l1Has)))))))) n (⟨[uu, .u (.x (.int .i64 v1)), uu, uu, uu, uu, uu, .u (.x (.ro (.ints .i64 v7))), .u (.x (.int .i64 v8)), .u (.x (.int .i64 v9)), uu, uu, uu, uu, uu, uu, uu], [], [], []⟩) (blkK 0 (seqK (gateAt (kp_spec_l1Has g) (200000 + firstRid (cS2 (cS2 (b_spec_l1Has))))) (run TT E_spec_l1Has (kp_spec_l1Has g) fuel (cS2 (cS2 (b_spec_l1Has)))) (nrmAt (kp_spec_l1Has g) (200000 + firstRid (cS2 (cS2 (b_spec_l1Has))))) (topK TT [.val, .val] false [[]] [.tmp 4] [.x (.sl (.ints .i64 p0)), .x (.int .i64 p1)] Kk)))
def S_spec_l1Has_e {ρ : Type} (p0 : List Int) (p1 : Int)  (k0 : (Int → List Int → Int → Int → Option ρ)) : Option ρ :=
  k0 p1 p0 (p0.length : Int) (0 : Int)
theorem s_spec_l1Has_e {ρ : Type} (g fuel : Nat) (p0 : List Int) (p1 : Int) (Kk : Out → Option ρ) : runFn TT E_spec_l1Has (kp_spec_l1Has g) fuel [.val, .val] 2 false [[]] 17 [.tmp 4] b_spec_l1Has [.x (.sl (.ints .i64 p0)), .x (.int .i64 p1)] Kk = S_spec_l1Has_e p0 p1  (fun v1 v7 v8 v9 => D_spec_l1Has_0 g fuel p0 p1 fuel v1 v7 v8 v9 Kk) := by
  kernel_rfl
def S_spec_l1Has_0 {ρ : Type}  (v1 : Int) (v7 : List Int) (v8 : Int) (v9 : Int) (b0 : (Int → List Int → Int → Int → Option ρ)) (K : Bool → Option ρ) : Option ρ :=
  (bif decide (v9 < v8) then (if 0 ≤ v9 then (if v9 < (v7.length : Int) then (bif decide ((v7.getD v9.toNat 0) = v1) then K true else b0 v1 v7 v8 (IntKind.i64.wrap (v9 + (1 : Int)))) else none) else none) else K false)
theorem s_spec_l1Has_0 {ρ : Type} (g fuel : Nat) (p0 : List Int) (p1 : Int) (n : Nat) (v1 : Int) (v7 : List Int) (v8 : Int) (v9 : Int) (Kk : Out → Option ρ) : D_spec_l1Has_0 g fuel p0 p1  (n + 1) v1 v7 v8 v9 Kk = S_spec_l1Has_0  v1 v7 v8 v9 (fun v1 v7 v8 v9 => D_spec_l1Has_0 g fuel p0 p1 n v1 v7 v8 v9 Kk) (fun r1 => Kk ⟨[.x (.bool r1)], []⟩) := by
  kernel_rfl
def F_spec_l1Has_0 {ρ : Type} (fuel : Nat)   (K : Bool → Option ρ) : Nat → Int → List Int → Int → Int → Option ρ
  | 0, _, _, _, _ => none
  | n + 1, v1, v7, v8, v9 => S_spec_l1Has_0  v1 v7 v8 v9 (F_spec_l1Has_0 fuel   K n) K
theorem f_spec_l1Has_0 {ρ : Type} (fuel : Nat) (p0 : List Int) (p1 : Int) (Kk : Out → Option ρ) : ∀ (n : Nat) (v1 : Int) (v7 : List Int) (v8 : Int) (v9 : Int), D_spec_l1Has_0 1 fuel p0 p1  n v1 v7 v8 v9 Kk = F_spec_l1Has_0 fuel   (fun r1 => Kk ⟨[.x (.bool r1)], []⟩) n v1 v7 v8 v9 := by
  intro n
  induction n with
  | zero => intros; rfl
  | succ n ih =>
    intro v1 v7 v8 v9
    rw [s_spec_l1Has_0, F_spec_l1Has_0]
    try simp only [ih]
def F_spec_l1Has {ρ : Type} (fuel : Nat) (p0 : List Int) (p1 : Int)  (K : Bool → Option ρ) : Option ρ := S_spec_l1Has_e p0 p1  (F_spec_l1Has_0 fuel   K fuel)
theorem f_spec_l1Has {ρ : Type} (fuel : Nat) (p0 : List Int) (p1 : Int) (Kk : Out → Option ρ) : runFn TT E_spec_l1Has (kp_spec_l1Has 1) fuel [.val, .val] 2 false [[]] 17 [.tmp 4] b_spec_l1Has [.x (.sl (.ints .i64 p0)), .x (.int .i64 p1)] Kk = F_spec_l1Has fuel p0 p1 (fun r1 => Kk ⟨[.x (.bool r1)], []⟩) := by
  rw [s_spec_l1Has_e, F_spec_l1Has]
  try simp only [f_spec_l1Has_0]
noncomputable def sh_spec_l1Has (p0 : List Int) (p1 : Int) : Option (Bool) := val fun n => F_spec_l1Has n p0 p1 (fun r1 => some r1)
noncomputable def G_spec_l1Has {ρ : Type} : List DU → (Out → Option ρ) → Option ρ
  | [.x (.sl (.ints .i64 p0)), .x (.int .i64 p1)], K => (sh_spec_l1Has p0 p1).bind fun r => K ⟨[.x (.bool r)], []⟩
  | _, _ => none
noncomputable def o_spec_l1Has : Ora := ⟨[.val, .val], 2, false, G_spec_l1Has⟩
def un_spec_l1Has : Out → Option (Bool)
  | ⟨[.x (.bool r1)], []⟩ => some r1
  | _ => none
theorem un_spec_l1Has_ok {o : Out} {r : Bool} (h : un_spec_l1Has o = some r) : o = ⟨[.x (.bool r)], []⟩ := by
  unfold un_spec_l1Has at h
  split at h
  · injection h with h
    subst h
    rfl
  · cases h
theorem n_spec_l1Has : ∀ k o, E_spec_l1Has.fn k = some o → Nat1 o := fun k o h => (ook_list (P := Try.prog) (l := O_spec_l1Has) (fk := E_spec_l1Has.fk) (List.forall_mem_nil _)).nat k o h
theorem u_spec_l1Has (fuel : Nat) (p0 : List Int) (p1 : Int) : runFn TT E_spec_l1Has (kp_spec_l1Has 1) fuel [.val, .val] 2 false [[]] 17 [.tmp 4] b_spec_l1Has [.x (.sl (.ints .i64 p0)), .x (.int .i64 p1)] un_spec_l1Has = F_spec_l1Has fuel p0 p1 (fun r1 => some r1) := f_spec_l1Has fuel p0 p1 un_spec_l1Has
theorem sh_spec_l1Has_of {n : Nat} {p0 : List Int} {p1 : Int} {r : Bool} (h : F_spec_l1Has n p0 p1 (fun r1 => some r1) = some r) : sh_spec_l1Has p0 p1 = some r := val_of (fun n m r hm h => by rw [← u_spec_l1Has] at h ⊢; exact runFn_mono n_spec_l1Has hm h) h
theorem m_spec_l1Has : MeetsO Try.prog 91 o_spec_l1Has := by
  refine ⟨fun ρ ds K => ?_, ⟨_, meets_run (kp := kp_spec_l1Has 1) (weak := false) (df := [[]]) tsOk (ook_list (l := O_spec_l1Has) (fk := E_spec_l1Has.fk) (List.forall_mem_nil _)) mixed Try.func91 (body := b_spec_l1Has) (by kernel_rfl) (ntmps := 17) (by kernel_rfl) (rs := [.tmp 4]) (by kernel_rfl), fun ds out h => ?_⟩, ⟨_, Try.func91, by kernel_rfl, by kernel_rfl⟩⟩
  · show G_spec_l1Has ds K = (G_spec_l1Has ds some).bind K
    unfold G_spec_l1Has
    split
    · cases sh_spec_l1Has _ _ <;> rfl
    · rfl
  · replace h : G_spec_l1Has ds some = some out := h
    unfold G_spec_l1Has at h
    split at h
    · obtain ⟨r, hr, h⟩ := Option.bind_eq_some_iff.1 h
      injection h with h
      subst h
      obtain ⟨n, hn⟩ := val_some hr
      replace hn := (u_spec_l1Has n _ _).trans hn
      rw [runFn_bind (K := un_spec_l1Has) (K' := some) (f := un_spec_l1Has) n_spec_l1Has (fun _ => rfl)] at hn
      obtain ⟨o, h1, h2⟩ := Option.bind_eq_some_iff.1 hn
      rw [un_spec_l1Has_ok h2] at h1
      exact ⟨n, h1⟩
    · cases h
/-! f77 loop.example.g01239.spec.boHas -/
noncomputable def b_spec_boHas : Code := Try.f77.body.getD .skip
def kp_spec_boHas (g : Nat) : Nat → Option Keep := lk []
def O_spec_boHas : List (FuncId × Ora) := [(66, o_spec_l1In), (91, o_spec_l1Has)]
def E_spec_boHas : Env := ⟨lk O_spec_boHas, fun _ => false⟩
def S_spec_boHas_e {ρ : Type} (p0_0 : Int) (p0_1 : Int) (p0_2 : List Int) (p1 : Int)   (K : Bool → Option ρ) : Option ρ :=
  ((sh_spec_l1In p1 (0 : Int) (IntKind.i64.wrap ((IntKind.i64.wrap (p0_0 * p0_1)) - (1 : Int)))).bind fun r1 => (bif r1 then ((sh_spec_l1Has p0_2 p1).bind fun r2 => K !r2) else K false))
theorem s_spec_boHas_e {ρ : Type} (g fuel : Nat) (p0_0 : Int) (p0_1 : Int) (p0_2 : List Int) (p1 : Int) (Kk : Out → Option ρ) : runFn TT E_spec_boHas (kp_spec_boHas g) fuel [.val, .val] 2 false [[]] 20 [.tmp 4] b_spec_boHas [.agg [.int .i64 p0_0, .int .i64 p0_1, .sl (.ints .i64 p0_2)], .x (.int .i64 p1)] Kk = S_spec_boHas_e p0_0 p0_1 p0_2 p1   (fun r1 => Kk ⟨[.x (.bool r1)], []⟩) := by
  kernel_rfl
def F_spec_boHas {ρ : Type} (fuel : Nat) (p0_0 : Int) (p0_1 : Int) (p0_2 : List Int) (p1 : Int)  (K : Bool → Option ρ) : Option ρ := S_spec_boHas_e p0_0 p0_1 p0_2 p1   K
theorem f_spec_boHas {ρ : Type} (fuel : Nat) (p0_0 : Int) (p0_1 : Int) (p0_2 : List Int) (p1 : Int) (Kk : Out → Option ρ) : runFn TT E_spec_boHas (kp_spec_boHas 1) fuel [.val, .val] 2 false [[]] 20 [.tmp 4] b_spec_boHas [.agg [.int .i64 p0_0, .int .i64 p0_1, .sl (.ints .i64 p0_2)], .x (.int .i64 p1)] Kk = F_spec_boHas fuel p0_0 p0_1 p0_2 p1 (fun r1 => Kk ⟨[.x (.bool r1)], []⟩) := by
  rw [s_spec_boHas_e, F_spec_boHas]
noncomputable def sh_spec_boHas (p0_0 : Int) (p0_1 : Int) (p0_2 : List Int) (p1 : Int) : Option (Bool) := F_spec_boHas 0 p0_0 p0_1 p0_2 p1 (fun r1 => some r1)
noncomputable def G_spec_boHas {ρ : Type} : List DU → (Out → Option ρ) → Option ρ
  | [.agg [.int .i64 p0_0, .int .i64 p0_1, .sl (.ints .i64 p0_2)], .x (.int .i64 p1)], K => (sh_spec_boHas p0_0 p0_1 p0_2 p1).bind fun r => K ⟨[.x (.bool r)], []⟩
  | _, _ => none
noncomputable def o_spec_boHas : Ora := ⟨[.val, .val], 2, false, G_spec_boHas⟩
def un_spec_boHas : Out → Option (Bool)
  | ⟨[.x (.bool r1)], []⟩ => some r1
  | _ => none
theorem un_spec_boHas_ok {o : Out} {r : Bool} (h : un_spec_boHas o = some r) : o = ⟨[.x (.bool r)], []⟩ := by
  unfold un_spec_boHas at h
  split at h
  · injection h with h
    subst h
    rfl
  · cases h
theorem n_spec_boHas : ∀ k o, E_spec_boHas.fn k = some o → Nat1 o := fun k o h => (ook_list (P := Try.prog) (l := O_spec_boHas) (fk := E_spec_boHas.fk) (List.forall_mem_cons.2 ⟨m_spec_l1In, (List.forall_mem_cons.2 ⟨m_spec_l1Has, (List.forall_mem_nil _)⟩)⟩)).nat k o h
theorem u_spec_boHas (fuel : Nat) (p0_0 : Int) (p0_1 : Int) (p0_2 : List Int) (p1 : Int) : runFn TT E_spec_boHas (kp_spec_boHas 1) fuel [.val, .val] 2 false [[]] 20 [.tmp 4] b_spec_boHas [.agg [.int .i64 p0_0, .int .i64 p0_1, .sl (.ints .i64 p0_2)], .x (.int .i64 p1)] un_spec_boHas = F_spec_boHas fuel p0_0 p0_1 p0_2 p1 (fun r1 => some r1) := f_spec_boHas fuel p0_0 p0_1 p0_2 p1 un_spec_boHas
theorem m_spec_boHas : MeetsO Try.prog 77 o_spec_boHas := by
  refine ⟨fun ρ ds K => ?_, ⟨_, meets_run (kp := kp_spec_boHas 1) (weak := false) (df := [[]]) tsOk (ook_list (l := O_spec_boHas) (fk := E_spec_boHas.fk) (List.forall_mem_cons.2 ⟨m_spec_l1In, (List.forall_mem_cons.2 ⟨m_spec_l1Has, (List.forall_mem_nil _)⟩)⟩)) mixed Try.func77 (body := b_spec_boHas) (by kernel_rfl) (ntmps := 20) (by kernel_rfl) (rs := [.tmp 4]) (by kernel_rfl), fun ds out h => ?_⟩, ⟨_, Try.func77, by kernel_rfl, by kernel_rfl⟩⟩
  · show G_spec_boHas ds K = (G_spec_boHas ds some).bind K
    unfold G_spec_boHas
    split
    · cases sh_spec_boHas _ _ _ _ <;> rfl
    · rfl
  · replace h : G_spec_boHas ds some = some out := h
    unfold G_spec_boHas at h
    split at h
    · obtain ⟨r, hr, h⟩ := Option.bind_eq_some_iff.1 h
      injection h with h
      subst h
      have hn := (u_spec_boHas 0 _ _ _ _).trans hr
      rw [runFn_bind (K := un_spec_boHas) (K' := some) (f := un_spec_boHas) n_spec_boHas (fun _ => rfl)] at hn
      obtain ⟨o, h1, h2⟩ := Option.bind_eq_some_iff.1 hn
      rw [un_spec_boHas_ok h2] at h1
      exact ⟨0, h1⟩
    · cases h
/-! f56 loop.example.g01239.spec.boCells -/
noncomputable def b_spec_boCells : Code := Try.f56.body.getD .skip
def kp_spec_boCells (g : Nat) : Nat → Option Keep := lk [(3, ⟨[], [1, 3, 4], [4096], [(3, 16400000)], [], g⟩), (200004, ⟨[], [1, 3, 4], [4096], [(3, 16400064)], [], g⟩)]
def O_spec_boCells : List (FuncId × Ora) := [(77, o_spec_boHas)]
def E_spec_boCells : Env := ⟨lk O_spec_boCells, fun _ => false⟩
noncomputable def D_spec_boCells_0 {ρ : Type} (g fuel : Nat) (p0_0 : Int) (p0_1 : Int) (p0_2 : List Int) (n : Nat) (v3 : List Int) (v4 : Int) (c4096_0 : Int) (c4096_1 : Int) (c4096_2 : List Int) (Kk : Out → Option ρ) : Option ρ :=
  iter (run TT E_spec_boCells (kp_spec_boCells g) fuel (cL (cB (cS2 (cS1 (cS2 (cS2 (b_spec_boCells)))))))) (nrmAt (kp_spec_boCells g) (firstRid (cL (cB (cS2 (cS1 (cS2 (cS2 (b_spec_boCells))))))))) n (⟨[uu, .u (.x (.ptr 4096 0)), uu, .u (.x (.own 16400000 (.ints .i64 v3))), .u (.x (.int .i64 v4)), uu, uu, uu, uu, uu, uu, uu, uu, uu, uu, uu, uu, uu, uu, uu, uu, uu], [(4096, [.int .i64 c4096_0, .int .i64 c4096_1, .ro (.ints .i64 c4096_2)])], [], []⟩) (blkK 0 (seqK (gateAt (kp_spec_boCells g) (200000 + firstRid (cS2 (cS2 (cS2 (b_spec_boCells)))))) (run TT E_spec_boCells (kp_spec_boCells g) fuel (cS2 (cS2 (cS2 (b_spec_boCells))))) (nrmAt (kp_spec_boCells g) (200000 + firstRid (cS2 (cS2 (cS2 (b_spec_boCells)))))) (topK TT [.val] false [[]] [.tmp 2] [.agg [.int .i64 p0_0, .int .i64 p0_1, .sl (.ints .i64 p0_2)]] Kk)))
noncomputable def B_spec_boCells_1 {ρ : Type} (g fuel : Nat) (p0_0 : Int) (p0_1 : Int) (p0_2 : List Int) (n0 : Nat) (v3 : List Int) (v4 : Int) (c4096_0 : Int) (c4096_1 : Int) (c4096_2 : List Int) (Kk : Out → Option ρ) : Option ρ :=
  run TT E_spec_boCells (kp_spec_boCells g) fuel (cS2 (cS2 (cL (cB (cS2 (cS1 (cS2 (cS2 (b_spec_boCells))))))))) (⟨[uu, .u (.x (.ptr 4096 0)), uu, .u (.x (.own 16400064 (.ints .i64 v3))), .u (.x (.int .i64 v4)), uu, uu, uu, uu, uu, uu, uu, uu, uu, uu, uu, uu, uu, uu, uu, uu, uu], [(4096, [.int .i64 c4096_0, .int .i64 c4096_1, .ro (.ints .i64 c4096_2)])], [], []⟩) (itK (run TT E_spec_boCells (kp_spec_boCells g) fuel (cL (cB (cS2 (cS1 (cS2 (cS2 (b_spec_boCells)))))))) (nrmAt (kp_spec_boCells g) (firstRid (cL (cB (cS2 (cS1 (cS2 (cS2 (b_spec_boCells))))))))) n0 (blkK 0 (seqK (gateAt (kp_spec_boCells g) (200000 + firstRid (cS2 (cS2 (cS2 (b_spec_boCells)))))) (run TT E_spec_boCells (kp_spec_boCells g) fuel (cS2 (cS2 (cS2 (b_spec_boCells))))) (nrmAt (kp_spec_boCells g) (200000 + firstRid (cS2 (cS2 (cS2 (b_spec_boCells)))))) (topK TT [.val] false [[]] [.tmp 2] [.agg [.int .i64 p0_0, .int .i64 p0_1, .sl (.ints .i64 p0_2)]] Kk))))
noncomputable def D_spec_boCells_1 {ρ : Type} (g fuel : Nat) (p0_0 : Int) (p0_1 : Int) (p0_2 : List Int) (n0 : Nat) (v3 : List Int) (v4 : Int) (c4096_0 : Int) (c4096_1 : Int) (c4096_2 : List Int) (Kk : Out → Option ρ) : Option ρ := gate g (B_spec_boCells_1 g fuel p0_0 p0_1 p0_2 n0 v3 v4 c4096_0 c4096_1 c4096_2 Kk)
def S_spec_boCells_e {ρ : Type} (p0_0 : Int) (p0_1 : Int) (p0_2 : List Int)  (k0 : (List Int → Int → Int → Int → List Int → Option ρ)) : Option ρ :=
  k0 [] (0 : Int) p0_0 p0_1 p0_2
theorem s_spec_boCells_e {ρ : Type} (g fuel : Nat) (p0_0 : Int) (p0_1 : Int) (p0_2 : List Int) (Kk : Out → Option ρ) : runFn TT E_spec_boCells (kp_spec_boCells g) fuel [.val] 1 false [[]] 22 [.tmp 2] b_spec_boCells [.agg [.int .i64 p0_0, .int .i64 p0_1, .sl (.ints .i64 p0_2)]] Kk = S_spec_boCells_e p0_0 p0_1 p0_2  (fun v3 v4 c4096_0 c4096_1 c4096_2 => D_spec_boCells_0 g fuel p0_0 p0_1 p0_2 fuel v3 v4 c4096_0 c4096_1 c4096_2 Kk) := by
  kernel_rfl
def S_spec_boCells_0 {ρ : Type}  (v3 : List Int) (v4 : Int) (c4096_0 : Int) (c4096_1 : Int) (c4096_2 : List Int) (k1 : (List Int → Int → Int → Int → List Int → Option ρ)) (K : List Int → Option ρ) : Option ρ :=
  (bif decide (v4 < (IntKind.i64.wrap (c4096_0 * c4096_1))) then ((sh_spec_boHas c4096_0 c4096_1 c4096_2 v4).bind fun r1 => (bif r1 then (if (v3 ++ [v4]).length ≤ 1099511627776 then k1 (v3 ++ [v4]) v4 c4096_0 c4096_1 c4096_2 else none) else k1 v3 v4 c4096_0 c4096_1 c4096_2)) else K v3)
theorem s_spec_boCells_0 {ρ : Type} (g fuel : Nat) (p0_0 : Int) (p0_1 : Int) (p0_2 : List Int) (n : Nat) (v3 : List Int) (v4 : Int) (c4096_0 : Int) (c4096_1 : Int) (c4096_2 : List Int) (Kk : Out → Option ρ) : D_spec_boCells_0 g fuel p0_0 p0_1 p0_2  (n + 1) v3 v4 c4096_0 c4096_1 c4096_2 Kk = S_spec_boCells_0  v3 v4 c4096_0 c4096_1 c4096_2 (fun v3 v4 c4096_0 c4096_1 c4096_2 => D_spec_boCells_1 g fuel p0_0 p0_1 p0_2 n v3 v4 c4096_0 c4096_1 c4096_2 Kk) (fun r1 => Kk ⟨[.x (.sl (.ints .i64 r1))], []⟩) := by
  kernel_rfl
def S_spec_boCells_1 {ρ : Type}  (v3 : List Int) (v4 : Int) (c4096_0 : Int) (c4096_1 : Int) (c4096_2 : List Int) (b0 : (List Int → Int → Int → Int → List Int → Option ρ)) : Option ρ :=
  b0 v3 (IntKind.i64.wrap (v4 + (1 : Int))) c4096_0 c4096_1 c4096_2
theorem s_spec_boCells_1 {ρ : Type} (g fuel : Nat) (p0_0 : Int) (p0_1 : Int) (p0_2 : List Int) (n0 : Nat) (v3 : List Int) (v4 : Int) (c4096_0 : Int) (c4096_1 : Int) (c4096_2 : List Int) (Kk : Out → Option ρ) : B_spec_boCells_1 g fuel p0_0 p0_1 p0_2 n0 v3 v4 c4096_0 c4096_1 c4096_2 Kk = S_spec_boCells_1  v3 v4 c4096_0 c4096_1 c4096_2 (fun v3 v4 c4096_0 c4096_1 c4096_2 => D_spec_boCells_0 g fuel p0_0 p0_1 p0_2 n0 v3 v4 c4096_0 c4096_1 c4096_2 Kk) := by
  kernel_rfl
def F_spec_boCells_1 {ρ : Type} (fuel : Nat)  (b0 : (List Int → Int → Int → Int → List Int → Option ρ)) (K : List Int → Option ρ) (v3 : List Int) (v4 : Int) (c4096_0 : Int) (c4096_1 : Int) (c4096_2 : List Int) : Option ρ := S_spec_boCells_1  v3 v4 c4096_0 c4096_1 c4096_2 b0
theorem f_spec_boCells_1 {ρ : Type} (fuel : Nat) (p0_0 : Int) (p0_1 : Int) (p0_2 : List Int) (n0 : Nat) (v3 : List Int) (v4 : Int) (c4096_0 : Int) (c4096_1 : Int) (c4096_2 : List Int) (Kk : Out → Option ρ) : D_spec_boCells_1 1 fuel p0_0 p0_1 p0_2 n0 v3 v4 c4096_0 c4096_1 c4096_2 Kk = F_spec_boCells_1 fuel  (fun v3 v4 c4096_0 c4096_1 c4096_2 => D_spec_boCells_0 1 fuel p0_0 p0_1 p0_2 n0 v3 v4 c4096_0 c4096_1 c4096_2 Kk) (fun r1 => Kk ⟨[.x (.sl (.ints .i64 r1))], []⟩) v3 v4 c4096_0 c4096_1 c4096_2 := by
  rw [D_spec_boCells_1, gate_one, s_spec_boCells_1, F_spec_boCells_1]
def F_spec_boCells_0 {ρ : Type} (fuel : Nat)   (K : List Int → Option ρ) : Nat → List Int → Int → Int → Int → List Int → Option ρ
  | 0, _, _, _, _, _ => none
  | n + 1, v3, v4, c4096_0, c4096_1, c4096_2 => S_spec_boCells_0  v3 v4 c4096_0 c4096_1 c4096_2 (F_spec_boCells_1 fuel  (F_spec_boCells_0 fuel   K n) K) K
theorem f_spec_boCells_0 {ρ : Type} (fuel : Nat) (p0_0 : Int) (p0_1 : Int) (p0_2 : List Int) (Kk : Out → Option ρ) : ∀ (n : Nat) (v3 : List Int) (v4 : Int) (c4096_0 : Int) (c4096_1 : Int) (c4096_2 : List Int), D_spec_boCells_0 1 fuel p0_0 p0_1 p0_2  n v3 v4 c4096_0 c4096_1 c4096_2 Kk = F_spec_boCells_0 fuel   (fun r1 => Kk ⟨[.x (.sl (.ints .i64 r1))], []⟩) n v3 v4 c4096_0 c4096_1 c4096_2 := by
  intro n
  induction n with
  | zero => intros; rfl
  | succ n ih =>
    intro v3 v4 c4096_0 c4096_1 c4096_2
    rw [s_spec_boCells_0, F_spec_boCells_0]
    try simp only [ih, f_spec_boCells_1]
def F_spec_boCells {ρ : Type} (fuel : Nat) (p0_0 : Int) (p0_1 : Int) (p0_2 : List Int)  (K : List Int → Option ρ) : Option ρ := S_spec_boCells_e p0_0 p0_1 p0_2  (F_spec_boCells_0 fuel   K fuel)
theorem f_spec_boCells {ρ : Type} (fuel : Nat) (p0_0 : Int) (p0_1 : Int) (p0_2 : List Int) (Kk : Out → Option ρ) : runFn TT E_spec_boCells (kp_spec_boCells 1) fuel [.val] 1 false [[]] 22 [.tmp 2] b_spec_boCells [.agg [.int .i64 p0_0, .int .i64 p0_1, .sl (.ints .i64 p0_2)]] Kk = F_spec_boCells fuel p0_0 p0_1 p0_2 (fun r1 => Kk ⟨[.x (.sl (.ints .i64 r1))], []⟩) := by
  rw [s_spec_boCells_e, F_spec_boCells]
  try simp only [f_spec_boCells_1, f_spec_boCells_0]
noncomputable def sh_spec_boCells (p0_0 : Int) (p0_1 : Int) (p0_2 : List Int) : Option (List Int) := val fun n => F_spec_boCells n p0_0 p0_1 p0_2 (fun r1 => some r1)
noncomputable def G_spec_boCells {ρ : Type} : List DU → (Out → Option ρ) → Option ρ
  | [.agg [.int .i64 p0_0, .int .i64 p0_1, .sl (.ints .i64 p0_2)]], K => (sh_spec_boCells p0_0 p0_1 p0_2).bind fun r => K ⟨[.x (.sl (.ints .i64 r))], []⟩
  | _, _ => none
noncomputable def o_spec_boCells : Ora := ⟨[.val], 1, false, G_spec_boCells⟩
def un_spec_boCells : Out → Option (List Int)
  | ⟨[.x (.sl (.ints .i64 r1))], []⟩ => some r1
  | _ => none
theorem un_spec_boCells_ok {o : Out} {r : List Int} (h : un_spec_boCells o = some r) : o = ⟨[.x (.sl (.ints .i64 r))], []⟩ := by
  unfold un_spec_boCells at h
  split at h
  · injection h with h
    subst h
    rfl
  · cases h
theorem n_spec_boCells : ∀ k o, E_spec_boCells.fn k = some o → Nat1 o := fun k o h => (ook_list (P := Try.prog) (l := O_spec_boCells) (fk := E_spec_boCells.fk) (List.forall_mem_cons.2 ⟨m_spec_boHas, (List.forall_mem_nil _)⟩)).nat k o h
theorem u_spec_boCells (fuel : Nat) (p0_0 : Int) (p0_1 : Int) (p0_2 : List Int) : runFn TT E_spec_boCells (kp_spec_boCells 1) fuel [.val] 1 false [[]] 22 [.tmp 2] b_spec_boCells [.agg [.int .i64 p0_0, .int .i64 p0_1, .sl (.ints .i64 p0_2)]] un_spec_boCells = F_spec_boCells fuel p0_0 p0_1 p0_2 (fun r1 => some r1) := f_spec_boCells fuel p0_0 p0_1 p0_2 un_spec_boCells
theorem sh_spec_boCells_of {n : Nat} {p0_0 : Int} {p0_1 : Int} {p0_2 : List Int} {r : List Int} (h : F_spec_boCells n p0_0 p0_1 p0_2 (fun r1 => some r1) = some r) : sh_spec_boCells p0_0 p0_1 p0_2 = some r := val_of (fun n m r hm h => by rw [← u_spec_boCells] at h ⊢; exact runFn_mono n_spec_boCells hm h) h
theorem m_spec_boCells : MeetsO Try.prog 56 o_spec_boCells := by
  refine ⟨fun ρ ds K => ?_, ⟨_, meets_run (kp := kp_spec_boCells 1) (weak := false) (df := [[]]) tsOk (ook_list (l := O_spec_boCells) (fk := E_spec_boCells.fk) (List.forall_mem_cons.2 ⟨m_spec_boHas, (List.forall_mem_nil _)⟩)) mixed Try.func56 (body := b_spec_boCells) (by kernel_rfl) (ntmps := 22) (by kernel_rfl) (rs := [.tmp 2]) (by kernel_rfl), fun ds out h => ?_⟩, ⟨_, Try.func56, by kernel_rfl, by kernel_rfl⟩⟩
  · show G_spec_boCells ds K = (G_spec_boCells ds some).bind K
    unfold G_spec_boCells
    split
    · cases sh_spec_boCells _ _ _ <;> rfl
    · rfl
  · replace h : G_spec_boCells ds some = some out := h
    unfold G_spec_boCells at h
    split at h
    · obtain ⟨r, hr, h⟩ := Option.bind_eq_some_iff.1 h
      injection h with h
      subst h
      obtain ⟨n, hn⟩ := val_some hr
      replace hn := (u_spec_boCells n _ _ _).trans hn
      rw [runFn_bind (K := un_spec_boCells) (K' := some) (f := un_spec_boCells) n_spec_boCells (fun _ => rfl)] at hn
      obtain ⟨o, h1, h2⟩ := Option.bind_eq_some_iff.1 hn
      rw [un_spec_boCells_ok h2] at h1
      exact ⟨n, h1⟩
    · cases h
/-! f76 loop.example.g01239.spec.pzGood -/
noncomputable def b_spec_pzGood : Code := Try.f76.body.getD .skip
def kp_spec_pzGood (g : Nat) : Nat → Option Keep := lk [(7, ⟨[], [1, 3, 32, 33, 34], [4096], [], [], g⟩)]
def O_spec_pzGood : List (FuncId × Ora) := [(56, o_spec_boCells), (64, o_spec_boTwo), (66, o_spec_l1In), (77, o_spec_boHas), (91, o_spec_l1Has)]
def E_spec_pzGood : Env := ⟨lk O_spec_pzGood, fun _ => false⟩
noncomputable def D_spec_pzGood_0 {ρ : Type} (g fuel : Nat) (p0_0 : Int) (p0_1 : Int) (p0_2 : List Int) (p0_3 : Int) (p0_4 : Int) (p0_5 : List Int) (n : Nat) (v3 : Int) (v32 : List Int) (v33 : Int) (v34 : Int) (c4096_0 : Int) (c4096_1 : Int) (c4096_2 : List Int) (c4096_3 : Int) (c4096_4 : Int) (Kk : Out → Option ρ) : Option ρ :=
  iter (run TT E_spec_pzGood (kp_spec_pzGood g) fuel (cL (cB (cS2 (cS1 (cS2 (cS2 (cS2 (cS2 (b_spec_pzGood)))))))))) (nrmAt (kp_spec_pzGood g) (firstRid (cL (cB (cS2 (cS1 (cS2 (cS2 (cS2 (cS2 (b_spec_pzGood))))))))))) n (⟨[uu, .u (.x (.ptr 4096 0)), uu, .u (.x (.int .i64 v3)), uu, uu, uu, uu, uu, uu, uu, uu, uu, uu, uu, uu, uu, uu, uu, uu, uu, uu, uu, uu, uu, uu, uu, uu, uu, uu, uu, uu, .u (.x (.ro (.ints .i64 v32))), .u (.x (.int .i64 v33)), .u (.x (.int .i64 v34)), uu, uu, uu, uu, uu, uu, uu, uu, uu, uu, uu, uu, uu, uu, uu, uu, uu, uu, uu, uu, uu, uu, uu, uu, uu, uu, uu, uu], [(4096, [.int .i64 c4096_0, .int .i64 c4096_1, .ro (.ints .i64 c4096_2), .int .i64 c4096_3, .int .i64 c4096_4, .ro (.ints .i64 v32)])], [], []⟩) (blkK 0 (seqK (gateAt (kp_spec_pzGood g) (200000 + firstRid (cS2 (cS2 (cS2 (cS2 (cS2 (b_spec_pzGood)))))))) (run TT E_spec_pzGood (kp_spec_pzGood g) fuel (cS2 (cS2 (cS2 (cS2 (cS2 (b_spec_pzGood))))))) (nrmAt (kp_spec_pzGood g) (200000 + firstRid (cS2 (cS2 (cS2 (cS2 (cS2 (b_spec_pzGood)))))))) (topK TT [.val] false [[]] [.tmp 2] [.agg [.int .i64 p0_0, .int .i64 p0_1, .sl (.ints .i64 p0_2), .int .i64 p0_3, .int .i64 p0_4, .sl (.ints .i64 p0_5)]] Kk)))
def S_spec_pzGood_e {ρ : Type} (p0_0 : Int) (p0_1 : Int) (p0_2 : List Int) (p0_3 : Int) (p0_4 : Int) (p0_5 : List Int)  (k0 : (Int → List Int → Int → Int → Int → Int → List Int → Int → Int → Option ρ)) (K : Bool → Option ρ) : Option ρ :=
  ((sh_spec_boTwo p0_0 p0_1 p0_2 p0_3 p0_4).bind fun r1 => (bif !r1 then K false else (bif !decide ((p0_5.length : Int) = (IntKind.i64.wrap (p0_0 * p0_1))) then K false else ((sh_spec_boCells p0_0 p0_1 p0_2).bind fun r2 => (bif decide ((r2.length : Int) > (16 : Int)) then K false else k0 (r2.length : Int) p0_5 (p0_5.length : Int) (0 : Int) p0_0 p0_1 p0_2 p0_3 p0_4)))))
theorem s_spec_pzGood_e {ρ : Type} (g fuel : Nat) (p0_0 : Int) (p0_1 : Int) (p0_2 : List Int) (p0_3 : Int) (p0_4 : Int) (p0_5 : List Int) (Kk : Out → Option ρ) : runFn TT E_spec_pzGood (kp_spec_pzGood g) fuel [.val] 1 false [[]] 63 [.tmp 2] b_spec_pzGood [.agg [.int .i64 p0_0, .int .i64 p0_1, .sl (.ints .i64 p0_2), .int .i64 p0_3, .int .i64 p0_4, .sl (.ints .i64 p0_5)]] Kk = S_spec_pzGood_e p0_0 p0_1 p0_2 p0_3 p0_4 p0_5  (fun v3 v32 v33 v34 c4096_0 c4096_1 c4096_2 c4096_3 c4096_4 => D_spec_pzGood_0 g fuel p0_0 p0_1 p0_2 p0_3 p0_4 p0_5 fuel v3 v32 v33 v34 c4096_0 c4096_1 c4096_2 c4096_3 c4096_4 Kk) (fun r1 => Kk ⟨[.x (.bool r1)], []⟩) := by
  kernel_rfl
def S_spec_pzGood_0 {ρ : Type}  (v3 : Int) (v32 : List Int) (v33 : Int) (v34 : Int) (c4096_0 : Int) (c4096_1 : Int) (c4096_2 : List Int) (c4096_3 : Int) (c4096_4 : Int) (b0 : (Int → List Int → Int → Int → Int → Int → List Int → Int → Int → Option ρ)) (K : Bool → Option ρ) : Option ρ :=
  (bif decide (v34 < v33) then (if 0 ≤ v34 then (if v34 < (v32.length : Int) then ((sh_spec_l1In (v32.getD v34.toNat 0) (0 : Int) v3).bind fun r1 => (bif !r1 then K false else (bif !decide ((v32.getD v34.toNat 0) = (0 : Int)) then ((sh_spec_boHas c4096_0 c4096_1 c4096_2 v34).bind fun r2 => (bif !r2 then K false else (if 0 ≤ v34 then (if v34 ≤ (v32.length : Int) then ((sh_spec_l1Has ((v32.take v34.toNat).drop 0) (v32.getD v34.toNat 0)).bind fun r3 => (bif r3 then K false else b0 v3 v32 v33 (IntKind.i64.wrap (v34 + (1 : Int))) c4096_0 c4096_1 c4096_2 c4096_3 c4096_4)) else none) else none))) else b0 v3 v32 v33 (IntKind.i64.wrap (v34 + (1 : Int))) c4096_0 c4096_1 c4096_2 c4096_3 c4096_4))) else none) else none) else K true)
theorem s_spec_pzGood_0 {ρ : Type} (g fuel : Nat) (p0_0 : Int) (p0_1 : Int) (p0_2 : List Int) (p0_3 : Int) (p0_4 : Int) (p0_5 : List Int) (n : Nat) (v3 : Int) (v32 : List Int) (v33 : Int) (v34 : Int) (c4096_0 : Int) (c4096_1 : Int) (c4096_2 : List Int) (c4096_3 : Int) (c4096_4 : Int) (Kk : Out → Option ρ) : D_spec_pzGood_0 g fuel p0_0 p0_1 p0_2 p0_3 p0_4 p0_5  (n + 1) v3 v32 v33 v34 c4096_0 c4096_1 c4096_2 c4096_3 c4096_4 Kk = S_spec_pzGood_0  v3 v32 v33 v34 c4096_0 c4096_1 c4096_2 c4096_3 c4096_4 (fun v3 v32 v33 v34 c4096_0 c4096_1 c4096_2 c4096_3 c4096_4 => D_spec_pzGood_0 g fuel p0_0 p0_1 p0_2 p0_3 p0_4 p0_5 n v3 v32 v33 v34 c4096_0 c4096_1 c4096_2 c4096_3 c4096_4 Kk) (fun r1 => Kk ⟨[.x (.bool r1)], []⟩) := by
  kernel_rfl
def F_spec_pzGood_0 {ρ : Type} (fuel : Nat)   (K : Bool → Option ρ) : Nat → Int → List Int → Int → Int → Int → Int → List Int → Int → Int → Option ρ
  | 0, _, _, _, _, _, _, _, _, _ => none
  | n + 1, v3, v32, v33, v34, c4096_0, c4096_1, c4096_2, c4096_3, c4096_4 => S_spec_pzGood_0  v3 v32 v33 v34 c4096_0 c4096_1 c4096_2 c4096_3 c4096_4 (F_spec_pzGood_0 fuel   K n) K
theorem f_spec_pzGood_0 {ρ : Type} (fuel : Nat) (p0_0 : Int) (p0_1 : Int) (p0_2 : List Int) (p0_3 : Int) (p0_4 : Int) (p0_5 : List Int) (Kk : Out → Option ρ) : ∀ (n : Nat) (v3 : Int) (v32 : List Int) (v33 : Int) (v34 : Int) (c4096_0 : Int) (c4096_1 : Int) (c4096_2 : List Int) (c4096_3 : Int) (c4096_4 : Int), D_spec_pzGood_0 1 fuel p0_0 p0_1 p0_2 p0_3 p0_4 p0_5  n v3 v32 v33 v34 c4096_0 c4096_1 c4096_2 c4096_3 c4096_4 Kk = F_spec_pzGood_0 fuel   (fun r1 => Kk ⟨[.x (.bool r1)], []⟩) n v3 v32 v33 v34 c4096_0 c4096_1 c4096_2 c4096_3 c4096_4 := by
  intro n
  induction n with
  | zero => intros; rfl
  | succ n ih =>
    intro v3 v32 v33 v34 c4096_0 c4096_1 c4096_2 c4096_3 c4096_4
    rw [s_spec_pzGood_0, F_spec_pzGood_0]
    try simp only [ih]
def F_spec_pzGood {ρ : Type} (fuel : Nat) (p0_0 : Int) (p0_1 : Int) (p0_2 : List Int) (p0_3 : Int) (p0_4 : Int) (p0_5 : List Int)  (K : Bool → Option ρ) : Option ρ := S_spec_pzGood_e p0_0 p0_1 p0_2 p0_3 p0_4 p0_5  (F_spec_pzGood_0 fuel   K fuel) K
theorem f_spec_pzGood {ρ : Type} (fuel : Nat) (p0_0 : Int) (p0_1 : Int) (p0_2 : List Int) (p0_3 : Int) (p0_4 : Int) (p0_5 : List Int) (Kk : Out → Option ρ) : runFn TT E_spec_pzGood (kp_spec_pzGood 1) fuel [.val] 1 false [[]] 63 [.tmp 2] b_spec_pzGood [.agg [.int .i64 p0_0, .int .i64 p0_1, .sl (.ints .i64 p0_2), .int .i64 p0_3, .int .i64 p0_4, .sl (.ints .i64 p0_5)]] Kk = F_spec_pzGood fuel p0_0 p0_1 p0_2 p0_3 p0_4 p0_5 (fun r1 => Kk ⟨[.x (.bool r1)], []⟩) := by
  rw [s_spec_pzGood_e, F_spec_pzGood]
  try simp only [f_spec_pzGood_0]
noncomputable def sh_spec_pzGood (p0_0 : Int) (p0_1 : Int) (p0_2 : List Int) (p0_3 : Int) (p0_4 : Int) (p0_5 : List Int) : Option (Bool) := val fun n => F_spec_pzGood n p0_0 p0_1 p0_2 p0_3 p0_4 p0_5 (fun r1 => some r1)
noncomputable def G_spec_pzGood {ρ : Type} : List DU → (Out → Option ρ) → Option ρ
  | [.agg [.int .i64 p0_0, .int .i64 p0_1, .sl (.ints .i64 p0_2), .int .i64 p0_3, .int .i64 p0_4, .sl (.ints .i64 p0_5)]], K => (sh_spec_pzGood p0_0 p0_1 p0_2 p0_3 p0_4 p0_5).bind fun r => K ⟨[.x (.bool r)], []⟩
  | _, _ => none
noncomputable def o_spec_pzGood : Ora := ⟨[.val], 1, false, G_spec_pzGood⟩
def un_spec_pzGood : Out → Option (Bool)
  | ⟨[.x (.bool r1)], []⟩ => some r1
  | _ => none
theorem un_spec_pzGood_ok {o : Out} {r : Bool} (h : un_spec_pzGood o = some r) : o = ⟨[.x (.bool r)], []⟩ := by
  unfold un_spec_pzGood at h
  split at h
  · injection h with h
    subst h
    rfl
  · cases h
theorem n_spec_pzGood : ∀ k o, E_spec_pzGood.fn k = some o → Nat1 o := fun k o h => (ook_list (P := Try.prog) (l := O_spec_pzGood) (fk := E_spec_pzGood.fk) (List.forall_mem_cons.2 ⟨m_spec_boCells, (List.forall_mem_cons.2 ⟨m_spec_boTwo, (List.forall_mem_cons.2 ⟨m_spec_l1In, (List.forall_mem_cons.2 ⟨m_spec_boHas, (List.forall_mem_cons.2 ⟨m_spec_l1Has, (List.forall_mem_nil _)⟩)⟩)⟩)⟩)⟩)).nat k o h
theorem u_spec_pzGood (fuel : Nat) (p0_0 : Int) (p0_1 : Int) (p0_2 : List Int) (p0_3 : Int) (p0_4 : Int) (p0_5 : List Int) : runFn TT E_spec_pzGood (kp_spec_pzGood 1) fuel [.val] 1 false [[]] 63 [.tmp 2] b_spec_pzGood [.agg [.int .i64 p0_0, .int .i64 p0_1, .sl (.ints .i64 p0_2), .int .i64 p0_3, .int .i64 p0_4, .sl (.ints .i64 p0_5)]] un_spec_pzGood = F_spec_pzGood fuel p0_0 p0_1 p0_2 p0_3 p0_4 p0_5 (fun r1 => some r1) := f_spec_pzGood fuel p0_0 p0_1 p0_2 p0_3 p0_4 p0_5 un_spec_pzGood
theorem sh_spec_pzGood_of {n : Nat} {p0_0 : Int} {p0_1 : Int} {p0_2 : List Int} {p0_3 : Int} {p0_4 : Int} {p0_5 : List Int} {r : Bool} (h : F_spec_pzGood n p0_0 p0_1 p0_2 p0_3 p0_4 p0_5 (fun r1 => some r1) = some r) : sh_spec_pzGood p0_0 p0_1 p0_2 p0_3 p0_4 p0_5 = some r := val_of (fun n m r hm h => by rw [← u_spec_pzGood] at h ⊢; exact runFn_mono n_spec_pzGood hm h) h
theorem m_spec_pzGood : MeetsO Try.prog 76 o_spec_pzGood := by
  refine ⟨fun ρ ds K => ?_, ⟨_, meets_run (kp := kp_spec_pzGood 1) (weak := false) (df := [[]]) tsOk (ook_list (l := O_spec_pzGood) (fk := E_spec_pzGood.fk) (List.forall_mem_cons.2 ⟨m_spec_boCells, (List.forall_mem_cons.2 ⟨m_spec_boTwo, (List.forall_mem_cons.2 ⟨m_spec_l1In, (List.forall_mem_cons.2 ⟨m_spec_boHas, (List.forall_mem_cons.2 ⟨m_spec_l1Has, (List.forall_mem_nil _)⟩)⟩)⟩)⟩)⟩)) mixed Try.func76 (body := b_spec_pzGood) (by kernel_rfl) (ntmps := 63) (by kernel_rfl) (rs := [.tmp 2]) (by kernel_rfl), fun ds out h => ?_⟩, ⟨_, Try.func76, by kernel_rfl, by kernel_rfl⟩⟩
  · show G_spec_pzGood ds K = (G_spec_pzGood ds some).bind K
    unfold G_spec_pzGood
    split
    · cases sh_spec_pzGood _ _ _ _ _ _ <;> rfl
    · rfl
  · replace h : G_spec_pzGood ds some = some out := h
    unfold G_spec_pzGood at h
    split at h
    · obtain ⟨r, hr, h⟩ := Option.bind_eq_some_iff.1 h
      injection h with h
      subst h
      obtain ⟨n, hn⟩ := val_some hr
      replace hn := (u_spec_pzGood n _ _ _ _ _ _).trans hn
      rw [runFn_bind (K := un_spec_pzGood) (K' := some) (f := un_spec_pzGood) n_spec_pzGood (fun _ => rfl)] at hn
      obtain ⟨o, h1, h2⟩ := Option.bind_eq_some_iff.1 hn
      rw [un_spec_pzGood_ok h2] at h1
      exact ⟨n, h1⟩
    · cases h
/-! f67 loop.example.g01239.spec.l1Own -/
noncomputable def b_spec_l1Own : Code := Try.f67.body.getD .skip
def kp_spec_l1Own (g : Nat) : Nat → Option Keep := lk []
def O_spec_l1Own : List (FuncId × Ora) := []
def E_spec_l1Own : Env := ⟨lk O_spec_l1Own, fun _ => false⟩
def S_spec_l1Own_e {ρ : Type} (p0 : List Int)   (K : List Int → Option ρ) : Option ρ :=
  (if ([] ++ p0).length ≤ 1099511627776 then K ([] ++ p0) else none)
theorem s_spec_l1Own_e {ρ : Type} (g fuel : Nat) (p0 : List Int) (Kk : Out → Option ρ) : runFn TT E_spec_l1Own (kp_spec_l1Own g) fuel [.val] 1 false [[]] 6 [.tmp 2] b_spec_l1Own [.x (.sl (.ints .i64 p0))] Kk = S_spec_l1Own_e p0   (fun r1 => Kk ⟨[.x (.sl (.ints .i64 r1))], []⟩) := by
  kernel_rfl
def F_spec_l1Own {ρ : Type} (fuel : Nat) (p0 : List Int)  (K : List Int → Option ρ) : Option ρ := S_spec_l1Own_e p0   K
theorem f_spec_l1Own {ρ : Type} (fuel : Nat) (p0 : List Int) (Kk : Out → Option ρ) : runFn TT E_spec_l1Own (kp_spec_l1Own 1) fuel [.val] 1 false [[]] 6 [.tmp 2] b_spec_l1Own [.x (.sl (.ints .i64 p0))] Kk = F_spec_l1Own fuel p0 (fun r1 => Kk ⟨[.x (.sl (.ints .i64 r1))], []⟩) := by
  rw [s_spec_l1Own_e, F_spec_l1Own]
noncomputable def sh_spec_l1Own (p0 : List Int) : Option (List Int) := F_spec_l1Own 0 p0 (fun r1 => some r1)
noncomputable def G_spec_l1Own {ρ : Type} : List DU → (Out → Option ρ) → Option ρ
  | [.x (.sl (.ints .i64 p0))], K => (sh_spec_l1Own p0).bind fun r => K ⟨[.x (.sl (.ints .i64 r))], []⟩
  | _, _ => none
noncomputable def o_spec_l1Own : Ora := ⟨[.val], 1, false, G_spec_l1Own⟩
def un_spec_l1Own : Out → Option (List Int)
  | ⟨[.x (.sl (.ints .i64 r1))], []⟩ => some r1
  | _ => none
theorem un_spec_l1Own_ok {o : Out} {r : List Int} (h : un_spec_l1Own o = some r) : o = ⟨[.x (.sl (.ints .i64 r))], []⟩ := by
  unfold un_spec_l1Own at h
  split at h
  · injection h with h
    subst h
    rfl
  · cases h
theorem n_spec_l1Own : ∀ k o, E_spec_l1Own.fn k = some o → Nat1 o := fun k o h => (ook_list (P := Try.prog) (l := O_spec_l1Own) (fk := E_spec_l1Own.fk) (List.forall_mem_nil _)).nat k o h
theorem u_spec_l1Own (fuel : Nat) (p0 : List Int) : runFn TT E_spec_l1Own (kp_spec_l1Own 1) fuel [.val] 1 false [[]] 6 [.tmp 2] b_spec_l1Own [.x (.sl (.ints .i64 p0))] un_spec_l1Own = F_spec_l1Own fuel p0 (fun r1 => some r1) := f_spec_l1Own fuel p0 un_spec_l1Own
theorem m_spec_l1Own : MeetsO Try.prog 67 o_spec_l1Own := by
  refine ⟨fun ρ ds K => ?_, ⟨_, meets_run (kp := kp_spec_l1Own 1) (weak := false) (df := [[]]) tsOk (ook_list (l := O_spec_l1Own) (fk := E_spec_l1Own.fk) (List.forall_mem_nil _)) mixed Try.func67 (body := b_spec_l1Own) (by kernel_rfl) (ntmps := 6) (by kernel_rfl) (rs := [.tmp 2]) (by kernel_rfl), fun ds out h => ?_⟩, ⟨_, Try.func67, by kernel_rfl, by kernel_rfl⟩⟩
  · show G_spec_l1Own ds K = (G_spec_l1Own ds some).bind K
    unfold G_spec_l1Own
    split
    · cases sh_spec_l1Own _ <;> rfl
    · rfl
  · replace h : G_spec_l1Own ds some = some out := h
    unfold G_spec_l1Own at h
    split at h
    · obtain ⟨r, hr, h⟩ := Option.bind_eq_some_iff.1 h
      injection h with h
      subst h
      have hn := (u_spec_l1Own 0 _).trans hr
      rw [runFn_bind (K := un_spec_l1Own) (K' := some) (f := un_spec_l1Own) n_spec_l1Own (fun _ => rfl)] at hn
      obtain ⟨o, h1, h2⟩ := Option.bind_eq_some_iff.1 hn
      rw [un_spec_l1Own_ok h2] at h1
      exact ⟨0, h1⟩
    · cases h
/-! f122 loop.example.g01239.spec.l1Most -/
noncomputable def b_spec_l1Most : Code := Try.f122.body.getD .skip
def kp_spec_l1Most (g : Nat) : Nat → Option Keep := lk []
def O_spec_l1Most : List (FuncId × Ora) := []
def E_spec_l1Most : Env := ⟨lk O_spec_l1Most, fun _ => false⟩
def S_spec_l1Most_e {ρ : Type} (p0 : Int) (p1 : Int)   (K : Int → Option ρ) : Option ρ :=
  (bif decide (p0 > p1) then K p0 else K p1)
theorem s_spec_l1Most_e {ρ : Type} (g fuel : Nat) (p0 : Int) (p1 : Int) (Kk : Out → Option ρ) : runFn TT E_spec_l1Most (kp_spec_l1Most g) fuel [.val, .val] 2 false [[]] 10 [.tmp 4] b_spec_l1Most [.x (.int .i64 p0), .x (.int .i64 p1)] Kk = S_spec_l1Most_e p0 p1   (fun r1 => Kk ⟨[.x (.int .i64 r1)], []⟩) := by
  kernel_rfl
def F_spec_l1Most {ρ : Type} (fuel : Nat) (p0 : Int) (p1 : Int)  (K : Int → Option ρ) : Option ρ := S_spec_l1Most_e p0 p1   K
theorem f_spec_l1Most {ρ : Type} (fuel : Nat) (p0 : Int) (p1 : Int) (Kk : Out → Option ρ) : runFn TT E_spec_l1Most (kp_spec_l1Most 1) fuel [.val, .val] 2 false [[]] 10 [.tmp 4] b_spec_l1Most [.x (.int .i64 p0), .x (.int .i64 p1)] Kk = F_spec_l1Most fuel p0 p1 (fun r1 => Kk ⟨[.x (.int .i64 r1)], []⟩) := by
  rw [s_spec_l1Most_e, F_spec_l1Most]
noncomputable def sh_spec_l1Most (p0 : Int) (p1 : Int) : Option (Int) := F_spec_l1Most 0 p0 p1 (fun r1 => some r1)
noncomputable def G_spec_l1Most {ρ : Type} : List DU → (Out → Option ρ) → Option ρ
  | [.x (.int .i64 p0), .x (.int .i64 p1)], K => (sh_spec_l1Most p0 p1).bind fun r => K ⟨[.x (.int .i64 r)], []⟩
  | _, _ => none
noncomputable def o_spec_l1Most : Ora := ⟨[.val, .val], 2, false, G_spec_l1Most⟩
def un_spec_l1Most : Out → Option (Int)
  | ⟨[.x (.int .i64 r1)], []⟩ => some r1
  | _ => none
theorem un_spec_l1Most_ok {o : Out} {r : Int} (h : un_spec_l1Most o = some r) : o = ⟨[.x (.int .i64 r)], []⟩ := by
  unfold un_spec_l1Most at h
  split at h
  · injection h with h
    subst h
    rfl
  · cases h
theorem n_spec_l1Most : ∀ k o, E_spec_l1Most.fn k = some o → Nat1 o := fun k o h => (ook_list (P := Try.prog) (l := O_spec_l1Most) (fk := E_spec_l1Most.fk) (List.forall_mem_nil _)).nat k o h
theorem u_spec_l1Most (fuel : Nat) (p0 : Int) (p1 : Int) : runFn TT E_spec_l1Most (kp_spec_l1Most 1) fuel [.val, .val] 2 false [[]] 10 [.tmp 4] b_spec_l1Most [.x (.int .i64 p0), .x (.int .i64 p1)] un_spec_l1Most = F_spec_l1Most fuel p0 p1 (fun r1 => some r1) := f_spec_l1Most fuel p0 p1 un_spec_l1Most
theorem m_spec_l1Most : MeetsO Try.prog 122 o_spec_l1Most := by
  refine ⟨fun ρ ds K => ?_, ⟨_, meets_run (kp := kp_spec_l1Most 1) (weak := false) (df := [[]]) tsOk (ook_list (l := O_spec_l1Most) (fk := E_spec_l1Most.fk) (List.forall_mem_nil _)) mixed Try.func122 (body := b_spec_l1Most) (by kernel_rfl) (ntmps := 10) (by kernel_rfl) (rs := [.tmp 4]) (by kernel_rfl), fun ds out h => ?_⟩, ⟨_, Try.func122, by kernel_rfl, by kernel_rfl⟩⟩
  · show G_spec_l1Most ds K = (G_spec_l1Most ds some).bind K
    unfold G_spec_l1Most
    split
    · cases sh_spec_l1Most _ _ <;> rfl
    · rfl
  · replace h : G_spec_l1Most ds some = some out := h
    unfold G_spec_l1Most at h
    split at h
    · obtain ⟨r, hr, h⟩ := Option.bind_eq_some_iff.1 h
      injection h with h
      subst h
      have hn := (u_spec_l1Most 0 _ _).trans hr
      rw [runFn_bind (K := un_spec_l1Most) (K' := some) (f := un_spec_l1Most) n_spec_l1Most (fun _ => rfl)] at hn
      obtain ⟨o, h1, h2⟩ := Option.bind_eq_some_iff.1 hn
      rw [un_spec_l1Most_ok h2] at h1
      exact ⟨0, h1⟩
    · cases h
/-! f115 loop.example.g01239.spec.l1Abs -/
noncomputable def b_spec_l1Abs : Code := Try.f115.body.getD .skip
def kp_spec_l1Abs (g : Nat) : Nat → Option Keep := lk []
def O_spec_l1Abs : List (FuncId × Ora) := [(122, o_spec_l1Most)]
def E_spec_l1Abs : Env := ⟨lk O_spec_l1Abs, fun _ => false⟩
def S_spec_l1Abs_e {ρ : Type} (p0 : Int)   (K : Int → Option ρ) : Option ρ :=
  ((sh_spec_l1Most p0 (IntKind.i64.wrap (0 - p0))).bind fun r1 => K r1)
theorem s_spec_l1Abs_e {ρ : Type} (g fuel : Nat) (p0 : Int) (Kk : Out → Option ρ) : runFn TT E_spec_l1Abs (kp_spec_l1Abs g) fuel [.val] 1 false [[]] 7 [.tmp 2] b_spec_l1Abs [.x (.int .i64 p0)] Kk = S_spec_l1Abs_e p0   (fun r1 => Kk ⟨[.x (.int .i64 r1)], []⟩) := by
  kernel_rfl
def F_spec_l1Abs {ρ : Type} (fuel : Nat) (p0 : Int)  (K : Int → Option ρ) : Option ρ := S_spec_l1Abs_e p0   K
theorem f_spec_l1Abs {ρ : Type} (fuel : Nat) (p0 : Int) (Kk : Out → Option ρ) : runFn TT E_spec_l1Abs (kp_spec_l1Abs 1) fuel [.val] 1 false [[]] 7 [.tmp 2] b_spec_l1Abs [.x (.int .i64 p0)] Kk = F_spec_l1Abs fuel p0 (fun r1 => Kk ⟨[.x (.int .i64 r1)], []⟩) := by
  rw [s_spec_l1Abs_e, F_spec_l1Abs]
noncomputable def sh_spec_l1Abs (p0 : Int) : Option (Int) := F_spec_l1Abs 0 p0 (fun r1 => some r1)
noncomputable def G_spec_l1Abs {ρ : Type} : List DU → (Out → Option ρ) → Option ρ
  | [.x (.int .i64 p0)], K => (sh_spec_l1Abs p0).bind fun r => K ⟨[.x (.int .i64 r)], []⟩
  | _, _ => none
noncomputable def o_spec_l1Abs : Ora := ⟨[.val], 1, false, G_spec_l1Abs⟩
def un_spec_l1Abs : Out → Option (Int)
  | ⟨[.x (.int .i64 r1)], []⟩ => some r1
  | _ => none
theorem un_spec_l1Abs_ok {o : Out} {r : Int} (h : un_spec_l1Abs o = some r) : o = ⟨[.x (.int .i64 r)], []⟩ := by
  unfold un_spec_l1Abs at h
  split at h
  · injection h with h
    subst h
    rfl
  · cases h
theorem n_spec_l1Abs : ∀ k o, E_spec_l1Abs.fn k = some o → Nat1 o := fun k o h => (ook_list (P := Try.prog) (l := O_spec_l1Abs) (fk := E_spec_l1Abs.fk) (List.forall_mem_cons.2 ⟨m_spec_l1Most, (List.forall_mem_nil _)⟩)).nat k o h
theorem u_spec_l1Abs (fuel : Nat) (p0 : Int) : runFn TT E_spec_l1Abs (kp_spec_l1Abs 1) fuel [.val] 1 false [[]] 7 [.tmp 2] b_spec_l1Abs [.x (.int .i64 p0)] un_spec_l1Abs = F_spec_l1Abs fuel p0 (fun r1 => some r1) := f_spec_l1Abs fuel p0 un_spec_l1Abs
theorem m_spec_l1Abs : MeetsO Try.prog 115 o_spec_l1Abs := by
  refine ⟨fun ρ ds K => ?_, ⟨_, meets_run (kp := kp_spec_l1Abs 1) (weak := false) (df := [[]]) tsOk (ook_list (l := O_spec_l1Abs) (fk := E_spec_l1Abs.fk) (List.forall_mem_cons.2 ⟨m_spec_l1Most, (List.forall_mem_nil _)⟩)) mixed Try.func115 (body := b_spec_l1Abs) (by kernel_rfl) (ntmps := 7) (by kernel_rfl) (rs := [.tmp 2]) (by kernel_rfl), fun ds out h => ?_⟩, ⟨_, Try.func115, by kernel_rfl, by kernel_rfl⟩⟩
  · show G_spec_l1Abs ds K = (G_spec_l1Abs ds some).bind K
    unfold G_spec_l1Abs
    split
    · cases sh_spec_l1Abs _ <;> rfl
    · rfl
  · replace h : G_spec_l1Abs ds some = some out := h
    unfold G_spec_l1Abs at h
    split at h
    · obtain ⟨r, hr, h⟩ := Option.bind_eq_some_iff.1 h
      injection h with h
      subst h
      have hn := (u_spec_l1Abs 0 _).trans hr
      rw [runFn_bind (K := un_spec_l1Abs) (K' := some) (f := un_spec_l1Abs) n_spec_l1Abs (fun _ => rfl)] at hn
      obtain ⟨o, h1, h2⟩ := Option.bind_eq_some_iff.1 hn
      rw [un_spec_l1Abs_ok h2] at h1
      exact ⟨0, h1⟩
    · cases h
/-! f102 loop.example.g01239.spec.boIs -/
noncomputable def b_spec_boIs : Code := Try.f102.body.getD .skip
def kp_spec_boIs (g : Nat) : Nat → Option Keep := lk []
def O_spec_boIs : List (FuncId × Ora) := [(115, o_spec_l1Abs)]
def E_spec_boIs : Env := ⟨lk O_spec_boIs, fun _ => false⟩
def S_spec_boIs_e {ρ : Type} (p0_0 : Int) (p0_1 : Int) (p0_2 : List Int) (p1_0 : Int) (p1_1 : Int) (p2 : Int) (p3 : Int)   (K : Bool → Option ρ) : Option ρ :=
  (if p0_0 = 0 then none else (if p0_0 = 0 then none else ((sh_spec_l1Abs (IntKind.i64.wrap ((p2.tmod p0_0) - (p3.tmod p0_0)))).bind fun r1 => (if p0_0 = 0 then none else (if p0_0 = 0 then none else ((sh_spec_l1Abs (IntKind.i64.wrap ((IntKind.i64.wrap (p2.tdiv p0_0)) - (IntKind.i64.wrap (p3.tdiv p0_0))))).bind fun r2 => (bif decide (r1 = p1_0) then (bif decide (r2 = p1_1) then K true else (bif decide (r1 = p1_1) then K (decide (r2 = p1_0)) else K false)) else (bif decide (r1 = p1_1) then K (decide (r2 = p1_0)) else K false))))))))
theorem s_spec_boIs_e {ρ : Type} (g fuel : Nat) (p0_0 : Int) (p0_1 : Int) (p0_2 : List Int) (p1_0 : Int) (p1_1 : Int) (p2 : Int) (p3 : Int) (Kk : Out → Option ρ) : runFn TT E_spec_boIs (kp_spec_boIs g) fuel [.val, .val, .val, .val] 4 false [[]] 53 [.tmp 8] b_spec_boIs [.agg [.int .i64 p0_0, .int .i64 p0_1, .sl (.ints .i64 p0_2)], .agg [.int .i64 p1_0, .int .i64 p1_1], .x (.int .i64 p2), .x (.int .i64 p3)] Kk = S_spec_boIs_e p0_0 p0_1 p0_2 p1_0 p1_1 p2 p3   (fun r1 => Kk ⟨[.x (.bool r1)], []⟩) := by
  kernel_rfl
def F_spec_boIs {ρ : Type} (fuel : Nat) (p0_0 : Int) (p0_1 : Int) (p0_2 : List Int) (p1_0 : Int) (p1_1 : Int) (p2 : Int) (p3 : Int)  (K : Bool → Option ρ) : Option ρ := S_spec_boIs_e p0_0 p0_1 p0_2 p1_0 p1_1 p2 p3   K
theorem f_spec_boIs {ρ : Type} (fuel : Nat) (p0_0 : Int) (p0_1 : Int) (p0_2 : List Int) (p1_0 : Int) (p1_1 : Int) (p2 : Int) (p3 : Int) (Kk : Out → Option ρ) : runFn TT E_spec_boIs (kp_spec_boIs 1) fuel [.val, .val, .val, .val] 4 false [[]] 53 [.tmp 8] b_spec_boIs [.agg [.int .i64 p0_0, .int .i64 p0_1, .sl (.ints .i64 p0_2)], .agg [.int .i64 p1_0, .int .i64 p1_1], .x (.int .i64 p2), .x (.int .i64 p3)] Kk = F_spec_boIs fuel p0_0 p0_1 p0_2 p1_0 p1_1 p2 p3 (fun r1 => Kk ⟨[.x (.bool r1)], []⟩) := by
  rw [s_spec_boIs_e, F_spec_boIs]
noncomputable def sh_spec_boIs (p0_0 : Int) (p0_1 : Int) (p0_2 : List Int) (p1_0 : Int) (p1_1 : Int) (p2 : Int) (p3 : Int) : Option (Bool) := F_spec_boIs 0 p0_0 p0_1 p0_2 p1_0 p1_1 p2 p3 (fun r1 => some r1)
noncomputable def G_spec_boIs {ρ : Type} : List DU → (Out → Option ρ) → Option ρ
  | [.agg [.int .i64 p0_0, .int .i64 p0_1, .sl (.ints .i64 p0_2)], .agg [.int .i64 p1_0, .int .i64 p1_1], .x (.int .i64 p2), .x (.int .i64 p3)], K => (sh_spec_boIs p0_0 p0_1 p0_2 p1_0 p1_1 p2 p3).bind fun r => K ⟨[.x (.bool r)], []⟩
  | _, _ => none
noncomputable def o_spec_boIs : Ora := ⟨[.val, .val, .val, .val], 4, false, G_spec_boIs⟩
def un_spec_boIs : Out → Option (Bool)
  | ⟨[.x (.bool r1)], []⟩ => some r1
  | _ => none
theorem un_spec_boIs_ok {o : Out} {r : Bool} (h : un_spec_boIs o = some r) : o = ⟨[.x (.bool r)], []⟩ := by
  unfold un_spec_boIs at h
  split at h
  · injection h with h
    subst h
    rfl
  · cases h
theorem n_spec_boIs : ∀ k o, E_spec_boIs.fn k = some o → Nat1 o := fun k o h => (ook_list (P := Try.prog) (l := O_spec_boIs) (fk := E_spec_boIs.fk) (List.forall_mem_cons.2 ⟨m_spec_l1Abs, (List.forall_mem_nil _)⟩)).nat k o h
theorem u_spec_boIs (fuel : Nat) (p0_0 : Int) (p0_1 : Int) (p0_2 : List Int) (p1_0 : Int) (p1_1 : Int) (p2 : Int) (p3 : Int) : runFn TT E_spec_boIs (kp_spec_boIs 1) fuel [.val, .val, .val, .val] 4 false [[]] 53 [.tmp 8] b_spec_boIs [.agg [.int .i64 p0_0, .int .i64 p0_1, .sl (.ints .i64 p0_2)], .agg [.int .i64 p1_0, .int .i64 p1_1], .x (.int .i64 p2), .x (.int .i64 p3)] un_spec_boIs = F_spec_boIs fuel p0_0 p0_1 p0_2 p1_0 p1_1 p2 p3 (fun r1 => some r1) := f_spec_boIs fuel p0_0 p0_1 p0_2 p1_0 p1_1 p2 p3 un_spec_boIs
theorem m_spec_boIs : MeetsO Try.prog 102 o_spec_boIs := by
  refine ⟨fun ρ ds K => ?_, ⟨_, meets_run (kp := kp_spec_boIs 1) (weak := false) (df := [[]]) tsOk (ook_list (l := O_spec_boIs) (fk := E_spec_boIs.fk) (List.forall_mem_cons.2 ⟨m_spec_l1Abs, (List.forall_mem_nil _)⟩)) mixed Try.func102 (body := b_spec_boIs) (by kernel_rfl) (ntmps := 53) (by kernel_rfl) (rs := [.tmp 8]) (by kernel_rfl), fun ds out h => ?_⟩, ⟨_, Try.func102, by kernel_rfl, by kernel_rfl⟩⟩
  · show G_spec_boIs ds K = (G_spec_boIs ds some).bind K
    unfold G_spec_boIs
    split
    · cases sh_spec_boIs _ _ _ _ _ _ _ <;> rfl
    · rfl
  · replace h : G_spec_boIs ds some = some out := h
    unfold G_spec_boIs at h
    split at h
    · obtain ⟨r, hr, h⟩ := Option.bind_eq_some_iff.1 h
      injection h with h
      subst h
      have hn := (u_spec_boIs 0 _ _ _ _ _ _ _).trans hr
      rw [runFn_bind (K := un_spec_boIs) (K' := some) (f := un_spec_boIs) n_spec_boIs (fun _ => rfl)] at hn
      obtain ⟨o, h1, h2⟩ := Option.bind_eq_some_iff.1 hn
      rw [un_spec_boIs_ok h2] at h1
      exact ⟨0, h1⟩
    · cases h
/-! f92 loop.example.g01239.spec.boLeaps -/
noncomputable def b_spec_boLeaps : Code := Try.f92.body.getD .skip
def kp_spec_boLeaps (g : Nat) : Nat → Option Keep := lk [(3, ⟨[], [2, 3, 4, 7, 11, 12, 13], [4096, 4112], [(7, 16400000)], [], g⟩)]
def O_spec_boLeaps : List (FuncId × Ora) := [(56, o_spec_boCells), (102, o_spec_boIs)]
def E_spec_boLeaps : Env := ⟨lk O_spec_boLeaps, fun _ => false⟩
noncomputable def D_spec_boLeaps_0 {ρ : Type} (g fuel : Nat) (p0_0 : Int) (p0_1 : Int) (p0_2 : List Int) (p1_0 : Int) (p1_1 : Int) (p2 : Int) (n : Nat) (v2 : Int) (v7 : List Int) (v11 : List Int) (v12 : Int) (v13 : Int) (c4096_0 : Int) (c4096_1 : Int) (c4096_2 : List Int) (c4112_0 : Int) (c4112_1 : Int) (Kk : Out → Option ρ) : Option ρ :=
  iter (run TT E_spec_boLeaps (kp_spec_boLeaps g) fuel (cL (cB (cS2 (cS1 (cS2 (cS2 (b_spec_boLeaps)))))))) (nrmAt (kp_spec_boLeaps g) (firstRid (cL (cB (cS2 (cS1 (cS2 (cS2 (b_spec_boLeaps))))))))) n (⟨[uu, uu, .u (.x (.int .i64 v2)), .u (.x (.ptr 4096 0)), .u (.x (.ptr 4112 0)), uu, uu, .u (.x (.own 16400000 (.ints .i64 v7))), uu, uu, uu, .u (.x (.own 6168 (.ints .i64 v11))), .u (.x (.int .i64 v12)), .u (.x (.int .i64 v13)), uu, uu, uu, uu, uu, uu, uu, uu, uu, uu, uu, uu, uu, uu], [(4096, [.int .i64 c4096_0, .int .i64 c4096_1, .ro (.ints .i64 c4096_2)]), (4112, [.int .i64 c4112_0, .int .i64 c4112_1])], [], []⟩) (blkK 0 (seqK (gateAt (kp_spec_boLeaps g) (200000 + firstRid (cS2 (cS2 (cS2 (b_spec_boLeaps)))))) (run TT E_spec_boLeaps (kp_spec_boLeaps g) fuel (cS2 (cS2 (cS2 (b_spec_boLeaps))))) (nrmAt (kp_spec_boLeaps g) (200000 + firstRid (cS2 (cS2 (cS2 (b_spec_boLeaps)))))) (topK TT [.val, .val, .val] false [[]] [.tmp 6] [.agg [.int .i64 p0_0, .int .i64 p0_1, .sl (.ints .i64 p0_2)], .agg [.int .i64 p1_0, .int .i64 p1_1], .x (.int .i64 p2)] Kk)))
def S_spec_boLeaps_e {ρ : Type} (p0_0 : Int) (p0_1 : Int) (p0_2 : List Int) (p1_0 : Int) (p1_1 : Int) (p2 : Int)  (k0 : (Int → List Int → List Int → Int → Int → Int → Int → List Int → Int → Int → Option ρ)) : Option ρ :=
  ((sh_spec_boCells p0_0 p0_1 p0_2).bind fun r1 => k0 p2 [] r1 (r1.length : Int) (0 : Int) p0_0 p0_1 p0_2 p1_0 p1_1)
theorem s_spec_boLeaps_e {ρ : Type} (g fuel : Nat) (p0_0 : Int) (p0_1 : Int) (p0_2 : List Int) (p1_0 : Int) (p1_1 : Int) (p2 : Int) (Kk : Out → Option ρ) : runFn TT E_spec_boLeaps (kp_spec_boLeaps g) fuel [.val, .val, .val] 3 false [[]] 28 [.tmp 6] b_spec_boLeaps [.agg [.int .i64 p0_0, .int .i64 p0_1, .sl (.ints .i64 p0_2)], .agg [.int .i64 p1_0, .int .i64 p1_1], .x (.int .i64 p2)] Kk = S_spec_boLeaps_e p0_0 p0_1 p0_2 p1_0 p1_1 p2  (fun v2 v7 v11 v12 v13 c4096_0 c4096_1 c4096_2 c4112_0 c4112_1 => D_spec_boLeaps_0 g fuel p0_0 p0_1 p0_2 p1_0 p1_1 p2 fuel v2 v7 v11 v12 v13 c4096_0 c4096_1 c4096_2 c4112_0 c4112_1 Kk) := by
  kernel_rfl
def S_spec_boLeaps_0 {ρ : Type}  (v2 : Int) (v7 : List Int) (v11 : List Int) (v12 : Int) (v13 : Int) (c4096_0 : Int) (c4096_1 : Int) (c4096_2 : List Int) (c4112_0 : Int) (c4112_1 : Int) (b0 : (Int → List Int → List Int → Int → Int → Int → Int → List Int → Int → Int → Option ρ)) (K : List Int → Option ρ) : Option ρ :=
  (bif decide (v13 < v12) then (if 0 ≤ v13 then (if v13 < (v11.length : Int) then ((sh_spec_boIs c4096_0 c4096_1 c4096_2 c4112_0 c4112_1 v2 (v11.getD v13.toNat 0)).bind fun r1 => (bif r1 then (if (v7 ++ [v11.getD v13.toNat 0]).length ≤ 1099511627776 then b0 v2 (v7 ++ [v11.getD v13.toNat 0]) v11 v12 (IntKind.i64.wrap (v13 + (1 : Int))) c4096_0 c4096_1 c4096_2 c4112_0 c4112_1 else none) else b0 v2 v7 v11 v12 (IntKind.i64.wrap (v13 + (1 : Int))) c4096_0 c4096_1 c4096_2 c4112_0 c4112_1)) else none) else none) else K v7)
theorem s_spec_boLeaps_0 {ρ : Type} (g fuel : Nat) (p0_0 : Int) (p0_1 : Int) (p0_2 : List Int) (p1_0 : Int) (p1_1 : Int) (p2 : Int) (n : Nat) (v2 : Int) (v7 : List Int) (v11 : List Int) (v12 : Int) (v13 : Int) (c4096_0 : Int) (c4096_1 : Int) (c4096_2 : List Int) (c4112_0 : Int) (c4112_1 : Int) (Kk : Out → Option ρ) : D_spec_boLeaps_0 g fuel p0_0 p0_1 p0_2 p1_0 p1_1 p2  (n + 1) v2 v7 v11 v12 v13 c4096_0 c4096_1 c4096_2 c4112_0 c4112_1 Kk = S_spec_boLeaps_0  v2 v7 v11 v12 v13 c4096_0 c4096_1 c4096_2 c4112_0 c4112_1 (fun v2 v7 v11 v12 v13 c4096_0 c4096_1 c4096_2 c4112_0 c4112_1 => D_spec_boLeaps_0 g fuel p0_0 p0_1 p0_2 p1_0 p1_1 p2 n v2 v7 v11 v12 v13 c4096_0 c4096_1 c4096_2 c4112_0 c4112_1 Kk) (fun r1 => Kk ⟨[.x (.sl (.ints .i64 r1))], []⟩) := by
  kernel_rfl
def F_spec_boLeaps_0 {ρ : Type} (fuel : Nat)   (K : List Int → Option ρ) : Nat → Int → List Int → List Int → Int → Int → Int → Int → List Int → Int → Int → Option ρ
  | 0, _, _, _, _, _, _, _, _, _, _ => none
  | n + 1, v2, v7, v11, v12, v13, c4096_0, c4096_1, c4096_2, c4112_0, c4112_1 => S_spec_boLeaps_0  v2 v7 v11 v12 v13 c4096_0 c4096_1 c4096_2 c4112_0 c4112_1 (F_spec_boLeaps_0 fuel   K n) K
theorem f_spec_boLeaps_0 {ρ : Type} (fuel : Nat) (p0_0 : Int) (p0_1 : Int) (p0_2 : List Int) (p1_0 : Int) (p1_1 : Int) (p2 : Int) (Kk : Out → Option ρ) : ∀ (n : Nat) (v2 : Int) (v7 : List Int) (v11 : List Int) (v12 : Int) (v13 : Int) (c4096_0 : Int) (c4096_1 : Int) (c4096_2 : List Int) (c4112_0 : Int) (c4112_1 : Int), D_spec_boLeaps_0 1 fuel p0_0 p0_1 p0_2 p1_0 p1_1 p2  n v2 v7 v11 v12 v13 c4096_0 c4096_1 c4096_2 c4112_0 c4112_1 Kk = F_spec_boLeaps_0 fuel   (fun r1 => Kk ⟨[.x (.sl (.ints .i64 r1))], []⟩) n v2 v7 v11 v12 v13 c4096_0 c4096_1 c4096_2 c4112_0 c4112_1 := by
  intro n
  induction n with
  | zero => intros; rfl
  | succ n ih =>
    intro v2 v7 v11 v12 v13 c4096_0 c4096_1 c4096_2 c4112_0 c4112_1
    rw [s_spec_boLeaps_0, F_spec_boLeaps_0]
    try simp only [ih]
def F_spec_boLeaps {ρ : Type} (fuel : Nat) (p0_0 : Int) (p0_1 : Int) (p0_2 : List Int) (p1_0 : Int) (p1_1 : Int) (p2 : Int)  (K : List Int → Option ρ) : Option ρ := S_spec_boLeaps_e p0_0 p0_1 p0_2 p1_0 p1_1 p2  (F_spec_boLeaps_0 fuel   K fuel)
theorem f_spec_boLeaps {ρ : Type} (fuel : Nat) (p0_0 : Int) (p0_1 : Int) (p0_2 : List Int) (p1_0 : Int) (p1_1 : Int) (p2 : Int) (Kk : Out → Option ρ) : runFn TT E_spec_boLeaps (kp_spec_boLeaps 1) fuel [.val, .val, .val] 3 false [[]] 28 [.tmp 6] b_spec_boLeaps [.agg [.int .i64 p0_0, .int .i64 p0_1, .sl (.ints .i64 p0_2)], .agg [.int .i64 p1_0, .int .i64 p1_1], .x (.int .i64 p2)] Kk = F_spec_boLeaps fuel p0_0 p0_1 p0_2 p1_0 p1_1 p2 (fun r1 => Kk ⟨[.x (.sl (.ints .i64 r1))], []⟩) := by
  rw [s_spec_boLeaps_e, F_spec_boLeaps]
  try simp only [f_spec_boLeaps_0]
noncomputable def sh_spec_boLeaps (p0_0 : Int) (p0_1 : Int) (p0_2 : List Int) (p1_0 : Int) (p1_1 : Int) (p2 : Int) : Option (List Int) := val fun n => F_spec_boLeaps n p0_0 p0_1 p0_2 p1_0 p1_1 p2 (fun r1 => some r1)
noncomputable def G_spec_boLeaps {ρ : Type} : List DU → (Out → Option ρ) → Option ρ
  | [.agg [.int .i64 p0_0, .int .i64 p0_1, .sl (.ints .i64 p0_2)], .agg [.int .i64 p1_0, .int .i64 p1_1], .x (.int .i64 p2)], K => (sh_spec_boLeaps p0_0 p0_1 p0_2 p1_0 p1_1 p2).bind fun r => K ⟨[.x (.sl (.ints .i64 r))], []⟩
  | _, _ => none
noncomputable def o_spec_boLeaps : Ora := ⟨[.val, .val, .val], 3, false, G_spec_boLeaps⟩
def un_spec_boLeaps : Out → Option (List Int)
  | ⟨[.x (.sl (.ints .i64 r1))], []⟩ => some r1
  | _ => none
theorem un_spec_boLeaps_ok {o : Out} {r : List Int} (h : un_spec_boLeaps o = some r) : o = ⟨[.x (.sl (.ints .i64 r))], []⟩ := by
  unfold un_spec_boLeaps at h
  split at h
  · injection h with h
    subst h
    rfl
  · cases h
theorem n_spec_boLeaps : ∀ k o, E_spec_boLeaps.fn k = some o → Nat1 o := fun k o h => (ook_list (P := Try.prog) (l := O_spec_boLeaps) (fk := E_spec_boLeaps.fk) (List.forall_mem_cons.2 ⟨m_spec_boCells, (List.forall_mem_cons.2 ⟨m_spec_boIs, (List.forall_mem_nil _)⟩)⟩)).nat k o h
theorem u_spec_boLeaps (fuel : Nat) (p0_0 : Int) (p0_1 : Int) (p0_2 : List Int) (p1_0 : Int) (p1_1 : Int) (p2 : Int) : runFn TT E_spec_boLeaps (kp_spec_boLeaps 1) fuel [.val, .val, .val] 3 false [[]] 28 [.tmp 6] b_spec_boLeaps [.agg [.int .i64 p0_0, .int .i64 p0_1, .sl (.ints .i64 p0_2)], .agg [.int .i64 p1_0, .int .i64 p1_1], .x (.int .i64 p2)] un_spec_boLeaps = F_spec_boLeaps fuel p0_0 p0_1 p0_2 p1_0 p1_1 p2 (fun r1 => some r1) := f_spec_boLeaps fuel p0_0 p0_1 p0_2 p1_0 p1_1 p2 un_spec_boLeaps
theorem sh_spec_boLeaps_of {n : Nat} {p0_0 : Int} {p0_1 : Int} {p0_2 : List Int} {p1_0 : Int} {p1_1 : Int} {p2 : Int} {r : List Int} (h : F_spec_boLeaps n p0_0 p0_1 p0_2 p1_0 p1_1 p2 (fun r1 => some r1) = some r) : sh_spec_boLeaps p0_0 p0_1 p0_2 p1_0 p1_1 p2 = some r := val_of (fun n m r hm h => by rw [← u_spec_boLeaps] at h ⊢; exact runFn_mono n_spec_boLeaps hm h) h
theorem m_spec_boLeaps : MeetsO Try.prog 92 o_spec_boLeaps := by
  refine ⟨fun ρ ds K => ?_, ⟨_, meets_run (kp := kp_spec_boLeaps 1) (weak := false) (df := [[]]) tsOk (ook_list (l := O_spec_boLeaps) (fk := E_spec_boLeaps.fk) (List.forall_mem_cons.2 ⟨m_spec_boCells, (List.forall_mem_cons.2 ⟨m_spec_boIs, (List.forall_mem_nil _)⟩)⟩)) mixed Try.func92 (body := b_spec_boLeaps) (by kernel_rfl) (ntmps := 28) (by kernel_rfl) (rs := [.tmp 6]) (by kernel_rfl), fun ds out h => ?_⟩, ⟨_, Try.func92, by kernel_rfl, by kernel_rfl⟩⟩
  · show G_spec_boLeaps ds K = (G_spec_boLeaps ds some).bind K
    unfold G_spec_boLeaps
    split
    · cases sh_spec_boLeaps _ _ _ _ _ _ <;> rfl
    · rfl
  · replace h : G_spec_boLeaps ds some = some out := h
    unfold G_spec_boLeaps at h
    split at h
    · obtain ⟨r, hr, h⟩ := Option.bind_eq_some_iff.1 h
      injection h with h
      subst h
      obtain ⟨n, hn⟩ := val_some hr
      replace hn := (u_spec_boLeaps n _ _ _ _ _ _).trans hn
      rw [runFn_bind (K := un_spec_boLeaps) (K' := some) (f := un_spec_boLeaps) n_spec_boLeaps (fun _ => rfl)] at hn
      obtain ⟨o, h1, h2⟩ := Option.bind_eq_some_iff.1 hn
      rw [un_spec_boLeaps_ok h2] at h1
      exact ⟨n, h1⟩
    · cases h
/-! f93 loop.example.g01239.spec.pzFits -/
noncomputable def b_spec_pzFits : Code := Try.f93.body.getD .skip
def kp_spec_pzFits (g : Nat) : Nat → Option Keep := lk []
def O_spec_pzFits : List (FuncId × Ora) := [(91, o_spec_l1Has)]
def E_spec_pzFits : Env := ⟨lk O_spec_pzFits, fun _ => false⟩
def S_spec_pzFits_e {ρ : Type} (p0_0 : Int) (p0_1 : Int) (p0_2 : List Int) (p0_3 : Int) (p0_4 : Int) (p0_5 : List Int) (p1 : Int) (p2 : Int)   (K : Bool → Option ρ) : Option ρ :=
  (if 0 ≤ p1 then (if p1 < (p0_5.length : Int) then (bif decide ((p0_5.getD p1.toNat 0) = p2) then K true else (bif decide ((p0_5.getD p1.toNat 0) = (0 : Int)) then ((sh_spec_l1Has p0_5 p2).bind fun r1 => K !r1) else K false)) else none) else none)
theorem s_spec_pzFits_e {ρ : Type} (g fuel : Nat) (p0_0 : Int) (p0_1 : Int) (p0_2 : List Int) (p0_3 : Int) (p0_4 : Int) (p0_5 : List Int) (p1 : Int) (p2 : Int) (Kk : Out → Option ρ) : runFn TT E_spec_pzFits (kp_spec_pzFits g) fuel [.val, .val, .val] 3 false [[]] 27 [.tmp 6] b_spec_pzFits [.agg [.int .i64 p0_0, .int .i64 p0_1, .sl (.ints .i64 p0_2), .int .i64 p0_3, .int .i64 p0_4, .sl (.ints .i64 p0_5)], .x (.int .i64 p1), .x (.int .i64 p2)] Kk = S_spec_pzFits_e p0_0 p0_1 p0_2 p0_3 p0_4 p0_5 p1 p2   (fun r1 => Kk ⟨[.x (.bool r1)], []⟩) := by
  kernel_rfl
def F_spec_pzFits {ρ : Type} (fuel : Nat) (p0_0 : Int) (p0_1 : Int) (p0_2 : List Int) (p0_3 : Int) (p0_4 : Int) (p0_5 : List Int) (p1 : Int) (p2 : Int)  (K : Bool → Option ρ) : Option ρ := S_spec_pzFits_e p0_0 p0_1 p0_2 p0_3 p0_4 p0_5 p1 p2   K
theorem f_spec_pzFits {ρ : Type} (fuel : Nat) (p0_0 : Int) (p0_1 : Int) (p0_2 : List Int) (p0_3 : Int) (p0_4 : Int) (p0_5 : List Int) (p1 : Int) (p2 : Int) (Kk : Out → Option ρ) : runFn TT E_spec_pzFits (kp_spec_pzFits 1) fuel [.val, .val, .val] 3 false [[]] 27 [.tmp 6] b_spec_pzFits [.agg [.int .i64 p0_0, .int .i64 p0_1, .sl (.ints .i64 p0_2), .int .i64 p0_3, .int .i64 p0_4, .sl (.ints .i64 p0_5)], .x (.int .i64 p1), .x (.int .i64 p2)] Kk = F_spec_pzFits fuel p0_0 p0_1 p0_2 p0_3 p0_4 p0_5 p1 p2 (fun r1 => Kk ⟨[.x (.bool r1)], []⟩) := by
  rw [s_spec_pzFits_e, F_spec_pzFits]
noncomputable def sh_spec_pzFits (p0_0 : Int) (p0_1 : Int) (p0_2 : List Int) (p0_3 : Int) (p0_4 : Int) (p0_5 : List Int) (p1 : Int) (p2 : Int) : Option (Bool) := F_spec_pzFits 0 p0_0 p0_1 p0_2 p0_3 p0_4 p0_5 p1 p2 (fun r1 => some r1)
noncomputable def G_spec_pzFits {ρ : Type} : List DU → (Out → Option ρ) → Option ρ
  | [.agg [.int .i64 p0_0, .int .i64 p0_1, .sl (.ints .i64 p0_2), .int .i64 p0_3, .int .i64 p0_4, .sl (.ints .i64 p0_5)], .x (.int .i64 p1), .x (.int .i64 p2)], K => (sh_spec_pzFits p0_0 p0_1 p0_2 p0_3 p0_4 p0_5 p1 p2).bind fun r => K ⟨[.x (.bool r)], []⟩
  | _, _ => none
noncomputable def o_spec_pzFits : Ora := ⟨[.val, .val, .val], 3, false, G_spec_pzFits⟩
def un_spec_pzFits : Out → Option (Bool)
  | ⟨[.x (.bool r1)], []⟩ => some r1
  | _ => none
theorem un_spec_pzFits_ok {o : Out} {r : Bool} (h : un_spec_pzFits o = some r) : o = ⟨[.x (.bool r)], []⟩ := by
  unfold un_spec_pzFits at h
  split at h
  · injection h with h
    subst h
    rfl
  · cases h
theorem n_spec_pzFits : ∀ k o, E_spec_pzFits.fn k = some o → Nat1 o := fun k o h => (ook_list (P := Try.prog) (l := O_spec_pzFits) (fk := E_spec_pzFits.fk) (List.forall_mem_cons.2 ⟨m_spec_l1Has, (List.forall_mem_nil _)⟩)).nat k o h
theorem u_spec_pzFits (fuel : Nat) (p0_0 : Int) (p0_1 : Int) (p0_2 : List Int) (p0_3 : Int) (p0_4 : Int) (p0_5 : List Int) (p1 : Int) (p2 : Int) : runFn TT E_spec_pzFits (kp_spec_pzFits 1) fuel [.val, .val, .val] 3 false [[]] 27 [.tmp 6] b_spec_pzFits [.agg [.int .i64 p0_0, .int .i64 p0_1, .sl (.ints .i64 p0_2), .int .i64 p0_3, .int .i64 p0_4, .sl (.ints .i64 p0_5)], .x (.int .i64 p1), .x (.int .i64 p2)] un_spec_pzFits = F_spec_pzFits fuel p0_0 p0_1 p0_2 p0_3 p0_4 p0_5 p1 p2 (fun r1 => some r1) := f_spec_pzFits fuel p0_0 p0_1 p0_2 p0_3 p0_4 p0_5 p1 p2 un_spec_pzFits
theorem m_spec_pzFits : MeetsO Try.prog 93 o_spec_pzFits := by
  refine ⟨fun ρ ds K => ?_, ⟨_, meets_run (kp := kp_spec_pzFits 1) (weak := false) (df := [[]]) tsOk (ook_list (l := O_spec_pzFits) (fk := E_spec_pzFits.fk) (List.forall_mem_cons.2 ⟨m_spec_l1Has, (List.forall_mem_nil _)⟩)) mixed Try.func93 (body := b_spec_pzFits) (by kernel_rfl) (ntmps := 27) (by kernel_rfl) (rs := [.tmp 6]) (by kernel_rfl), fun ds out h => ?_⟩, ⟨_, Try.func93, by kernel_rfl, by kernel_rfl⟩⟩
  · show G_spec_pzFits ds K = (G_spec_pzFits ds some).bind K
    unfold G_spec_pzFits
    split
    · cases sh_spec_pzFits _ _ _ _ _ _ _ _ <;> rfl
    · rfl
  · replace h : G_spec_pzFits ds some = some out := h
    unfold G_spec_pzFits at h
    split at h
    · obtain ⟨r, hr, h⟩ := Option.bind_eq_some_iff.1 h
      injection h with h
      subst h
      have hn := (u_spec_pzFits 0 _ _ _ _ _ _ _ _).trans hr
      rw [runFn_bind (K := un_spec_pzFits) (K' := some) (f := un_spec_pzFits) n_spec_pzFits (fun _ => rfl)] at hn
      obtain ⟨o, h1, h2⟩ := Option.bind_eq_some_iff.1 hn
      rw [un_spec_pzFits_ok h2] at h1
      exact ⟨0, h1⟩
    · cases h
/-! f78 loop.example.g01239.spec.pzLook -/
noncomputable def b_spec_pzLook : Code := Try.f78.body.getD .skip
def kp_spec_pzLook (g : Nat) : Nat → Option Keep := lk [(8, ⟨[], [1, 2, 3, 4, 45, 46, 47], [255, 4096], [], [(255, 0, 33177216)], g⟩), (200007, ⟨[], [1, 2, 3, 4, 8], [255, 4096], [(8, 4095)], [], g⟩)]
noncomputable def G_spec_pzLook (rc : Int → Int → (List Int) → Int → Int → (List Int) → (List Int) → (List Int) → (List (List Int)) → Option (List (List Int))) {ρ : Type} : List DU → (Out → Option ρ) → Option ρ
  | [.agg [.int .i64 p0_0, .int .i64 p0_1, .sl (.ints .i64 p0_2), .int .i64 p0_3, .int .i64 p0_4, .sl (.ints .i64 p0_5)], .x (.sl (.ints .i64 p1)), .x (.sl (.ints .i64 p2)), .ptr [.sl (.orows p3)]], K => (rc p0_0 p0_1 p0_2 p0_3 p0_4 p0_5 p1 p2 p3).bind fun r => K ⟨[], [.ptr [.sl (.orows r)]]⟩
  | _, _ => none
noncomputable def or_spec_pzLook (rc : Int → Int → (List Int) → Int → Int → (List Int) → (List Int) → (List Int) → (List (List Int)) → Option (List (List Int))) : Ora := ⟨[.val, .val, .val, .ref], 4, false, G_spec_pzLook rc⟩
theorem ng_spec_pzLook (rc : Int → Int → (List Int) → Int → Int → (List Int) → (List Int) → (List Int) → (List (List Int)) → Option (List (List Int))) : Nat1 (or_spec_pzLook rc) := fun ρ ds K => by
  show G_spec_pzLook rc ds K = (G_spec_pzLook rc ds some).bind K
  unfold G_spec_pzLook
  split
  · cases rc _ _ _ _ _ _ _ _ _ <;> rfl
  · rfl
def O_spec_pzLook (rc : Int → Int → (List Int) → Int → Int → (List Int) → (List Int) → (List Int) → (List (List Int)) → Option (List (List Int))) : List (FuncId × Ora) := [(67, o_spec_l1Own), (78, or_spec_pzLook rc), (91, o_spec_l1Has), (92, o_spec_boLeaps), (93, o_spec_pzFits)]
def E_spec_pzLook (rc : Int → Int → (List Int) → Int → Int → (List Int) → (List Int) → (List Int) → (List (List Int)) → Option (List (List Int))) : Env := ⟨lk (O_spec_pzLook rc), fun _ => false⟩
noncomputable def D_spec_pzLook_0 {ρ : Type} (g fuel : Nat) (rc : Int → Int → (List Int) → Int → Int → (List Int) → (List Int) → (List Int) → (List (List Int)) → Option (List (List Int))) (p0_0 : Int) (p0_1 : Int) (p0_2 : List Int) (p0_3 : Int) (p0_4 : Int) (p0_5 : List Int) (p1 : List Int) (p2 : List Int) (p3 : List (List Int)) (n : Nat) (v1 : List Int) (v2 : List Int) (v45 : List Int) (v46 : Int) (v47 : Int) (c255_0 : List (List Int)) (c4096_0 : Int) (c4096_1 : Int) (c4096_2 : List Int) (c4096_3 : Int) (c4096_4 : Int) (c4096_5 : List Int) (Kk : Out → Option ρ) : Option ρ :=
  iter (run TT (E_spec_pzLook rc) (kp_spec_pzLook g) fuel (cL (cB (cS2 (cS2 (cS2 (cS2 (cS2 (cS2 (b_spec_pzLook)))))))))) (nrmAt (kp_spec_pzLook g) (firstRid (cL (cB (cS2 (cS2 (cS2 (cS2 (cS2 (cS2 (b_spec_pzLook))))))))))) n (⟨[uu, .u (.x (.ro (.ints .i64 v1))), .u (.x (.ro (.ints .i64 v2))), .u (.x (.ptr 255 0)), .u (.x (.ptr 4096 0)), uu, uu, uu, uu, uu, uu, uu, uu, uu, uu, uu, uu, uu, uu, uu, uu, uu, uu, uu, uu, uu, uu, uu, uu, uu, uu, uu, uu, uu, uu, uu, uu, uu, uu, uu, uu, uu, uu, uu, uu, .u (.x (.ro (.ints .i64 v45))), .u (.x (.int .i64 v46)), .u (.x (.int .i64 v47)), uu, uu, uu, uu, uu, uu, uu, uu, uu, uu, uu, uu, uu, uu, uu, uu, uu, uu, uu, uu, uu, uu, uu, uu, uu], [(255, [.own 33177216 (.orows c255_0)]), (4096, [.int .i64 c4096_0, .int .i64 c4096_1, .ro (.ints .i64 c4096_2), .int .i64 c4096_3, .int .i64 c4096_4, .ro (.ints .i64 c4096_5)])], [], []⟩) (blkK 0 (topK TT [.val, .val, .val, .ref] false [] [] [.agg [.int .i64 p0_0, .int .i64 p0_1, .sl (.ints .i64 p0_2), .int .i64 p0_3, .int .i64 p0_4, .sl (.ints .i64 p0_5)], .x (.sl (.ints .i64 p1)), .x (.sl (.ints .i64 p2)), .ptr [.sl (.orows p3)]] Kk))
noncomputable def B_spec_pzLook_1 {ρ : Type} (g fuel : Nat) (rc : Int → Int → (List Int) → Int → Int → (List Int) → (List Int) → (List Int) → (List (List Int)) → Option (List (List Int))) (p0_0 : Int) (p0_1 : Int) (p0_2 : List Int) (p0_3 : Int) (p0_4 : Int) (p0_5 : List Int) (p1 : List Int) (p2 : List Int) (p3 : List (List Int)) (v1 : List Int) (v2 : List Int) (v8 : List Int) (c255_0 : List (List Int)) (c4096_0 : Int) (c4096_1 : Int) (c4096_2 : List Int) (c4096_3 : Int) (c4096_4 : Int) (c4096_5 : List Int) (Kk : Out → Option ρ) : Option ρ :=
  run TT (E_spec_pzLook rc) (kp_spec_pzLook g) fuel (cS2 (cS2 (cS2 (cS2 (cS2 (b_spec_pzLook)))))) (⟨[uu, .u (.x (.ro (.ints .i64 v1))), .u (.x (.ro (.ints .i64 v2))), .u (.x (.ptr 255 0)), .u (.x (.ptr 4096 0)), uu, uu, uu, .u (.x (.ro (.ints .i64 v8))), uu, uu, uu, uu, uu, uu, uu, uu, uu, uu, uu, uu, uu, uu, uu, uu, uu, uu, uu, uu, uu, uu, uu, uu, uu, uu, uu, uu, uu, uu, uu, uu, uu, uu, uu, uu, uu, uu, uu, uu, uu, uu, uu, uu, uu, uu, uu, uu, uu, uu, uu, uu, uu, uu, uu, uu, uu, uu, uu, uu, uu, uu, uu, uu], [(255, [.own 192 (.orows c255_0)]), (4096, [.int .i64 c4096_0, .int .i64 c4096_1, .ro (.ints .i64 c4096_2), .int .i64 c4096_3, .int .i64 c4096_4, .ro (.ints .i64 c4096_5)])], [], []⟩) (topK TT [.val, .val, .val, .ref] false [] [] [.agg [.int .i64 p0_0, .int .i64 p0_1, .sl (.ints .i64 p0_2), .int .i64 p0_3, .int .i64 p0_4, .sl (.ints .i64 p0_5)], .x (.sl (.ints .i64 p1)), .x (.sl (.ints .i64 p2)), .ptr [.sl (.orows p3)]] Kk)
noncomputable def D_spec_pzLook_1 {ρ : Type} (g fuel : Nat) (rc : Int → Int → (List Int) → Int → Int → (List Int) → (List Int) → (List Int) → (List (List Int)) → Option (List (List Int))) (p0_0 : Int) (p0_1 : Int) (p0_2 : List Int) (p0_3 : Int) (p0_4 : Int) (p0_5 : List Int) (p1 : List Int) (p2 : List Int) (p3 : List (List Int)) (v1 : List Int) (v2 : List Int) (v8 : List Int) (c255_0 : List (List Int)) (c4096_0 : Int) (c4096_1 : Int) (c4096_2 : List Int) (c4096_3 : Int) (c4096_4 : Int) (c4096_5 : List Int) (Kk : Out → Option ρ) : Option ρ := gate g (B_spec_pzLook_1 g fuel rc p0_0 p0_1 p0_2 p0_3 p0_4 p0_5 p1 p2 p3  v1 v2 v8 c255_0 c4096_0 c4096_1 c4096_2 c4096_3 c4096_4 c4096_5 Kk)
def S_spec_pzLook_e {ρ : Type} (rc : Int → Int → (List Int) → Int → Int → (List Int) → (List Int) → (List Int) → (List (List Int)) → Option (List (List Int))) (p0_0 : Int) (p0_1 : Int) (p0_2 : List Int) (p0_3 : Int) (p0_4 : Int) (p0_5 : List Int) (p1 : List Int) (p2 : List Int) (p3 : List (List Int))  (k1 : (List Int → List Int → List Int → List (List Int) → Int → Int → List Int → Int → Int → List Int → Option ρ)) (K : List (List Int) → Option ρ) : Option ρ :=
  (bif decide ((p3.length : Int) > (200 : Int)) then K p3 else (bif decide ((p2.length : Int) = (p1.length : Int)) then ((sh_spec_l1Own p2).bind fun r1 => (if (p3 ++ [r1]).length ≤ 1099511627776 then K (p3 ++ [r1]) else none)) else (bif decide ((p2.length : Int) > (0 : Int)) then (if 0 ≤ (IntKind.i64.wrap ((p2.length : Int) - (1 : Int))) then (if (IntKind.i64.wrap ((p2.length : Int) - (1 : Int))) < (p2.length : Int) then ((sh_spec_boLeaps p0_0 p0_1 p0_2 p0_3 p0_4 (p2.getD ((IntKind.i64.wrap ((p2.length : Int) - (1 : Int))).toNat) 0)).bind fun r2 => k1 p1 p2 r2 p3 p0_0 p0_1 p0_2 p0_3 p0_4 p0_5) else none) else none) else k1 p1 p2 p1 p3 p0_0 p0_1 p0_2 p0_3 p0_4 p0_5)))
theorem s_spec_pzLook_e {ρ : Type} (g fuel : Nat) (rc : Int → Int → (List Int) → Int → Int → (List Int) → (List Int) → (List Int) → (List (List Int)) → Option (List (List Int))) (p0_0 : Int) (p0_1 : Int) (p0_2 : List Int) (p0_3 : Int) (p0_4 : Int) (p0_5 : List Int) (p1 : List Int) (p2 : List Int) (p3 : List (List Int)) (Kk : Out → Option ρ) : runFn TT (E_spec_pzLook rc) (kp_spec_pzLook g) fuel [.val, .val, .val, .ref] 4 false [] 73 [] b_spec_pzLook [.agg [.int .i64 p0_0, .int .i64 p0_1, .sl (.ints .i64 p0_2), .int .i64 p0_3, .int .i64 p0_4, .sl (.ints .i64 p0_5)], .x (.sl (.ints .i64 p1)), .x (.sl (.ints .i64 p2)), .ptr [.sl (.orows p3)]] Kk = S_spec_pzLook_e rc p0_0 p0_1 p0_2 p0_3 p0_4 p0_5 p1 p2 p3  (fun v1 v2 v8 c255_0 c4096_0 c4096_1 c4096_2 c4096_3 c4096_4 c4096_5 => D_spec_pzLook_1 g fuel rc p0_0 p0_1 p0_2 p0_3 p0_4 p0_5 p1 p2 p3  v1 v2 v8 c255_0 c4096_0 c4096_1 c4096_2 c4096_3 c4096_4 c4096_5 Kk) (fun r1 => Kk ⟨[], [.ptr [.sl (.orows r1)]]⟩) := by
  kernel_rfl
def S_spec_pzLook_0 {ρ : Type} (rc : Int → Int → (List Int) → Int → Int → (List Int) → (List Int) → (List Int) → (List (List Int)) → Option (List (List Int))) (v1 : List Int) (v2 : List Int) (v45 : List Int) (v46 : Int) (v47 : Int) (c255_0 : List (List Int)) (c4096_0 : Int) (c4096_1 : Int) (c4096_2 : List Int) (c4096_3 : Int) (c4096_4 : Int) (c4096_5 : List Int) (b0 : (List Int → List Int → List Int → Int → Int → List (List Int) → Int → Int → List Int → Int → Int → List Int → Option ρ)) (K : List (List Int) → Option ρ) : Option ρ :=
  (bif decide (v47 < v46) then (if 0 ≤ v47 then (if v47 < (v45.length : Int) then ((sh_spec_pzFits c4096_0 c4096_1 c4096_2 c4096_3 c4096_4 c4096_5 (v45.getD v47.toNat 0) (IntKind.i64.wrap ((v2.length : Int) + (1 : Int)))).bind fun r1 => (bif r1 then ((sh_spec_l1Has v2 (v45.getD v47.toNat 0)).bind fun r2 => (bif !r2 then ((sh_spec_l1Own v2).bind fun r3 => (if (r3 ++ [v45.getD v47.toNat 0]).length ≤ 1099511627776 then ((rc c4096_0 c4096_1 c4096_2 c4096_3 c4096_4 c4096_5 v1 (r3 ++ [v45.getD v47.toNat 0]) c255_0).bind fun r4 => b0 v1 v2 v45 v46 (IntKind.i64.wrap (v47 + (1 : Int))) r4 c4096_0 c4096_1 c4096_2 c4096_3 c4096_4 c4096_5) else none)) else b0 v1 v2 v45 v46 (IntKind.i64.wrap (v47 + (1 : Int))) c255_0 c4096_0 c4096_1 c4096_2 c4096_3 c4096_4 c4096_5)) else b0 v1 v2 v45 v46 (IntKind.i64.wrap (v47 + (1 : Int))) c255_0 c4096_0 c4096_1 c4096_2 c4096_3 c4096_4 c4096_5)) else none) else none) else K c255_0)
theorem s_spec_pzLook_0 {ρ : Type} (g fuel : Nat) (rc : Int → Int → (List Int) → Int → Int → (List Int) → (List Int) → (List Int) → (List (List Int)) → Option (List (List Int))) (p0_0 : Int) (p0_1 : Int) (p0_2 : List Int) (p0_3 : Int) (p0_4 : Int) (p0_5 : List Int) (p1 : List Int) (p2 : List Int) (p3 : List (List Int)) (n : Nat) (v1 : List Int) (v2 : List Int) (v45 : List Int) (v46 : Int) (v47 : Int) (c255_0 : List (List Int)) (c4096_0 : Int) (c4096_1 : Int) (c4096_2 : List Int) (c4096_3 : Int) (c4096_4 : Int) (c4096_5 : List Int) (Kk : Out → Option ρ) : D_spec_pzLook_0 g fuel rc p0_0 p0_1 p0_2 p0_3 p0_4 p0_5 p1 p2 p3  (n + 1) v1 v2 v45 v46 v47 c255_0 c4096_0 c4096_1 c4096_2 c4096_3 c4096_4 c4096_5 Kk = S_spec_pzLook_0 rc v1 v2 v45 v46 v47 c255_0 c4096_0 c4096_1 c4096_2 c4096_3 c4096_4 c4096_5 (fun v1 v2 v45 v46 v47 c255_0 c4096_0 c4096_1 c4096_2 c4096_3 c4096_4 c4096_5 => D_spec_pzLook_0 g fuel rc p0_0 p0_1 p0_2 p0_3 p0_4 p0_5 p1 p2 p3 n v1 v2 v45 v46 v47 c255_0 c4096_0 c4096_1 c4096_2 c4096_3 c4096_4 c4096_5 Kk) (fun r1 => Kk ⟨[], [.ptr [.sl (.orows r1)]]⟩) := by
  kernel_rfl
def S_spec_pzLook_1 {ρ : Type}  (v1 : List Int) (v2 : List Int) (v8 : List Int) (c255_0 : List (List Int)) (c4096_0 : Int) (c4096_1 : Int) (c4096_2 : List Int) (c4096_3 : Int) (c4096_4 : Int) (c4096_5 : List Int) (k0 : (List Int → List Int → List Int → Int → Int → List (List Int) → Int → Int → List Int → Int → Int → List Int → Option ρ)) : Option ρ :=
  k0 v1 v2 v8 (v8.length : Int) (0 : Int) c255_0 c4096_0 c4096_1 c4096_2 c4096_3 c4096_4 c4096_5
theorem s_spec_pzLook_1 {ρ : Type} (g fuel : Nat) (rc : Int → Int → (List Int) → Int → Int → (List Int) → (List Int) → (List Int) → (List (List Int)) → Option (List (List Int))) (p0_0 : Int) (p0_1 : Int) (p0_2 : List Int) (p0_3 : Int) (p0_4 : Int) (p0_5 : List Int) (p1 : List Int) (p2 : List Int) (p3 : List (List Int)) (v1 : List Int) (v2 : List Int) (v8 : List Int) (c255_0 : List (List Int)) (c4096_0 : Int) (c4096_1 : Int) (c4096_2 : List Int) (c4096_3 : Int) (c4096_4 : Int) (c4096_5 : List Int) (Kk : Out → Option ρ) : B_spec_pzLook_1 g fuel rc p0_0 p0_1 p0_2 p0_3 p0_4 p0_5 p1 p2 p3  v1 v2 v8 c255_0 c4096_0 c4096_1 c4096_2 c4096_3 c4096_4 c4096_5 Kk = S_spec_pzLook_1  v1 v2 v8 c255_0 c4096_0 c4096_1 c4096_2 c4096_3 c4096_4 c4096_5 (fun v1 v2 v45 v46 v47 c255_0 c4096_0 c4096_1 c4096_2 c4096_3 c4096_4 c4096_5 => D_spec_pzLook_0 g fuel rc p0_0 p0_1 p0_2 p0_3 p0_4 p0_5 p1 p2 p3 fuel v1 v2 v45 v46 v47 c255_0 c4096_0 c4096_1 c4096_2 c4096_3 c4096_4 c4096_5 Kk) := by
  kernel_rfl
def F_spec_pzLook_0 {ρ : Type} (fuel : Nat) (rc : Int → Int → (List Int) → Int → Int → (List Int) → (List Int) → (List Int) → (List (List Int)) → Option (List (List Int)))  (K : List (List Int) → Option ρ) : Nat → List Int → List Int → List Int → Int → Int → List (List Int) → Int → Int → List Int → Int → Int → List Int → Option ρ
  | 0, _, _, _, _, _, _, _, _, _, _, _, _ => none
  | n + 1, v1, v2, v45, v46, v47, c255_0, c4096_0, c4096_1, c4096_2, c4096_3, c4096_4, c4096_5 => S_spec_pzLook_0 rc v1 v2 v45 v46 v47 c255_0 c4096_0 c4096_1 c4096_2 c4096_3 c4096_4 c4096_5 (F_spec_pzLook_0 fuel rc  K n) K
theorem f_spec_pzLook_0 {ρ : Type} (fuel : Nat) (rc : Int → Int → (List Int) → Int → Int → (List Int) → (List Int) → (List Int) → (List (List Int)) → Option (List (List Int))) (p0_0 : Int) (p0_1 : Int) (p0_2 : List Int) (p0_3 : Int) (p0_4 : Int) (p0_5 : List Int) (p1 : List Int) (p2 : List Int) (p3 : List (List Int)) (Kk : Out → Option ρ) : ∀ (n : Nat) (v1 : List Int) (v2 : List Int) (v45 : List Int) (v46 : Int) (v47 : Int) (c255_0 : List (List Int)) (c4096_0 : Int) (c4096_1 : Int) (c4096_2 : List Int) (c4096_3 : Int) (c4096_4 : Int) (c4096_5 : List Int), D_spec_pzLook_0 1 fuel rc p0_0 p0_1 p0_2 p0_3 p0_4 p0_5 p1 p2 p3  n v1 v2 v45 v46 v47 c255_0 c4096_0 c4096_1 c4096_2 c4096_3 c4096_4 c4096_5 Kk = F_spec_pzLook_0 fuel rc  (fun r1 => Kk ⟨[], [.ptr [.sl (.orows r1)]]⟩) n v1 v2 v45 v46 v47 c255_0 c4096_0 c4096_1 c4096_2 c4096_3 c4096_4 c4096_5 := by
  intro n
  induction n with
  | zero => intros; rfl
  | succ n ih =>
    intro v1 v2 v45 v46 v47 c255_0 c4096_0 c4096_1 c4096_2 c4096_3 c4096_4 c4096_5
    rw [s_spec_pzLook_0, F_spec_pzLook_0]
    try simp only [ih]
def F_spec_pzLook_1 {ρ : Type} (fuel : Nat) (rc : Int → Int → (List Int) → Int → Int → (List Int) → (List Int) → (List Int) → (List (List Int)) → Option (List (List Int)))  (K : List (List Int) → Option ρ) (v1 : List Int) (v2 : List Int) (v8 : List Int) (c255_0 : List (List Int)) (c4096_0 : Int) (c4096_1 : Int) (c4096_2 : List Int) (c4096_3 : Int) (c4096_4 : Int) (c4096_5 : List Int) : Option ρ := S_spec_pzLook_1  v1 v2 v8 c255_0 c4096_0 c4096_1 c4096_2 c4096_3 c4096_4 c4096_5 (F_spec_pzLook_0 fuel rc  K fuel)
theorem f_spec_pzLook_1 {ρ : Type} (fuel : Nat) (rc : Int → Int → (List Int) → Int → Int → (List Int) → (List Int) → (List Int) → (List (List Int)) → Option (List (List Int))) (p0_0 : Int) (p0_1 : Int) (p0_2 : List Int) (p0_3 : Int) (p0_4 : Int) (p0_5 : List Int) (p1 : List Int) (p2 : List Int) (p3 : List (List Int)) (v1 : List Int) (v2 : List Int) (v8 : List Int) (c255_0 : List (List Int)) (c4096_0 : Int) (c4096_1 : Int) (c4096_2 : List Int) (c4096_3 : Int) (c4096_4 : Int) (c4096_5 : List Int) (Kk : Out → Option ρ) : D_spec_pzLook_1 1 fuel rc p0_0 p0_1 p0_2 p0_3 p0_4 p0_5 p1 p2 p3  v1 v2 v8 c255_0 c4096_0 c4096_1 c4096_2 c4096_3 c4096_4 c4096_5 Kk = F_spec_pzLook_1 fuel rc  (fun r1 => Kk ⟨[], [.ptr [.sl (.orows r1)]]⟩) v1 v2 v8 c255_0 c4096_0 c4096_1 c4096_2 c4096_3 c4096_4 c4096_5 := by
  rw [D_spec_pzLook_1, gate_one, s_spec_pzLook_1, F_spec_pzLook_1]
  try simp only [f_spec_pzLook_0]
def F_spec_pzLook {ρ : Type} (fuel : Nat) (rc : Int → Int → (List Int) → Int → Int → (List Int) → (List Int) → (List Int) → (List (List Int)) → Option (List (List Int))) (p0_0 : Int) (p0_1 : Int) (p0_2 : List Int) (p0_3 : Int) (p0_4 : Int) (p0_5 : List Int) (p1 : List Int) (p2 : List Int) (p3 : List (List Int))  (K : List (List Int) → Option ρ) : Option ρ := S_spec_pzLook_e rc p0_0 p0_1 p0_2 p0_3 p0_4 p0_5 p1 p2 p3  (F_spec_pzLook_1 fuel rc  K) K
theorem f_spec_pzLook {ρ : Type} (fuel : Nat) (rc : Int → Int → (List Int) → Int → Int → (List Int) → (List Int) → (List Int) → (List (List Int)) → Option (List (List Int))) (p0_0 : Int) (p0_1 : Int) (p0_2 : List Int) (p0_3 : Int) (p0_4 : Int) (p0_5 : List Int) (p1 : List Int) (p2 : List Int) (p3 : List (List Int)) (Kk : Out → Option ρ) : runFn TT (E_spec_pzLook rc) (kp_spec_pzLook 1) fuel [.val, .val, .val, .ref] 4 false [] 73 [] b_spec_pzLook [.agg [.int .i64 p0_0, .int .i64 p0_1, .sl (.ints .i64 p0_2), .int .i64 p0_3, .int .i64 p0_4, .sl (.ints .i64 p0_5)], .x (.sl (.ints .i64 p1)), .x (.sl (.ints .i64 p2)), .ptr [.sl (.orows p3)]] Kk = F_spec_pzLook fuel rc p0_0 p0_1 p0_2 p0_3 p0_4 p0_5 p1 p2 p3 (fun r1 => Kk ⟨[], [.ptr [.sl (.orows r1)]]⟩) := by
  rw [s_spec_pzLook_e, F_spec_pzLook]
  try simp only [f_spec_pzLook_0, f_spec_pzLook_1]
noncomputable def sh1_spec_pzLook (rc : Int → Int → (List Int) → Int → Int → (List Int) → (List Int) → (List Int) → (List (List Int)) → Option (List (List Int))) (p0_0 : Int) (p0_1 : Int) (p0_2 : List Int) (p0_3 : Int) (p0_4 : Int) (p0_5 : List Int) (p1 : List Int) (p2 : List Int) (p3 : List (List Int)) : Option (List (List Int)) := val fun n => F_spec_pzLook n rc p0_0 p0_1 p0_2 p0_3 p0_4 p0_5 p1 p2 p3 (fun r1 => some r1)
noncomputable def shn_spec_pzLook : Nat → Int → Int → (List Int) → Int → Int → (List Int) → (List Int) → (List Int) → (List (List Int)) → Option (List (List Int))
  | 0, _, _, _, _, _, _, _, _, _ => none
  | n + 1, p0_0, p0_1, p0_2, p0_3, p0_4, p0_5, p1, p2, p3 => sh1_spec_pzLook (shn_spec_pzLook n) p0_0 p0_1 p0_2 p0_3 p0_4 p0_5 p1 p2 p3
noncomputable def sh_spec_pzLook (p0_0 : Int) (p0_1 : Int) (p0_2 : List Int) (p0_3 : Int) (p0_4 : Int) (p0_5 : List Int) (p1 : List Int) (p2 : List Int) (p3 : List (List Int)) : Option (List (List Int)) := shn_spec_pzLook 1000 p0_0 p0_1 p0_2 p0_3 p0_4 p0_5 p1 p2 p3
noncomputable def o_spec_pzLook : Ora := or_spec_pzLook (shn_spec_pzLook 1000)
def un_spec_pzLook : Out → Option (List (List Int))
  | ⟨[], [.ptr [.sl (.orows r1)]]⟩ => some r1
  | _ => none
theorem un_spec_pzLook_ok {o : Out} {r : List (List Int)} (h : un_spec_pzLook o = some r) : o = ⟨[], [.ptr [.sl (.orows r)]]⟩ := by
  unfold un_spec_pzLook at h
  split at h
  · injection h with h
    subst h
    rfl
  · cases h
theorem n_spec_pzLook (rc : Int → Int → (List Int) → Int → Int → (List Int) → (List Int) → (List Int) → (List (List Int)) → Option (List (List Int))) : ∀ k o, (E_spec_pzLook rc).fn k = some o → Nat1 o := fun k o h => nat_list (l := O_spec_pzLook rc) (List.forall_mem_cons.2 ⟨m_spec_l1Own.nat, (List.forall_mem_cons.2 ⟨(ng_spec_pzLook rc), (List.forall_mem_cons.2 ⟨m_spec_l1Has.nat, (List.forall_mem_cons.2 ⟨m_spec_boLeaps.nat, (List.forall_mem_cons.2 ⟨m_spec_pzFits.nat, (List.forall_mem_nil _)⟩)⟩)⟩)⟩)⟩) k o h
theorem u_spec_pzLook (fuel : Nat) (rc : Int → Int → (List Int) → Int → Int → (List Int) → (List Int) → (List Int) → (List (List Int)) → Option (List (List Int))) (p0_0 : Int) (p0_1 : Int) (p0_2 : List Int) (p0_3 : Int) (p0_4 : Int) (p0_5 : List Int) (p1 : List Int) (p2 : List Int) (p3 : List (List Int)) : runFn TT (E_spec_pzLook rc) (kp_spec_pzLook 1) fuel [.val, .val, .val, .ref] 4 false [] 73 [] b_spec_pzLook [.agg [.int .i64 p0_0, .int .i64 p0_1, .sl (.ints .i64 p0_2), .int .i64 p0_3, .int .i64 p0_4, .sl (.ints .i64 p0_5)], .x (.sl (.ints .i64 p1)), .x (.sl (.ints .i64 p2)), .ptr [.sl (.orows p3)]] un_spec_pzLook = F_spec_pzLook fuel rc p0_0 p0_1 p0_2 p0_3 p0_4 p0_5 p1 p2 p3 (fun r1 => some r1) := f_spec_pzLook fuel rc p0_0 p0_1 p0_2 p0_3 p0_4 p0_5 p1 p2 p3 un_spec_pzLook
theorem sh1_spec_pzLook_of {n : Nat} {rc : Int → Int → (List Int) → Int → Int → (List Int) → (List Int) → (List Int) → (List (List Int)) → Option (List (List Int))} {p0_0 : Int} {p0_1 : Int} {p0_2 : List Int} {p0_3 : Int} {p0_4 : Int} {p0_5 : List Int} {p1 : List Int} {p2 : List Int} {p3 : List (List Int)} {r : List (List Int)} (h : F_spec_pzLook n rc p0_0 p0_1 p0_2 p0_3 p0_4 p0_5 p1 p2 p3 (fun r1 => some r1) = some r) : sh1_spec_pzLook rc p0_0 p0_1 p0_2 p0_3 p0_4 p0_5 p1 p2 p3 = some r := val_of (fun n m r hm h => by rw [← u_spec_pzLook] at h ⊢; exact runFn_mono (n_spec_pzLook rc) hm h) h
theorem ms_spec_pzLook (rc : Int → Int → (List Int) → Int → Int → (List Int) → (List Int) → (List Int) → (List (List Int)) → Option (List (List Int))) (hrc : MeetsO Try.prog 78 (or_spec_pzLook rc)) : MeetsO Try.prog 78 (or_spec_pzLook (sh1_spec_pzLook rc)) := by
  refine ⟨fun ρ ds K => ?_, ⟨_, meets_run (kp := kp_spec_pzLook 1) (weak := false) (df := []) tsOk (ook_list (l := (O_spec_pzLook rc)) (fk := (E_spec_pzLook rc).fk) (List.forall_mem_cons.2 ⟨m_spec_l1Own, (List.forall_mem_cons.2 ⟨hrc, (List.forall_mem_cons.2 ⟨m_spec_l1Has, (List.forall_mem_cons.2 ⟨m_spec_boLeaps, (List.forall_mem_cons.2 ⟨m_spec_pzFits, (List.forall_mem_nil _)⟩)⟩)⟩)⟩)⟩)) mixed Try.func78 (body := b_spec_pzLook) (by kernel_rfl) (ntmps := 73) (by kernel_rfl) (rs := []) (by kernel_rfl), fun ds out h => ?_⟩, ⟨_, Try.func78, by kernel_rfl, by kernel_rfl⟩⟩
  · exact ng_spec_pzLook _ ρ ds K
  · replace h : G_spec_pzLook (sh1_spec_pzLook rc) ds some = some out := h
    unfold G_spec_pzLook at h
    split at h
    · obtain ⟨r, hr, h⟩ := Option.bind_eq_some_iff.1 h
      injection h with h
      subst h
      obtain ⟨n, hn⟩ := val_some hr
      replace hn := (u_spec_pzLook n rc _ _ _ _ _ _ _ _ _).trans hn
      rw [runFn_bind (K := un_spec_pzLook) (K' := some) (f := un_spec_pzLook) (n_spec_pzLook rc) (fun _ => rfl)] at hn
      obtain ⟨o, h1, h2⟩ := Option.bind_eq_some_iff.1 hn
      rw [un_spec_pzLook_ok h2] at h1
      exact ⟨n, h1⟩
    · cases h
theorem m_spec_pzLook : MeetsO Try.prog 78 o_spec_pzLook := by
  have h : ∀ n, MeetsO Try.prog 78 (or_spec_pzLook (shn_spec_pzLook n)) := fun n => by
    induction n with
    | zero =>
      refine ⟨ng_spec_pzLook _, ⟨fun _ _ => False, fun w Z args ds B out _ _ _ hs => hs.elim, fun ds out h => ?_⟩, ⟨_, Try.func78, by kernel_rfl, by kernel_rfl⟩⟩
      replace h : G_spec_pzLook (shn_spec_pzLook 0) ds some = some out := h
      unfold G_spec_pzLook at h
      split at h
      · have h : (none : Option Out) = some out := h
        cases h
      · cases h
    | succ n ih => exact ms_spec_pzLook _ ih
  exact h 1000
/-! f58 loop.example.g01239.spec.pzAll -/
noncomputable def b_spec_pzAll : Code := Try.f58.body.getD .skip
def kp_spec_pzAll (g : Nat) : Nat → Option Keep := lk []
def O_spec_pzAll : List (FuncId × Ora) := [(56, o_spec_boCells), (78, o_spec_pzLook)]
def E_spec_pzAll : Env := ⟨lk O_spec_pzAll, fun _ => false⟩
def S_spec_pzAll_e {ρ : Type} (p0_0 : Int) (p0_1 : Int) (p0_2 : List Int) (p0_3 : Int) (p0_4 : Int) (p0_5 : List Int)   (K : List (List Int) → Bool → Option ρ) : Option ρ :=
  ((sh_spec_boCells p0_0 p0_1 p0_2).bind fun r1 => ((sh_spec_pzLook p0_0 p0_1 p0_2 p0_3 p0_4 p0_5 r1 [] []).bind fun r2 => K r2 (decide ((r2.length : Int) ≤ (200 : Int)))))
theorem s_spec_pzAll_e {ρ : Type} (g fuel : Nat) (p0_0 : Int) (p0_1 : Int) (p0_2 : List Int) (p0_3 : Int) (p0_4 : Int) (p0_5 : List Int) (Kk : Out → Option ρ) : runFn TT E_spec_pzAll (kp_spec_pzAll g) fuel [.val] 1 false [[], []] 14 [.tmp 2, .tmp 3] b_spec_pzAll [.agg [.int .i64 p0_0, .int .i64 p0_1, .sl (.ints .i64 p0_2), .int .i64 p0_3, .int .i64 p0_4, .sl (.ints .i64 p0_5)]] Kk = S_spec_pzAll_e p0_0 p0_1 p0_2 p0_3 p0_4 p0_5   (fun r1 r2 => Kk ⟨[.x (.sl (.orows r1)), .x (.bool r2)], []⟩) := by
  kernel_rfl
def F_spec_pzAll {ρ : Type} (fuel : Nat) (p0_0 : Int) (p0_1 : Int) (p0_2 : List Int) (p0_3 : Int) (p0_4 : Int) (p0_5 : List Int)  (K : List (List Int) → Bool → Option ρ) : Option ρ := S_spec_pzAll_e p0_0 p0_1 p0_2 p0_3 p0_4 p0_5   K
theorem f_spec_pzAll {ρ : Type} (fuel : Nat) (p0_0 : Int) (p0_1 : Int) (p0_2 : List Int) (p0_3 : Int) (p0_4 : Int) (p0_5 : List Int) (Kk : Out → Option ρ) : runFn TT E_spec_pzAll (kp_spec_pzAll 1) fuel [.val] 1 false [[], []] 14 [.tmp 2, .tmp 3] b_spec_pzAll [.agg [.int .i64 p0_0, .int .i64 p0_1, .sl (.ints .i64 p0_2), .int .i64 p0_3, .int .i64 p0_4, .sl (.ints .i64 p0_5)]] Kk = F_spec_pzAll fuel p0_0 p0_1 p0_2 p0_3 p0_4 p0_5 (fun r1 r2 => Kk ⟨[.x (.sl (.orows r1)), .x (.bool r2)], []⟩) := by
  rw [s_spec_pzAll_e, F_spec_pzAll]
noncomputable def sh_spec_pzAll (p0_0 : Int) (p0_1 : Int) (p0_2 : List Int) (p0_3 : Int) (p0_4 : Int) (p0_5 : List Int) : Option (List (List Int) × Bool) := F_spec_pzAll 0 p0_0 p0_1 p0_2 p0_3 p0_4 p0_5 (fun r1 r2 => some (r1, r2))
noncomputable def G_spec_pzAll {ρ : Type} : List DU → (Out → Option ρ) → Option ρ
  | [.agg [.int .i64 p0_0, .int .i64 p0_1, .sl (.ints .i64 p0_2), .int .i64 p0_3, .int .i64 p0_4, .sl (.ints .i64 p0_5)]], K => (sh_spec_pzAll p0_0 p0_1 p0_2 p0_3 p0_4 p0_5).bind fun r => K ⟨[.x (.sl (.orows r.1)), .x (.bool r.2)], []⟩
  | _, _ => none
noncomputable def o_spec_pzAll : Ora := ⟨[.val], 1, false, G_spec_pzAll⟩
def un_spec_pzAll : Out → Option (List (List Int) × Bool)
  | ⟨[.x (.sl (.orows r1)), .x (.bool r2)], []⟩ => some (r1, r2)
  | _ => none
theorem un_spec_pzAll_ok {o : Out} {r : List (List Int) × Bool} (h : un_spec_pzAll o = some r) : o = ⟨[.x (.sl (.orows r.1)), .x (.bool r.2)], []⟩ := by
  unfold un_spec_pzAll at h
  split at h
  · injection h with h
    subst h
    rfl
  · cases h
theorem n_spec_pzAll : ∀ k o, E_spec_pzAll.fn k = some o → Nat1 o := fun k o h => (ook_list (P := Try.prog) (l := O_spec_pzAll) (fk := E_spec_pzAll.fk) (List.forall_mem_cons.2 ⟨m_spec_boCells, (List.forall_mem_cons.2 ⟨m_spec_pzLook, (List.forall_mem_nil _)⟩)⟩)).nat k o h
theorem u_spec_pzAll (fuel : Nat) (p0_0 : Int) (p0_1 : Int) (p0_2 : List Int) (p0_3 : Int) (p0_4 : Int) (p0_5 : List Int) : runFn TT E_spec_pzAll (kp_spec_pzAll 1) fuel [.val] 1 false [[], []] 14 [.tmp 2, .tmp 3] b_spec_pzAll [.agg [.int .i64 p0_0, .int .i64 p0_1, .sl (.ints .i64 p0_2), .int .i64 p0_3, .int .i64 p0_4, .sl (.ints .i64 p0_5)]] un_spec_pzAll = F_spec_pzAll fuel p0_0 p0_1 p0_2 p0_3 p0_4 p0_5 (fun r1 r2 => some (r1, r2)) := f_spec_pzAll fuel p0_0 p0_1 p0_2 p0_3 p0_4 p0_5 un_spec_pzAll
theorem m_spec_pzAll : MeetsO Try.prog 58 o_spec_pzAll := by
  refine ⟨fun ρ ds K => ?_, ⟨_, meets_run (kp := kp_spec_pzAll 1) (weak := false) (df := [[], []]) tsOk (ook_list (l := O_spec_pzAll) (fk := E_spec_pzAll.fk) (List.forall_mem_cons.2 ⟨m_spec_boCells, (List.forall_mem_cons.2 ⟨m_spec_pzLook, (List.forall_mem_nil _)⟩)⟩)) mixed Try.func58 (body := b_spec_pzAll) (by kernel_rfl) (ntmps := 14) (by kernel_rfl) (rs := [.tmp 2, .tmp 3]) (by kernel_rfl), fun ds out h => ?_⟩, ⟨_, Try.func58, by kernel_rfl, by kernel_rfl⟩⟩
  · show G_spec_pzAll ds K = (G_spec_pzAll ds some).bind K
    unfold G_spec_pzAll
    split
    · cases sh_spec_pzAll _ _ _ _ _ _ <;> rfl
    · rfl
  · replace h : G_spec_pzAll ds some = some out := h
    unfold G_spec_pzAll at h
    split at h
    · obtain ⟨r, hr, h⟩ := Option.bind_eq_some_iff.1 h
      injection h with h
      subst h
      have hn := (u_spec_pzAll 0 _ _ _ _ _ _).trans hr
      rw [runFn_bind (K := un_spec_pzAll) (K' := some) (f := un_spec_pzAll) n_spec_pzAll (fun _ => rfl)] at hn
      obtain ⟨o, h1, h2⟩ := Option.bind_eq_some_iff.1 hn
      rw [un_spec_pzAll_ok h2] at h1
      exact ⟨0, h1⟩
    · cases h
/-! f46 loop.example.g01239.spec.pzAsked -/
noncomputable def b_spec_pzAsked : Code := Try.f46.body.getD .skip
def kp_spec_pzAsked (g : Nat) : Nat → Option Keep := lk []
def O_spec_pzAsked : List (FuncId × Ora) := [(58, o_spec_pzAll), (76, o_spec_pzGood)]
def E_spec_pzAsked : Env := ⟨lk O_spec_pzAsked, fun _ => false⟩
def S_spec_pzAsked_e {ρ : Type} (p0_0 : Int) (p0_1 : Int) (p0_2 : List Int) (p0_3 : Int) (p0_4 : Int) (p0_5 : List Int)   (K : List (List Int) → Bool → Option ρ) : Option ρ :=
  ((sh_spec_pzGood p0_0 p0_1 p0_2 p0_3 p0_4 p0_5).bind fun r1 => (bif !r1 then K [] false else ((sh_spec_pzAll p0_0 p0_1 p0_2 p0_3 p0_4 p0_5).bind fun r2 => K r2.1 r2.2)))
theorem s_spec_pzAsked_e {ρ : Type} (g fuel : Nat) (p0_0 : Int) (p0_1 : Int) (p0_2 : List Int) (p0_3 : Int) (p0_4 : Int) (p0_5 : List Int) (Kk : Out → Option ρ) : runFn TT E_spec_pzAsked (kp_spec_pzAsked g) fuel [.val] 1 false [[], []] 11 [.tmp 2, .tmp 3] b_spec_pzAsked [.agg [.int .i64 p0_0, .int .i64 p0_1, .sl (.ints .i64 p0_2), .int .i64 p0_3, .int .i64 p0_4, .sl (.ints .i64 p0_5)]] Kk = S_spec_pzAsked_e p0_0 p0_1 p0_2 p0_3 p0_4 p0_5   (fun r1 r2 => Kk ⟨[.x (.sl (.orows r1)), .x (.bool r2)], []⟩) := by
  kernel_rfl
def F_spec_pzAsked {ρ : Type} (fuel : Nat) (p0_0 : Int) (p0_1 : Int) (p0_2 : List Int) (p0_3 : Int) (p0_4 : Int) (p0_5 : List Int)  (K : List (List Int) → Bool → Option ρ) : Option ρ := S_spec_pzAsked_e p0_0 p0_1 p0_2 p0_3 p0_4 p0_5   K
theorem f_spec_pzAsked {ρ : Type} (fuel : Nat) (p0_0 : Int) (p0_1 : Int) (p0_2 : List Int) (p0_3 : Int) (p0_4 : Int) (p0_5 : List Int) (Kk : Out → Option ρ) : runFn TT E_spec_pzAsked (kp_spec_pzAsked 1) fuel [.val] 1 false [[], []] 11 [.tmp 2, .tmp 3] b_spec_pzAsked [.agg [.int .i64 p0_0, .int .i64 p0_1, .sl (.ints .i64 p0_2), .int .i64 p0_3, .int .i64 p0_4, .sl (.ints .i64 p0_5)]] Kk = F_spec_pzAsked fuel p0_0 p0_1 p0_2 p0_3 p0_4 p0_5 (fun r1 r2 => Kk ⟨[.x (.sl (.orows r1)), .x (.bool r2)], []⟩) := by
  rw [s_spec_pzAsked_e, F_spec_pzAsked]
noncomputable def sh_spec_pzAsked (p0_0 : Int) (p0_1 : Int) (p0_2 : List Int) (p0_3 : Int) (p0_4 : Int) (p0_5 : List Int) : Option (List (List Int) × Bool) := F_spec_pzAsked 0 p0_0 p0_1 p0_2 p0_3 p0_4 p0_5 (fun r1 r2 => some (r1, r2))
noncomputable def G_spec_pzAsked {ρ : Type} : List DU → (Out → Option ρ) → Option ρ
  | [.agg [.int .i64 p0_0, .int .i64 p0_1, .sl (.ints .i64 p0_2), .int .i64 p0_3, .int .i64 p0_4, .sl (.ints .i64 p0_5)]], K => (sh_spec_pzAsked p0_0 p0_1 p0_2 p0_3 p0_4 p0_5).bind fun r => K ⟨[.x (.sl (.orows r.1)), .x (.bool r.2)], []⟩
  | _, _ => none
noncomputable def o_spec_pzAsked : Ora := ⟨[.val], 1, false, G_spec_pzAsked⟩
def un_spec_pzAsked : Out → Option (List (List Int) × Bool)
  | ⟨[.x (.sl (.orows r1)), .x (.bool r2)], []⟩ => some (r1, r2)
  | _ => none
theorem un_spec_pzAsked_ok {o : Out} {r : List (List Int) × Bool} (h : un_spec_pzAsked o = some r) : o = ⟨[.x (.sl (.orows r.1)), .x (.bool r.2)], []⟩ := by
  unfold un_spec_pzAsked at h
  split at h
  · injection h with h
    subst h
    rfl
  · cases h
theorem n_spec_pzAsked : ∀ k o, E_spec_pzAsked.fn k = some o → Nat1 o := fun k o h => (ook_list (P := Try.prog) (l := O_spec_pzAsked) (fk := E_spec_pzAsked.fk) (List.forall_mem_cons.2 ⟨m_spec_pzAll, (List.forall_mem_cons.2 ⟨m_spec_pzGood, (List.forall_mem_nil _)⟩)⟩)).nat k o h
theorem u_spec_pzAsked (fuel : Nat) (p0_0 : Int) (p0_1 : Int) (p0_2 : List Int) (p0_3 : Int) (p0_4 : Int) (p0_5 : List Int) : runFn TT E_spec_pzAsked (kp_spec_pzAsked 1) fuel [.val] 1 false [[], []] 11 [.tmp 2, .tmp 3] b_spec_pzAsked [.agg [.int .i64 p0_0, .int .i64 p0_1, .sl (.ints .i64 p0_2), .int .i64 p0_3, .int .i64 p0_4, .sl (.ints .i64 p0_5)]] un_spec_pzAsked = F_spec_pzAsked fuel p0_0 p0_1 p0_2 p0_3 p0_4 p0_5 (fun r1 r2 => some (r1, r2)) := f_spec_pzAsked fuel p0_0 p0_1 p0_2 p0_3 p0_4 p0_5 un_spec_pzAsked
theorem m_spec_pzAsked : MeetsO Try.prog 46 o_spec_pzAsked := by
  refine ⟨fun ρ ds K => ?_, ⟨_, meets_run (kp := kp_spec_pzAsked 1) (weak := false) (df := [[], []]) tsOk (ook_list (l := O_spec_pzAsked) (fk := E_spec_pzAsked.fk) (List.forall_mem_cons.2 ⟨m_spec_pzAll, (List.forall_mem_cons.2 ⟨m_spec_pzGood, (List.forall_mem_nil _)⟩)⟩)) mixed Try.func46 (body := b_spec_pzAsked) (by kernel_rfl) (ntmps := 11) (by kernel_rfl) (rs := [.tmp 2, .tmp 3]) (by kernel_rfl), fun ds out h => ?_⟩, ⟨_, Try.func46, by kernel_rfl, by kernel_rfl⟩⟩
  · show G_spec_pzAsked ds K = (G_spec_pzAsked ds some).bind K
    unfold G_spec_pzAsked
    split
    · cases sh_spec_pzAsked _ _ _ _ _ _ <;> rfl
    · rfl
  · replace h : G_spec_pzAsked ds some = some out := h
    unfold G_spec_pzAsked at h
    split at h
    · obtain ⟨r, hr, h⟩ := Option.bind_eq_some_iff.1 h
      injection h with h
      subst h
      have hn := (u_spec_pzAsked 0 _ _ _ _ _ _).trans hr
      rw [runFn_bind (K := un_spec_pzAsked) (K' := some) (f := un_spec_pzAsked) n_spec_pzAsked (fun _ => rfl)] at hn
      obtain ⟨o, h1, h2⟩ := Option.bind_eq_some_iff.1 hn
      rw [un_spec_pzAsked_ok h2] at h1
      exact ⟨0, h1⟩
    · cases h
/-! f57 loop.example.g01239.spec.pzWith -/
noncomputable def b_spec_pzWith : Code := Try.f57.body.getD .skip
def kp_spec_pzWith (g : Nat) : Nat → Option Keep := lk []
def O_spec_pzWith : List (FuncId × Ora) := [(67, o_spec_l1Own)]
def E_spec_pzWith : Env := ⟨lk O_spec_pzWith, fun _ => false⟩
def S_spec_pzWith_e {ρ : Type} (p0_0 : Int) (p0_1 : Int) (p0_2 : List Int) (p0_3 : Int) (p0_4 : Int) (p0_5 : List Int) (p1 : Int) (p2 : Int)   (K : Int → Int → List Int → Int → Int → List Int → Option ρ) : Option ρ :=
  ((sh_spec_l1Own p0_5).bind fun r1 => (if 0 ≤ p1 then (if p1 < (r1.length : Int) then ((sh_spec_l1Own p0_2).bind fun r2 => K p0_0 p0_1 r2 p0_3 p0_4 (r1.set p1.toNat p2)) else none) else none))
theorem s_spec_pzWith_e {ρ : Type} (g fuel : Nat) (p0_0 : Int) (p0_1 : Int) (p0_2 : List Int) (p0_3 : Int) (p0_4 : Int) (p0_5 : List Int) (p1 : Int) (p2 : Int) (Kk : Out → Option ρ) : runFn TT E_spec_pzWith (kp_spec_pzWith g) fuel [.val, .val, .val] 3 false [[]] 32 [.cell 6 35] b_spec_pzWith [.agg [.int .i64 p0_0, .int .i64 p0_1, .sl (.ints .i64 p0_2), .int .i64 p0_3, .int .i64 p0_4, .sl (.ints .i64 p0_5)], .x (.int .i64 p1), .x (.int .i64 p2)] Kk = S_spec_pzWith_e p0_0 p0_1 p0_2 p0_3 p0_4 p0_5 p1 p2   (fun r1 r2 r3 r4 r5 r6 => Kk ⟨[.agg [.int .i64 r1, .int .i64 r2, .sl (.ints .i64 r3), .int .i64 r4, .int .i64 r5, .sl (.ints .i64 r6)]], []⟩) := by
  kernel_rfl
def F_spec_pzWith {ρ : Type} (fuel : Nat) (p0_0 : Int) (p0_1 : Int) (p0_2 : List Int) (p0_3 : Int) (p0_4 : Int) (p0_5 : List Int) (p1 : Int) (p2 : Int)  (K : Int → Int → List Int → Int → Int → List Int → Option ρ) : Option ρ := S_spec_pzWith_e p0_0 p0_1 p0_2 p0_3 p0_4 p0_5 p1 p2   K
theorem f_spec_pzWith {ρ : Type} (fuel : Nat) (p0_0 : Int) (p0_1 : Int) (p0_2 : List Int) (p0_3 : Int) (p0_4 : Int) (p0_5 : List Int) (p1 : Int) (p2 : Int) (Kk : Out → Option ρ) : runFn TT E_spec_pzWith (kp_spec_pzWith 1) fuel [.val, .val, .val] 3 false [[]] 32 [.cell 6 35] b_spec_pzWith [.agg [.int .i64 p0_0, .int .i64 p0_1, .sl (.ints .i64 p0_2), .int .i64 p0_3, .int .i64 p0_4, .sl (.ints .i64 p0_5)], .x (.int .i64 p1), .x (.int .i64 p2)] Kk = F_spec_pzWith fuel p0_0 p0_1 p0_2 p0_3 p0_4 p0_5 p1 p2 (fun r1 r2 r3 r4 r5 r6 => Kk ⟨[.agg [.int .i64 r1, .int .i64 r2, .sl (.ints .i64 r3), .int .i64 r4, .int .i64 r5, .sl (.ints .i64 r6)]], []⟩) := by
  rw [s_spec_pzWith_e, F_spec_pzWith]
noncomputable def sh_spec_pzWith (p0_0 : Int) (p0_1 : Int) (p0_2 : List Int) (p0_3 : Int) (p0_4 : Int) (p0_5 : List Int) (p1 : Int) (p2 : Int) : Option (Int × Int × List Int × Int × Int × List Int) := F_spec_pzWith 0 p0_0 p0_1 p0_2 p0_3 p0_4 p0_5 p1 p2 (fun r1 r2 r3 r4 r5 r6 => some (r1, r2, r3, r4, r5, r6))
noncomputable def G_spec_pzWith {ρ : Type} : List DU → (Out → Option ρ) → Option ρ
  | [.agg [.int .i64 p0_0, .int .i64 p0_1, .sl (.ints .i64 p0_2), .int .i64 p0_3, .int .i64 p0_4, .sl (.ints .i64 p0_5)], .x (.int .i64 p1), .x (.int .i64 p2)], K => (sh_spec_pzWith p0_0 p0_1 p0_2 p0_3 p0_4 p0_5 p1 p2).bind fun r => K ⟨[.agg [.int .i64 r.1, .int .i64 r.2.1, .sl (.ints .i64 r.2.2.1), .int .i64 r.2.2.2.1, .int .i64 r.2.2.2.2.1, .sl (.ints .i64 r.2.2.2.2.2)]], []⟩
  | _, _ => none
noncomputable def o_spec_pzWith : Ora := ⟨[.val, .val, .val], 3, false, G_spec_pzWith⟩
def un_spec_pzWith : Out → Option (Int × Int × List Int × Int × Int × List Int)
  | ⟨[.agg [.int .i64 r1, .int .i64 r2, .sl (.ints .i64 r3), .int .i64 r4, .int .i64 r5, .sl (.ints .i64 r6)]], []⟩ => some (r1, r2, r3, r4, r5, r6)
  | _ => none
theorem un_spec_pzWith_ok {o : Out} {r : Int × Int × List Int × Int × Int × List Int} (h : un_spec_pzWith o = some r) : o = ⟨[.agg [.int .i64 r.1, .int .i64 r.2.1, .sl (.ints .i64 r.2.2.1), .int .i64 r.2.2.2.1, .int .i64 r.2.2.2.2.1, .sl (.ints .i64 r.2.2.2.2.2)]], []⟩ := by
  unfold un_spec_pzWith at h
  split at h
  · injection h with h
    subst h
    rfl
  · cases h
theorem n_spec_pzWith : ∀ k o, E_spec_pzWith.fn k = some o → Nat1 o := fun k o h => (ook_list (P := Try.prog) (l := O_spec_pzWith) (fk := E_spec_pzWith.fk) (List.forall_mem_cons.2 ⟨m_spec_l1Own, (List.forall_mem_nil _)⟩)).nat k o h
theorem u_spec_pzWith (fuel : Nat) (p0_0 : Int) (p0_1 : Int) (p0_2 : List Int) (p0_3 : Int) (p0_4 : Int) (p0_5 : List Int) (p1 : Int) (p2 : Int) : runFn TT E_spec_pzWith (kp_spec_pzWith 1) fuel [.val, .val, .val] 3 false [[]] 32 [.cell 6 35] b_spec_pzWith [.agg [.int .i64 p0_0, .int .i64 p0_1, .sl (.ints .i64 p0_2), .int .i64 p0_3, .int .i64 p0_4, .sl (.ints .i64 p0_5)], .x (.int .i64 p1), .x (.int .i64 p2)] un_spec_pzWith = F_spec_pzWith fuel p0_0 p0_1 p0_2 p0_3 p0_4 p0_5 p1 p2 (fun r1 r2 r3 r4 r5 r6 => some (r1, r2, r3, r4, r5, r6)) := f_spec_pzWith fuel p0_0 p0_1 p0_2 p0_3 p0_4 p0_5 p1 p2 un_spec_pzWith
theorem m_spec_pzWith : MeetsO Try.prog 57 o_spec_pzWith := by
  refine ⟨fun ρ ds K => ?_, ⟨_, meets_run (kp := kp_spec_pzWith 1) (weak := false) (df := [[]]) tsOk (ook_list (l := O_spec_pzWith) (fk := E_spec_pzWith.fk) (List.forall_mem_cons.2 ⟨m_spec_l1Own, (List.forall_mem_nil _)⟩)) mixed Try.func57 (body := b_spec_pzWith) (by kernel_rfl) (ntmps := 32) (by kernel_rfl) (rs := [.cell 6 35]) (by kernel_rfl), fun ds out h => ?_⟩, ⟨_, Try.func57, by kernel_rfl, by kernel_rfl⟩⟩
  · show G_spec_pzWith ds K = (G_spec_pzWith ds some).bind K
    unfold G_spec_pzWith
    split
    · cases sh_spec_pzWith _ _ _ _ _ _ _ _ <;> rfl
    · rfl
  · replace h : G_spec_pzWith ds some = some out := h
    unfold G_spec_pzWith at h
    split at h
    · obtain ⟨r, hr, h⟩ := Option.bind_eq_some_iff.1 h
      injection h with h
      subst h
      have hn := (u_spec_pzWith 0 _ _ _ _ _ _ _ _).trans hr
      rw [runFn_bind (K := un_spec_pzWith) (K' := some) (f := un_spec_pzWith) n_spec_pzWith (fun _ => rfl)] at hn
      obtain ⟨o, h1, h2⟩ := Option.bind_eq_some_iff.1 hn
      rw [un_spec_pzWith_ok h2] at h1
      exact ⟨0, h1⟩
    · cases h
/-! f30 loop.example.g01239.spec.HarderPuzzle -/
noncomputable def b_spec_HarderPuzzle : Code := Try.f30.body.getD .skip
def kp_spec_HarderPuzzle (g : Nat) : Nat → Option Keep := lk [(5, ⟨[], [1, 2, 26, 27, 28], [4096, 4112], [], [(4096, 2, 4095), (4096, 5, 4095)], g⟩)]
def O_spec_HarderPuzzle : List (FuncId × Ora) := [(46, o_spec_pzAsked), (56, o_spec_boCells), (57, o_spec_pzWith), (58, o_spec_pzAll)]
def E_spec_HarderPuzzle : Env := ⟨lk O_spec_HarderPuzzle, fun _ => false⟩
noncomputable def D_spec_HarderPuzzle_0 {ρ : Type} (g fuel : Nat) (p0_0 : Int) (p0_1 : Int) (p0_2 : List Int) (p0_3 : Int) (p0_4 : Int) (p0_5 : List Int) (n : Nat) (v26 : List Int) (v27 : Int) (v28 : Int) (c4096_0 : Int) (c4096_1 : Int) (c4096_2 : List Int) (c4096_3 : Int) (c4096_4 : Int) (c4096_5 : List Int) (c4112_0 : Int) (Kk : Out → Option ρ) : Option ρ :=
  iter (run TT E_spec_HarderPuzzle (kp_spec_HarderPuzzle g) fuel (cL (cB (cS2 (cS1 (cS2 (cS2 (cS2 (b_spec_HarderPuzzle))))))))) (nrmAt (kp_spec_HarderPuzzle g) (firstRid (cL (cB (cS2 (cS1 (cS2 (cS2 (cS2 (b_spec_HarderPuzzle)))))))))) n (⟨[uu, .u (.x (.ptr 4096 0)), .u (.x (.ptr 4112 0)), uu, uu, uu, uu, uu, uu, uu, uu, uu, uu, uu, uu, uu, uu, uu, uu, uu, uu, uu, uu, uu, uu, uu, .u (.x (.own 8232 (.ints .i64 v26))), .u (.x (.int .i64 v27)), .u (.x (.int .i64 v28)), uu, uu, uu, uu, uu, uu, uu, uu, uu, uu, uu, uu, uu, uu, uu, uu, uu, uu, uu, uu, uu, uu, uu, uu, uu, uu, uu, uu, uu, uu, uu], [(4096, [.int .i64 c4096_0, .int .i64 c4096_1, .ro (.ints .i64 c4096_2), .int .i64 c4096_3, .int .i64 c4096_4, .ro (.ints .i64 c4096_5)]), (4112, [.int .i64 c4112_0, .int .i64 c4112_0, .nil (.ints .i64 []), .int .i64 c4112_0, .int .i64 c4112_0, .nil (.ints .i64 [])])], [], []⟩) (blkK 0 (seqK (gateAt (kp_spec_HarderPuzzle g) (200000 + firstRid (cS2 (cS2 (cS2 (cS2 (b_spec_HarderPuzzle))))))) (run TT E_spec_HarderPuzzle (kp_spec_HarderPuzzle g) fuel (cS2 (cS2 (cS2 (cS2 (b_spec_HarderPuzzle)))))) (nrmAt (kp_spec_HarderPuzzle g) (200000 + firstRid (cS2 (cS2 (cS2 (cS2 (b_spec_HarderPuzzle))))))) (topK TT [.val] false [[], []] [.cell 2 35, .tmp 3] [.agg [.int .i64 p0_0, .int .i64 p0_1, .sl (.ints .i64 p0_2), .int .i64 p0_3, .int .i64 p0_4, .sl (.ints .i64 p0_5)]] Kk)))
def S_spec_HarderPuzzle_e {ρ : Type} (p0_0 : Int) (p0_1 : Int) (p0_2 : List Int) (p0_3 : Int) (p0_4 : Int) (p0_5 : List Int)  (k0 : (List Int → Int → Int → Int → Int → List Int → Int → Int → List Int → Int → Option ρ)) (K : Int → Int → List Int → Int → Int → List Int → Bool → Option ρ) : Option ρ :=
  ((sh_spec_pzAsked p0_0 p0_1 p0_2 p0_3 p0_4 p0_5).bind fun r1 => (bif !r1.2 then K 0 0 [] 0 0 [] false else (bif !decide ((r1.1.length : Int) = (1 : Int)) then K 0 0 [] 0 0 [] false else ((sh_spec_boCells p0_0 p0_1 p0_2).bind fun r2 => k0 r2 (r2.length : Int) (0 : Int) p0_0 p0_1 p0_2 p0_3 p0_4 p0_5 0))))
theorem s_spec_HarderPuzzle_e {ρ : Type} (g fuel : Nat) (p0_0 : Int) (p0_1 : Int) (p0_2 : List Int) (p0_3 : Int) (p0_4 : Int) (p0_5 : List Int) (Kk : Out → Option ρ) : runFn TT E_spec_HarderPuzzle (kp_spec_HarderPuzzle g) fuel [.val] 1 false [[], []] 60 [.cell 2 35, .tmp 3] b_spec_HarderPuzzle [.agg [.int .i64 p0_0, .int .i64 p0_1, .sl (.ints .i64 p0_2), .int .i64 p0_3, .int .i64 p0_4, .sl (.ints .i64 p0_5)]] Kk = S_spec_HarderPuzzle_e p0_0 p0_1 p0_2 p0_3 p0_4 p0_5  (fun v26 v27 v28 c4096_0 c4096_1 c4096_2 c4096_3 c4096_4 c4096_5 c4112_0 => D_spec_HarderPuzzle_0 g fuel p0_0 p0_1 p0_2 p0_3 p0_4 p0_5 fuel v26 v27 v28 c4096_0 c4096_1 c4096_2 c4096_3 c4096_4 c4096_5 c4112_0 Kk) (fun r1 r2 r3 r4 r5 r6 r7 => Kk ⟨[.agg [.int .i64 r1, .int .i64 r2, .sl (.ints .i64 r3), .int .i64 r4, .int .i64 r5, .sl (.ints .i64 r6)], .x (.bool r7)], []⟩) := by
  kernel_rfl
def S_spec_HarderPuzzle_0 {ρ : Type}  (v26 : List Int) (v27 : Int) (v28 : Int) (c4096_0 : Int) (c4096_1 : Int) (c4096_2 : List Int) (c4096_3 : Int) (c4096_4 : Int) (c4096_5 : List Int) (c4112_0 : Int) (b0 : (List Int → Int → Int → Int → Int → List Int → Int → Int → List Int → Int → Option ρ)) (K : Int → Int → List Int → Int → Int → List Int → Bool → Option ρ) : Option ρ :=
  (bif decide (v28 < v27) then (if 0 ≤ v28 then (if v28 < (v26.length : Int) then (if 0 ≤ (v26.getD v28.toNat 0) then (if (v26.getD v28.toNat 0) < (c4096_5.length : Int) then (bif decide ((c4096_5.getD ((v26.getD v28.toNat 0).toNat) 0) = (0 : Int)) then b0 v26 v27 (IntKind.i64.wrap (v28 + (1 : Int))) c4096_0 c4096_1 c4096_2 c4096_3 c4096_4 c4096_5 c4112_0 else ((sh_spec_pzWith c4096_0 c4096_1 c4096_2 c4096_3 c4096_4 c4096_5 (v26.getD v28.toNat 0) (0 : Int)).bind fun r1 => ((sh_spec_pzAll r1.1 r1.2.1 r1.2.2.1 r1.2.2.2.1 r1.2.2.2.2.1 r1.2.2.2.2.2).bind fun r2 => (bif r2.2 then (bif decide ((r2.1.length : Int) = (1 : Int)) then b0 v26 v27 (IntKind.i64.wrap (v28 + (1 : Int))) r1.1 r1.2.1 r1.2.2.1 r1.2.2.2.1 r1.2.2.2.2.1 r1.2.2.2.2.2 c4112_0 else b0 v26 v27 (IntKind.i64.wrap (v28 + (1 : Int))) c4096_0 c4096_1 c4096_2 c4096_3 c4096_4 c4096_5 c4112_0) else b0 v26 v27 (IntKind.i64.wrap (v28 + (1 : Int))) c4096_0 c4096_1 c4096_2 c4096_3 c4096_4 c4096_5 c4112_0)))) else none) else none) else none) else none) else (if 0 ≤ (0 : Int) then (if (0 : Int) < (c4096_5.length : Int) then ((sh_spec_pzWith c4096_0 c4096_1 c4096_2 c4096_3 c4096_4 c4096_5 (0 : Int) (c4096_5.getD ((0 : Int).toNat) 0)).bind fun r3 => K r3.1 r3.2.1 r3.2.2.1 r3.2.2.2.1 r3.2.2.2.2.1 r3.2.2.2.2.2 true) else none) else none))
theorem s_spec_HarderPuzzle_0 {ρ : Type} (g fuel : Nat) (p0_0 : Int) (p0_1 : Int) (p0_2 : List Int) (p0_3 : Int) (p0_4 : Int) (p0_5 : List Int) (n : Nat) (v26 : List Int) (v27 : Int) (v28 : Int) (c4096_0 : Int) (c4096_1 : Int) (c4096_2 : List Int) (c4096_3 : Int) (c4096_4 : Int) (c4096_5 : List Int) (c4112_0 : Int) (Kk : Out → Option ρ) : D_spec_HarderPuzzle_0 g fuel p0_0 p0_1 p0_2 p0_3 p0_4 p0_5  (n + 1) v26 v27 v28 c4096_0 c4096_1 c4096_2 c4096_3 c4096_4 c4096_5 c4112_0 Kk = S_spec_HarderPuzzle_0  v26 v27 v28 c4096_0 c4096_1 c4096_2 c4096_3 c4096_4 c4096_5 c4112_0 (fun v26 v27 v28 c4096_0 c4096_1 c4096_2 c4096_3 c4096_4 c4096_5 c4112_0 => D_spec_HarderPuzzle_0 g fuel p0_0 p0_1 p0_2 p0_3 p0_4 p0_5 n v26 v27 v28 c4096_0 c4096_1 c4096_2 c4096_3 c4096_4 c4096_5 c4112_0 Kk) (fun r1 r2 r3 r4 r5 r6 r7 => Kk ⟨[.agg [.int .i64 r1, .int .i64 r2, .sl (.ints .i64 r3), .int .i64 r4, .int .i64 r5, .sl (.ints .i64 r6)], .x (.bool r7)], []⟩) := by
  kernel_rfl
def F_spec_HarderPuzzle_0 {ρ : Type} (fuel : Nat)   (K : Int → Int → List Int → Int → Int → List Int → Bool → Option ρ) : Nat → List Int → Int → Int → Int → Int → List Int → Int → Int → List Int → Int → Option ρ
  | 0, _, _, _, _, _, _, _, _, _, _ => none
  | n + 1, v26, v27, v28, c4096_0, c4096_1, c4096_2, c4096_3, c4096_4, c4096_5, c4112_0 => S_spec_HarderPuzzle_0  v26 v27 v28 c4096_0 c4096_1 c4096_2 c4096_3 c4096_4 c4096_5 c4112_0 (F_spec_HarderPuzzle_0 fuel   K n) K
theorem f_spec_HarderPuzzle_0 {ρ : Type} (fuel : Nat) (p0_0 : Int) (p0_1 : Int) (p0_2 : List Int) (p0_3 : Int) (p0_4 : Int) (p0_5 : List Int) (Kk : Out → Option ρ) : ∀ (n : Nat) (v26 : List Int) (v27 : Int) (v28 : Int) (c4096_0 : Int) (c4096_1 : Int) (c4096_2 : List Int) (c4096_3 : Int) (c4096_4 : Int) (c4096_5 : List Int) (c4112_0 : Int), D_spec_HarderPuzzle_0 1 fuel p0_0 p0_1 p0_2 p0_3 p0_4 p0_5  n v26 v27 v28 c4096_0 c4096_1 c4096_2 c4096_3 c4096_4 c4096_5 c4112_0 Kk = F_spec_HarderPuzzle_0 fuel   (fun r1 r2 r3 r4 r5 r6 r7 => Kk ⟨[.agg [.int .i64 r1, .int .i64 r2, .sl (.ints .i64 r3), .int .i64 r4, .int .i64 r5, .sl (.ints .i64 r6)], .x (.bool r7)], []⟩) n v26 v27 v28 c4096_0 c4096_1 c4096_2 c4096_3 c4096_4 c4096_5 c4112_0 := by
  intro n
  induction n with
  | zero => intros; rfl
  | succ n ih =>
    intro v26 v27 v28 c4096_0 c4096_1 c4096_2 c4096_3 c4096_4 c4096_5 c4112_0
    rw [s_spec_HarderPuzzle_0, F_spec_HarderPuzzle_0]
    try simp only [ih]
def F_spec_HarderPuzzle {ρ : Type} (fuel : Nat) (p0_0 : Int) (p0_1 : Int) (p0_2 : List Int) (p0_3 : Int) (p0_4 : Int) (p0_5 : List Int)  (K : Int → Int → List Int → Int → Int → List Int → Bool → Option ρ) : Option ρ := S_spec_HarderPuzzle_e p0_0 p0_1 p0_2 p0_3 p0_4 p0_5  (F_spec_HarderPuzzle_0 fuel   K fuel) K
theorem f_spec_HarderPuzzle {ρ : Type} (fuel : Nat) (p0_0 : Int) (p0_1 : Int) (p0_2 : List Int) (p0_3 : Int) (p0_4 : Int) (p0_5 : List Int) (Kk : Out → Option ρ) : runFn TT E_spec_HarderPuzzle (kp_spec_HarderPuzzle 1) fuel [.val] 1 false [[], []] 60 [.cell 2 35, .tmp 3] b_spec_HarderPuzzle [.agg [.int .i64 p0_0, .int .i64 p0_1, .sl (.ints .i64 p0_2), .int .i64 p0_3, .int .i64 p0_4, .sl (.ints .i64 p0_5)]] Kk = F_spec_HarderPuzzle fuel p0_0 p0_1 p0_2 p0_3 p0_4 p0_5 (fun r1 r2 r3 r4 r5 r6 r7 => Kk ⟨[.agg [.int .i64 r1, .int .i64 r2, .sl (.ints .i64 r3), .int .i64 r4, .int .i64 r5, .sl (.ints .i64 r6)], .x (.bool r7)], []⟩) := by
  rw [s_spec_HarderPuzzle_e, F_spec_HarderPuzzle]
  try simp only [f_spec_HarderPuzzle_0]
noncomputable def sh_spec_HarderPuzzle (p0_0 : Int) (p0_1 : Int) (p0_2 : List Int) (p0_3 : Int) (p0_4 : Int) (p0_5 : List Int) : Option (Int × Int × List Int × Int × Int × List Int × Bool) := val fun n => F_spec_HarderPuzzle n p0_0 p0_1 p0_2 p0_3 p0_4 p0_5 (fun r1 r2 r3 r4 r5 r6 r7 => some (r1, r2, r3, r4, r5, r6, r7))
noncomputable def G_spec_HarderPuzzle {ρ : Type} : List DU → (Out → Option ρ) → Option ρ
  | [.agg [.int .i64 p0_0, .int .i64 p0_1, .sl (.ints .i64 p0_2), .int .i64 p0_3, .int .i64 p0_4, .sl (.ints .i64 p0_5)]], K => (sh_spec_HarderPuzzle p0_0 p0_1 p0_2 p0_3 p0_4 p0_5).bind fun r => K ⟨[.agg [.int .i64 r.1, .int .i64 r.2.1, .sl (.ints .i64 r.2.2.1), .int .i64 r.2.2.2.1, .int .i64 r.2.2.2.2.1, .sl (.ints .i64 r.2.2.2.2.2.1)], .x (.bool r.2.2.2.2.2.2)], []⟩
  | _, _ => none
noncomputable def o_spec_HarderPuzzle : Ora := ⟨[.val], 1, false, G_spec_HarderPuzzle⟩
def un_spec_HarderPuzzle : Out → Option (Int × Int × List Int × Int × Int × List Int × Bool)
  | ⟨[.agg [.int .i64 r1, .int .i64 r2, .sl (.ints .i64 r3), .int .i64 r4, .int .i64 r5, .sl (.ints .i64 r6)], .x (.bool r7)], []⟩ => some (r1, r2, r3, r4, r5, r6, r7)
  | _ => none
theorem un_spec_HarderPuzzle_ok {o : Out} {r : Int × Int × List Int × Int × Int × List Int × Bool} (h : un_spec_HarderPuzzle o = some r) : o = ⟨[.agg [.int .i64 r.1, .int .i64 r.2.1, .sl (.ints .i64 r.2.2.1), .int .i64 r.2.2.2.1, .int .i64 r.2.2.2.2.1, .sl (.ints .i64 r.2.2.2.2.2.1)], .x (.bool r.2.2.2.2.2.2)], []⟩ := by
  unfold un_spec_HarderPuzzle at h
  split at h
  · injection h with h
    subst h
    rfl
  · cases h
theorem n_spec_HarderPuzzle : ∀ k o, E_spec_HarderPuzzle.fn k = some o → Nat1 o := fun k o h => (ook_list (P := Try.prog) (l := O_spec_HarderPuzzle) (fk := E_spec_HarderPuzzle.fk) (List.forall_mem_cons.2 ⟨m_spec_pzAsked, (List.forall_mem_cons.2 ⟨m_spec_boCells, (List.forall_mem_cons.2 ⟨m_spec_pzWith, (List.forall_mem_cons.2 ⟨m_spec_pzAll, (List.forall_mem_nil _)⟩)⟩)⟩)⟩)).nat k o h
theorem u_spec_HarderPuzzle (fuel : Nat) (p0_0 : Int) (p0_1 : Int) (p0_2 : List Int) (p0_3 : Int) (p0_4 : Int) (p0_5 : List Int) : runFn TT E_spec_HarderPuzzle (kp_spec_HarderPuzzle 1) fuel [.val] 1 false [[], []] 60 [.cell 2 35, .tmp 3] b_spec_HarderPuzzle [.agg [.int .i64 p0_0, .int .i64 p0_1, .sl (.ints .i64 p0_2), .int .i64 p0_3, .int .i64 p0_4, .sl (.ints .i64 p0_5)]] un_spec_HarderPuzzle = F_spec_HarderPuzzle fuel p0_0 p0_1 p0_2 p0_3 p0_4 p0_5 (fun r1 r2 r3 r4 r5 r6 r7 => some (r1, r2, r3, r4, r5, r6, r7)) := f_spec_HarderPuzzle fuel p0_0 p0_1 p0_2 p0_3 p0_4 p0_5 un_spec_HarderPuzzle
theorem sh_spec_HarderPuzzle_of {n : Nat} {p0_0 : Int} {p0_1 : Int} {p0_2 : List Int} {p0_3 : Int} {p0_4 : Int} {p0_5 : List Int} {r : Int × Int × List Int × Int × Int × List Int × Bool} (h : F_spec_HarderPuzzle n p0_0 p0_1 p0_2 p0_3 p0_4 p0_5 (fun r1 r2 r3 r4 r5 r6 r7 => some (r1, r2, r3, r4, r5, r6, r7)) = some r) : sh_spec_HarderPuzzle p0_0 p0_1 p0_2 p0_3 p0_4 p0_5 = some r := val_of (fun n m r hm h => by rw [← u_spec_HarderPuzzle] at h ⊢; exact runFn_mono n_spec_HarderPuzzle hm h) h
theorem m_spec_HarderPuzzle : MeetsO Try.prog 30 o_spec_HarderPuzzle := by
  refine ⟨fun ρ ds K => ?_, ⟨_, meets_run (kp := kp_spec_HarderPuzzle 1) (weak := false) (df := [[], []]) tsOk (ook_list (l := O_spec_HarderPuzzle) (fk := E_spec_HarderPuzzle.fk) (List.forall_mem_cons.2 ⟨m_spec_pzAsked, (List.forall_mem_cons.2 ⟨m_spec_boCells, (List.forall_mem_cons.2 ⟨m_spec_pzWith, (List.forall_mem_cons.2 ⟨m_spec_pzAll, (List.forall_mem_nil _)⟩)⟩)⟩)⟩)) mixed Try.func30 (body := b_spec_HarderPuzzle) (by kernel_rfl) (ntmps := 60) (by kernel_rfl) (rs := [.cell 2 35, .tmp 3]) (by kernel_rfl), fun ds out h => ?_⟩, ⟨_, Try.func30, by kernel_rfl, by kernel_rfl⟩⟩
  · show G_spec_HarderPuzzle ds K = (G_spec_HarderPuzzle ds some).bind K
    unfold G_spec_HarderPuzzle
    split
    · cases sh_spec_HarderPuzzle _ _ _ _ _ _ <;> rfl
    · rfl
  · replace h : G_spec_HarderPuzzle ds some = some out := h
    unfold G_spec_HarderPuzzle at h
    split at h
    · obtain ⟨r, hr, h⟩ := Option.bind_eq_some_iff.1 h
      injection h with h
      subst h
      obtain ⟨n, hn⟩ := val_some hr
      replace hn := (u_spec_HarderPuzzle n _ _ _ _ _ _).trans hn
      rw [runFn_bind (K := un_spec_HarderPuzzle) (K' := some) (f := un_spec_HarderPuzzle) n_spec_HarderPuzzle (fun _ => rfl)] at hn
      obtain ⟨o, h1, h2⟩ := Option.bind_eq_some_iff.1 hn
      rw [un_spec_HarderPuzzle_ok h2] at h1
      exact ⟨n, h1⟩
    · cases h
/-! f90 loop.example.g01239.impl.sized -/
noncomputable def b_impl_sized : Code := Try.f90.body.getD .skip
def kp_impl_sized (g : Nat) : Nat → Option Keep := lk []
def O_impl_sized : List (FuncId × Ora) := []
def E_impl_sized : Env := ⟨lk O_impl_sized, fun _ => false⟩
def S_impl_sized_e {ρ : Type} (p0 : Int)   (K : Bool → Option ρ) : Option ρ :=
  (bif decide (p0 ≥ (1 : Int)) then K (decide (p0 ≤ (8 : Int))) else K false)
theorem s_impl_sized_e {ρ : Type} (g fuel : Nat) (p0 : Int) (Kk : Out → Option ρ) : runFn TT E_impl_sized (kp_impl_sized g) fuel [.val] 1 false [[]] 9 [.tmp 2] b_impl_sized [.x (.int .i64 p0)] Kk = S_impl_sized_e p0   (fun r1 => Kk ⟨[.x (.bool r1)], []⟩) := by
  kernel_rfl
def F_impl_sized {ρ : Type} (fuel : Nat) (p0 : Int)  (K : Bool → Option ρ) : Option ρ := S_impl_sized_e p0   K
theorem f_impl_sized {ρ : Type} (fuel : Nat) (p0 : Int) (Kk : Out → Option ρ) : runFn TT E_impl_sized (kp_impl_sized 1) fuel [.val] 1 false [[]] 9 [.tmp 2] b_impl_sized [.x (.int .i64 p0)] Kk = F_impl_sized fuel p0 (fun r1 => Kk ⟨[.x (.bool r1)], []⟩) := by
  rw [s_impl_sized_e, F_impl_sized]
noncomputable def sh_impl_sized (p0 : Int) : Option (Bool) := F_impl_sized 0 p0 (fun r1 => some r1)
noncomputable def G_impl_sized {ρ : Type} : List DU → (Out → Option ρ) → Option ρ
  | [.x (.int .i64 p0)], K => (sh_impl_sized p0).bind fun r => K ⟨[.x (.bool r)], []⟩
  | _, _ => none
noncomputable def o_impl_sized : Ora := ⟨[.val], 1, false, G_impl_sized⟩
def un_impl_sized : Out → Option (Bool)
  | ⟨[.x (.bool r1)], []⟩ => some r1
  | _ => none
theorem un_impl_sized_ok {o : Out} {r : Bool} (h : un_impl_sized o = some r) : o = ⟨[.x (.bool r)], []⟩ := by
  unfold un_impl_sized at h
  split at h
  · injection h with h
    subst h
    rfl
  · cases h
theorem n_impl_sized : ∀ k o, E_impl_sized.fn k = some o → Nat1 o := fun k o h => (ook_list (P := Try.prog) (l := O_impl_sized) (fk := E_impl_sized.fk) (List.forall_mem_nil _)).nat k o h
theorem u_impl_sized (fuel : Nat) (p0 : Int) : runFn TT E_impl_sized (kp_impl_sized 1) fuel [.val] 1 false [[]] 9 [.tmp 2] b_impl_sized [.x (.int .i64 p0)] un_impl_sized = F_impl_sized fuel p0 (fun r1 => some r1) := f_impl_sized fuel p0 un_impl_sized
theorem m_impl_sized : MeetsO Try.prog 90 o_impl_sized := by
  refine ⟨fun ρ ds K => ?_, ⟨_, meets_run (kp := kp_impl_sized 1) (weak := false) (df := [[]]) tsOk (ook_list (l := O_impl_sized) (fk := E_impl_sized.fk) (List.forall_mem_nil _)) mixed Try.func90 (body := b_impl_sized) (by kernel_rfl) (ntmps := 9) (by kernel_rfl) (rs := [.tmp 2]) (by kernel_rfl), fun ds out h => ?_⟩, ⟨_, Try.func90, by kernel_rfl, by kernel_rfl⟩⟩
  · show G_impl_sized ds K = (G_impl_sized ds some).bind K
    unfold G_impl_sized
    split
    · cases sh_impl_sized _ <;> rfl
    · rfl
  · replace h : G_impl_sized ds some = some out := h
    unfold G_impl_sized at h
    split at h
    · obtain ⟨r, hr, h⟩ := Option.bind_eq_some_iff.1 h
      injection h with h
      subst h
      have hn := (u_impl_sized 0 _).trans hr
      rw [runFn_bind (K := un_impl_sized) (K' := some) (f := un_impl_sized) n_impl_sized (fun _ => rfl)] at hn
      obtain ⟨o, h1, h2⟩ := Option.bind_eq_some_iff.1 hn
      rw [un_impl_sized_ok h2] at h1
      exact ⟨0, h1⟩
    · cases h
/-! f73 loop.example.g01239.impl.IsBoard -/
noncomputable def b_impl_IsBoard : Code := Try.f73.body.getD .skip
def kp_impl_IsBoard (g : Nat) : Nat → Option Keep := lk [(4, ⟨[], [1, 27, 28, 29], [4096], [], [], g⟩)]
def O_impl_IsBoard : List (FuncId × Ora) := [(90, o_impl_sized)]
def E_impl_IsBoard : Env := ⟨lk O_impl_IsBoard, fun _ => false⟩
noncomputable def D_impl_IsBoard_0 {ρ : Type} (g fuel : Nat) (p0_0 : Int) (p0_1 : Int) (p0_2 : List Int) (n : Nat) (v27 : List Int) (v28 : Int) (v29 : Int) (c4096_0 : Int) (c4096_1 : Int) (Kk : Out → Option ρ) : Option ρ :=
  iter (run TT E_impl_IsBoard (kp_impl_IsBoard g) fuel (cL (cB (cS2 (cS1 (cS2 (cS2 (b_impl_IsBoard)))))))) (nrmAt (kp_impl_IsBoard g) (firstRid (cL (cB (cS2 (cS1 (cS2 (cS2 (b_impl_IsBoard))))))))) n (⟨[uu, .u (.x (.ptr 4096 0)), uu, uu, uu, uu, uu, uu, uu, uu, uu, uu, uu, uu, uu, uu, uu, uu, uu, uu, uu, uu, uu, uu, uu, uu, uu, .u (.x (.ro (.ints .i64 v27))), .u (.x (.int .i64 v28)), .u (.x (.int .i64 v29)), uu, uu, uu, uu, uu, uu, uu, uu, uu, uu, uu, uu, uu, uu, uu, uu, uu, uu, uu, uu, uu, uu, uu, uu, uu, uu, uu, uu, uu, uu], [(4096, [.int .i64 c4096_0, .int .i64 c4096_1, .ro (.ints .i64 v27)])], [], []⟩) (blkK 0 (seqK (gateAt (kp_impl_IsBoard g) (200000 + firstRid (cS2 (cS2 (cS2 (b_impl_IsBoard)))))) (run TT E_impl_IsBoard (kp_impl_IsBoard g) fuel (cS2 (cS2 (cS2 (b_impl_IsBoard))))) (nrmAt (kp_impl_IsBoard g) (200000 + firstRid (cS2 (cS2 (cS2 (b_impl_IsBoard)))))) (topK TT [.val] false [[]] [.tmp 2] [.agg [.int .i64 p0_0, .int .i64 p0_1, .sl (.ints .i64 p0_2)]] Kk)))
def S_impl_IsBoard_e {ρ : Type} (p0_0 : Int) (p0_1 : Int) (p0_2 : List Int)  (k0 : (List Int → Int → Int → Int → Int → Option ρ)) (K : Bool → Option ρ) : Option ρ :=
  ((sh_impl_sized p0_0).bind fun r1 => (bif !r1 then K false else ((sh_impl_sized p0_1).bind fun r2 => (bif !r2 then K false else (bif decide ((p0_2.length : Int) ≥ (IntKind.i64.wrap (p0_0 * p0_1))) then K false else k0 p0_2 (p0_2.length : Int) (0 : Int) p0_0 p0_1)))))
theorem s_impl_IsBoard_e {ρ : Type} (g fuel : Nat) (p0_0 : Int) (p0_1 : Int) (p0_2 : List Int) (Kk : Out → Option ρ) : runFn TT E_impl_IsBoard (kp_impl_IsBoard g) fuel [.val] 1 false [[]] 60 [.tmp 2] b_impl_IsBoard [.agg [.int .i64 p0_0, .int .i64 p0_1, .sl (.ints .i64 p0_2)]] Kk = S_impl_IsBoard_e p0_0 p0_1 p0_2  (fun v27 v28 v29 c4096_0 c4096_1 => D_impl_IsBoard_0 g fuel p0_0 p0_1 p0_2 fuel v27 v28 v29 c4096_0 c4096_1 Kk) (fun r1 => Kk ⟨[.x (.bool r1)], []⟩) := by
  kernel_rfl
def S_impl_IsBoard_0 {ρ : Type}  (v27 : List Int) (v28 : Int) (v29 : Int) (c4096_0 : Int) (c4096_1 : Int) (b0 : (List Int → Int → Int → Int → Int → Option ρ)) (K : Bool → Option ρ) : Option ρ :=
  (bif decide (v29 < v28) then (if 0 ≤ v29 then (if v29 < (v27.length : Int) then (bif decide ((v27.getD v29.toNat 0) < (0 : Int)) then K false else (bif decide ((v27.getD v29.toNat 0) ≥ (IntKind.i64.wrap (c4096_0 * c4096_1))) then K false else (bif decide (v29 > (0 : Int)) then (if 0 ≤ (IntKind.i64.wrap (v29 - (1 : Int))) then (if (IntKind.i64.wrap (v29 - (1 : Int))) < (v27.length : Int) then (bif decide ((v27.getD ((IntKind.i64.wrap (v29 - (1 : Int))).toNat) 0) ≥ (v27.getD v29.toNat 0)) then K false else b0 v27 v28 (IntKind.i64.wrap (v29 + (1 : Int))) c4096_0 c4096_1) else none) else none) else b0 v27 v28 (IntKind.i64.wrap (v29 + (1 : Int))) c4096_0 c4096_1))) else none) else none) else K true)
theorem s_impl_IsBoard_0 {ρ : Type} (g fuel : Nat) (p0_0 : Int) (p0_1 : Int) (p0_2 : List Int) (n : Nat) (v27 : List Int) (v28 : Int) (v29 : Int) (c4096_0 : Int) (c4096_1 : Int) (Kk : Out → Option ρ) : D_impl_IsBoard_0 g fuel p0_0 p0_1 p0_2  (n + 1) v27 v28 v29 c4096_0 c4096_1 Kk = S_impl_IsBoard_0  v27 v28 v29 c4096_0 c4096_1 (fun v27 v28 v29 c4096_0 c4096_1 => D_impl_IsBoard_0 g fuel p0_0 p0_1 p0_2 n v27 v28 v29 c4096_0 c4096_1 Kk) (fun r1 => Kk ⟨[.x (.bool r1)], []⟩) := by
  kernel_rfl
def F_impl_IsBoard_0 {ρ : Type} (fuel : Nat)   (K : Bool → Option ρ) : Nat → List Int → Int → Int → Int → Int → Option ρ
  | 0, _, _, _, _, _ => none
  | n + 1, v27, v28, v29, c4096_0, c4096_1 => S_impl_IsBoard_0  v27 v28 v29 c4096_0 c4096_1 (F_impl_IsBoard_0 fuel   K n) K
theorem f_impl_IsBoard_0 {ρ : Type} (fuel : Nat) (p0_0 : Int) (p0_1 : Int) (p0_2 : List Int) (Kk : Out → Option ρ) : ∀ (n : Nat) (v27 : List Int) (v28 : Int) (v29 : Int) (c4096_0 : Int) (c4096_1 : Int), D_impl_IsBoard_0 1 fuel p0_0 p0_1 p0_2  n v27 v28 v29 c4096_0 c4096_1 Kk = F_impl_IsBoard_0 fuel   (fun r1 => Kk ⟨[.x (.bool r1)], []⟩) n v27 v28 v29 c4096_0 c4096_1 := by
  intro n
  induction n with
  | zero => intros; rfl
  | succ n ih =>
    intro v27 v28 v29 c4096_0 c4096_1
    rw [s_impl_IsBoard_0, F_impl_IsBoard_0]
    try simp only [ih]
def F_impl_IsBoard {ρ : Type} (fuel : Nat) (p0_0 : Int) (p0_1 : Int) (p0_2 : List Int)  (K : Bool → Option ρ) : Option ρ := S_impl_IsBoard_e p0_0 p0_1 p0_2  (F_impl_IsBoard_0 fuel   K fuel) K
theorem f_impl_IsBoard {ρ : Type} (fuel : Nat) (p0_0 : Int) (p0_1 : Int) (p0_2 : List Int) (Kk : Out → Option ρ) : runFn TT E_impl_IsBoard (kp_impl_IsBoard 1) fuel [.val] 1 false [[]] 60 [.tmp 2] b_impl_IsBoard [.agg [.int .i64 p0_0, .int .i64 p0_1, .sl (.ints .i64 p0_2)]] Kk = F_impl_IsBoard fuel p0_0 p0_1 p0_2 (fun r1 => Kk ⟨[.x (.bool r1)], []⟩) := by
  rw [s_impl_IsBoard_e, F_impl_IsBoard]
  try simp only [f_impl_IsBoard_0]
noncomputable def sh_impl_IsBoard (p0_0 : Int) (p0_1 : Int) (p0_2 : List Int) : Option (Bool) := val fun n => F_impl_IsBoard n p0_0 p0_1 p0_2 (fun r1 => some r1)
noncomputable def G_impl_IsBoard {ρ : Type} : List DU → (Out → Option ρ) → Option ρ
  | [.agg [.int .i64 p0_0, .int .i64 p0_1, .sl (.ints .i64 p0_2)]], K => (sh_impl_IsBoard p0_0 p0_1 p0_2).bind fun r => K ⟨[.x (.bool r)], []⟩
  | _, _ => none
noncomputable def o_impl_IsBoard : Ora := ⟨[.val], 1, false, G_impl_IsBoard⟩
def un_impl_IsBoard : Out → Option (Bool)
  | ⟨[.x (.bool r1)], []⟩ => some r1
  | _ => none
theorem un_impl_IsBoard_ok {o : Out} {r : Bool} (h : un_impl_IsBoard o = some r) : o = ⟨[.x (.bool r)], []⟩ := by
  unfold un_impl_IsBoard at h
  split at h
  · injection h with h
    subst h
    rfl
  · cases h
theorem n_impl_IsBoard : ∀ k o, E_impl_IsBoard.fn k = some o → Nat1 o := fun k o h => (ook_list (P := Try.prog) (l := O_impl_IsBoard) (fk := E_impl_IsBoard.fk) (List.forall_mem_cons.2 ⟨m_impl_sized, (List.forall_mem_nil _)⟩)).nat k o h
theorem u_impl_IsBoard (fuel : Nat) (p0_0 : Int) (p0_1 : Int) (p0_2 : List Int) : runFn TT E_impl_IsBoard (kp_impl_IsBoard 1) fuel [.val] 1 false [[]] 60 [.tmp 2] b_impl_IsBoard [.agg [.int .i64 p0_0, .int .i64 p0_1, .sl (.ints .i64 p0_2)]] un_impl_IsBoard = F_impl_IsBoard fuel p0_0 p0_1 p0_2 (fun r1 => some r1) := f_impl_IsBoard fuel p0_0 p0_1 p0_2 un_impl_IsBoard
theorem sh_impl_IsBoard_of {n : Nat} {p0_0 : Int} {p0_1 : Int} {p0_2 : List Int} {r : Bool} (h : F_impl_IsBoard n p0_0 p0_1 p0_2 (fun r1 => some r1) = some r) : sh_impl_IsBoard p0_0 p0_1 p0_2 = some r := val_of (fun n m r hm h => by rw [← u_impl_IsBoard] at h ⊢; exact runFn_mono n_impl_IsBoard hm h) h
theorem m_impl_IsBoard : MeetsO Try.prog 73 o_impl_IsBoard := by
  refine ⟨fun ρ ds K => ?_, ⟨_, meets_run (kp := kp_impl_IsBoard 1) (weak := false) (df := [[]]) tsOk (ook_list (l := O_impl_IsBoard) (fk := E_impl_IsBoard.fk) (List.forall_mem_cons.2 ⟨m_impl_sized, (List.forall_mem_nil _)⟩)) mixed Try.func73 (body := b_impl_IsBoard) (by kernel_rfl) (ntmps := 60) (by kernel_rfl) (rs := [.tmp 2]) (by kernel_rfl), fun ds out h => ?_⟩, ⟨_, Try.func73, by kernel_rfl, by kernel_rfl⟩⟩
  · show G_impl_IsBoard ds K = (G_impl_IsBoard ds some).bind K
    unfold G_impl_IsBoard
    split
    · cases sh_impl_IsBoard _ _ _ <;> rfl
    · rfl
  · replace h : G_impl_IsBoard ds some = some out := h
    unfold G_impl_IsBoard at h
    split at h
    · obtain ⟨r, hr, h⟩ := Option.bind_eq_some_iff.1 h
      injection h with h
      subst h
      obtain ⟨n, hn⟩ := val_some hr
      replace hn := (u_impl_IsBoard n _ _ _).trans hn
      rw [runFn_bind (K := un_impl_IsBoard) (K' := some) (f := un_impl_IsBoard) n_impl_IsBoard (fun _ => rfl)] at hn
      obtain ⟨o, h1, h2⟩ := Option.bind_eq_some_iff.1 hn
      rw [un_impl_IsBoard_ok h2] at h1
      exact ⟨n, h1⟩
    · cases h
/-! f74 loop.example.g01239.impl.IsLeaper -/
noncomputable def b_impl_IsLeaper : Code := Try.f74.body.getD .skip
def kp_impl_IsLeaper (g : Nat) : Nat → Option Keep := lk []
def O_impl_IsLeaper : List (FuncId × Ora) := []
def E_impl_IsLeaper : Env := ⟨lk O_impl_IsLeaper, fun _ => false⟩
def S_impl_IsLeaper_e {ρ : Type} (p0_0 : Int) (p0_1 : Int)   (K : Bool → Option ρ) : Option ρ :=
  (bif decide (p0_0 ≥ (0 : Int)) then (bif decide (p0_0 ≤ p0_1) then (bif decide (p0_1 ≥ (1 : Int)) then K (decide (p0_1 ≤ (5 : Int))) else K false) else K false) else K false)
theorem s_impl_IsLeaper_e {ρ : Type} (g fuel : Nat) (p0_0 : Int) (p0_1 : Int) (Kk : Out → Option ρ) : runFn TT E_impl_IsLeaper (kp_impl_IsLeaper g) fuel [.val] 1 false [[]] 23 [.tmp 2] b_impl_IsLeaper [.agg [.int .i64 p0_0, .int .i64 p0_1]] Kk = S_impl_IsLeaper_e p0_0 p0_1   (fun r1 => Kk ⟨[.x (.bool r1)], []⟩) := by
  kernel_rfl
def F_impl_IsLeaper {ρ : Type} (fuel : Nat) (p0_0 : Int) (p0_1 : Int)  (K : Bool → Option ρ) : Option ρ := S_impl_IsLeaper_e p0_0 p0_1   K
theorem f_impl_IsLeaper {ρ : Type} (fuel : Nat) (p0_0 : Int) (p0_1 : Int) (Kk : Out → Option ρ) : runFn TT E_impl_IsLeaper (kp_impl_IsLeaper 1) fuel [.val] 1 false [[]] 23 [.tmp 2] b_impl_IsLeaper [.agg [.int .i64 p0_0, .int .i64 p0_1]] Kk = F_impl_IsLeaper fuel p0_0 p0_1 (fun r1 => Kk ⟨[.x (.bool r1)], []⟩) := by
  rw [s_impl_IsLeaper_e, F_impl_IsLeaper]
noncomputable def sh_impl_IsLeaper (p0_0 : Int) (p0_1 : Int) : Option (Bool) := F_impl_IsLeaper 0 p0_0 p0_1 (fun r1 => some r1)
noncomputable def G_impl_IsLeaper {ρ : Type} : List DU → (Out → Option ρ) → Option ρ
  | [.agg [.int .i64 p0_0, .int .i64 p0_1]], K => (sh_impl_IsLeaper p0_0 p0_1).bind fun r => K ⟨[.x (.bool r)], []⟩
  | _, _ => none
noncomputable def o_impl_IsLeaper : Ora := ⟨[.val], 1, false, G_impl_IsLeaper⟩
def un_impl_IsLeaper : Out → Option (Bool)
  | ⟨[.x (.bool r1)], []⟩ => some r1
  | _ => none
theorem un_impl_IsLeaper_ok {o : Out} {r : Bool} (h : un_impl_IsLeaper o = some r) : o = ⟨[.x (.bool r)], []⟩ := by
  unfold un_impl_IsLeaper at h
  split at h
  · injection h with h
    subst h
    rfl
  · cases h
theorem n_impl_IsLeaper : ∀ k o, E_impl_IsLeaper.fn k = some o → Nat1 o := fun k o h => (ook_list (P := Try.prog) (l := O_impl_IsLeaper) (fk := E_impl_IsLeaper.fk) (List.forall_mem_nil _)).nat k o h
theorem u_impl_IsLeaper (fuel : Nat) (p0_0 : Int) (p0_1 : Int) : runFn TT E_impl_IsLeaper (kp_impl_IsLeaper 1) fuel [.val] 1 false [[]] 23 [.tmp 2] b_impl_IsLeaper [.agg [.int .i64 p0_0, .int .i64 p0_1]] un_impl_IsLeaper = F_impl_IsLeaper fuel p0_0 p0_1 (fun r1 => some r1) := f_impl_IsLeaper fuel p0_0 p0_1 un_impl_IsLeaper
theorem m_impl_IsLeaper : MeetsO Try.prog 74 o_impl_IsLeaper := by
  refine ⟨fun ρ ds K => ?_, ⟨_, meets_run (kp := kp_impl_IsLeaper 1) (weak := false) (df := [[]]) tsOk (ook_list (l := O_impl_IsLeaper) (fk := E_impl_IsLeaper.fk) (List.forall_mem_nil _)) mixed Try.func74 (body := b_impl_IsLeaper) (by kernel_rfl) (ntmps := 23) (by kernel_rfl) (rs := [.tmp 2]) (by kernel_rfl), fun ds out h => ?_⟩, ⟨_, Try.func74, by kernel_rfl, by kernel_rfl⟩⟩
  · show G_impl_IsLeaper ds K = (G_impl_IsLeaper ds some).bind K
    unfold G_impl_IsLeaper
    split
    · cases sh_impl_IsLeaper _ _ <;> rfl
    · rfl
  · replace h : G_impl_IsLeaper ds some = some out := h
    unfold G_impl_IsLeaper at h
    split at h
    · obtain ⟨r, hr, h⟩ := Option.bind_eq_some_iff.1 h
      injection h with h
      subst h
      have hn := (u_impl_IsLeaper 0 _ _).trans hr
      rw [runFn_bind (K := un_impl_IsLeaper) (K' := some) (f := un_impl_IsLeaper) n_impl_IsLeaper (fun _ => rfl)] at hn
      obtain ⟨o, h1, h2⟩ := Option.bind_eq_some_iff.1 hn
      rw [un_impl_IsLeaper_ok h2] at h1
      exact ⟨0, h1⟩
    · cases h
/-! f95 slices.Index[[]int,int] -/
noncomputable def b_slices_Index_int_int : Code := Try.f95.body.getD .skip
def kp_slices_Index_int_int (g : Nat) : Nat → Option Keep := lk [(2, ⟨[], [0, 1, 7, 8], [], [], [], g⟩)]
def O_slices_Index_int_int : List (FuncId × Ora) := []
def E_slices_Index_int_int : Env := ⟨lk O_slices_Index_int_int, fun _ => false⟩
noncomputable def D_slices_Index_int_int_0 {ρ : Type} (g fuel : Nat) (p0 : List Int) (p1 : Int) (n : Nat) (v0 : List Int) (v1 : Int) (v7 : Int) (v8 : Int) (Kk : Out → Option ρ) : Option ρ :=
  iter (run TT E_slices_Index_int_int (kp_slices_Index_int_int g) fuel (cL (cB (cS2 (cS1 (cS2 (b_slices_Index_int_int))))))) (nrmAt (kp_slices_Index_int_int g) (firstRid (cL (cB (cS2 (cS1 (cS2 (b_slices_Index_int_int)))))))) n (⟨[.u (.x (.ro (.ints .i64 v0))), .u (.x (.int .i64 v1)), uu, uu, uu, uu, uu, .u (.x (.int .i64 v7)), .u (.x (.int .i64 v8)), uu, uu, uu, uu, uu, uu, uu, uu, uu, uu], [], [], []⟩) (blkK 0 (seqK (gateAt (kp_slices_Index_int_int g) (200000 + firstRid (cS2 (cS2 (b_slices_Index_int_int))))) (run TT E_slices_Index_int_int (kp_slices_Index_int_int g) fuel (cS2 (cS2 (b_slices_Index_int_int)))) (nrmAt (kp_slices_Index_int_int g) (200000 + firstRid (cS2 (cS2 (b_slices_Index_int_int))))) (topK TT [.val, .val] false [[]] [.tmp 4] [.x (.sl (.ints .i64 p0)), .x (.int .i64 p1)] Kk)))
def S_slices_Index_int_int_e {ρ : Type} (p0 : List Int) (p1 : Int)  (k0 : (List Int → Int → Int → Int → Option ρ)) : Option ρ :=
  k0 p0 p1 (p0.length : Int) (0 : Int)
theorem s_slices_Index_int_int_e {ρ : Type} (g fuel : Nat) (p0 : List Int) (p1 : Int) (Kk : Out → Option ρ) : runFn TT E_slices_Index_int_int (kp_slices_Index_int_int g) fuel [.val, .val] 2 false [[]] 19 [.tmp 4] b_slices_Index_int_int [.x (.sl (.ints .i64 p0)), .x (.int .i64 p1)] Kk = S_slices_Index_int_int_e p0 p1  (fun v0 v1 v7 v8 => D_slices_Index_int_int_0 g fuel p0 p1 fuel v0 v1 v7 v8 Kk) := by
  kernel_rfl
def S_slices_Index_int_int_0 {ρ : Type}  (v0 : List Int) (v1 : Int) (v7 : Int) (v8 : Int) (b0 : (List Int → Int → Int → Int → Option ρ)) (K : Int → Option ρ) : Option ρ :=
  (bif decide (v8 < v7) then (if 0 ≤ v8 then (if v8 < (v0.length : Int) then (bif decide (v1 = (v0.getD v8.toNat 0)) then K v8 else b0 v0 v1 v7 (IntKind.i64.wrap (v8 + (1 : Int)))) else none) else none) else K (-1 : Int))
theorem s_slices_Index_int_int_0 {ρ : Type} (g fuel : Nat) (p0 : List Int) (p1 : Int) (n : Nat) (v0 : List Int) (v1 : Int) (v7 : Int) (v8 : Int) (Kk : Out → Option ρ) : D_slices_Index_int_int_0 g fuel p0 p1  (n + 1) v0 v1 v7 v8 Kk = S_slices_Index_int_int_0  v0 v1 v7 v8 (fun v0 v1 v7 v8 => D_slices_Index_int_int_0 g fuel p0 p1 n v0 v1 v7 v8 Kk) (fun r1 => Kk ⟨[.x (.int .i64 r1)], []⟩) := by
  kernel_rfl
def F_slices_Index_int_int_0 {ρ : Type} (fuel : Nat)   (K : Int → Option ρ) : Nat → List Int → Int → Int → Int → Option ρ
  | 0, _, _, _, _ => none
  | n + 1, v0, v1, v7, v8 => S_slices_Index_int_int_0  v0 v1 v7 v8 (F_slices_Index_int_int_0 fuel   K n) K
theorem f_slices_Index_int_int_0 {ρ : Type} (fuel : Nat) (p0 : List Int) (p1 : Int) (Kk : Out → Option ρ) : ∀ (n : Nat) (v0 : List Int) (v1 : Int) (v7 : Int) (v8 : Int), D_slices_Index_int_int_0 1 fuel p0 p1  n v0 v1 v7 v8 Kk = F_slices_Index_int_int_0 fuel   (fun r1 => Kk ⟨[.x (.int .i64 r1)], []⟩) n v0 v1 v7 v8 := by
  intro n
  induction n with
  | zero => intros; rfl
  | succ n ih =>
    intro v0 v1 v7 v8
    rw [s_slices_Index_int_int_0, F_slices_Index_int_int_0]
    try simp only [ih]
def F_slices_Index_int_int {ρ : Type} (fuel : Nat) (p0 : List Int) (p1 : Int)  (K : Int → Option ρ) : Option ρ := S_slices_Index_int_int_e p0 p1  (F_slices_Index_int_int_0 fuel   K fuel)
theorem f_slices_Index_int_int {ρ : Type} (fuel : Nat) (p0 : List Int) (p1 : Int) (Kk : Out → Option ρ) : runFn TT E_slices_Index_int_int (kp_slices_Index_int_int 1) fuel [.val, .val] 2 false [[]] 19 [.tmp 4] b_slices_Index_int_int [.x (.sl (.ints .i64 p0)), .x (.int .i64 p1)] Kk = F_slices_Index_int_int fuel p0 p1 (fun r1 => Kk ⟨[.x (.int .i64 r1)], []⟩) := by
  rw [s_slices_Index_int_int_e, F_slices_Index_int_int]
  try simp only [f_slices_Index_int_int_0]
noncomputable def sh_slices_Index_int_int (p0 : List Int) (p1 : Int) : Option (Int) := val fun n => F_slices_Index_int_int n p0 p1 (fun r1 => some r1)
noncomputable def G_slices_Index_int_int {ρ : Type} : List DU → (Out → Option ρ) → Option ρ
  | [.x (.sl (.ints .i64 p0)), .x (.int .i64 p1)], K => (sh_slices_Index_int_int p0 p1).bind fun r => K ⟨[.x (.int .i64 r)], []⟩
  | _, _ => none
noncomputable def o_slices_Index_int_int : Ora := ⟨[.val, .val], 2, false, G_slices_Index_int_int⟩
def un_slices_Index_int_int : Out → Option (Int)
  | ⟨[.x (.int .i64 r1)], []⟩ => some r1
  | _ => none
theorem un_slices_Index_int_int_ok {o : Out} {r : Int} (h : un_slices_Index_int_int o = some r) : o = ⟨[.x (.int .i64 r)], []⟩ := by
  unfold un_slices_Index_int_int at h
  split at h
  · injection h with h
    subst h
    rfl
  · cases h
theorem n_slices_Index_int_int : ∀ k o, E_slices_Index_int_int.fn k = some o → Nat1 o := fun k o h => (ook_list (P := Try.prog) (l := O_slices_Index_int_int) (fk := E_slices_Index_int_int.fk) (List.forall_mem_nil _)).nat k o h
theorem u_slices_Index_int_int (fuel : Nat) (p0 : List Int) (p1 : Int) : runFn TT E_slices_Index_int_int (kp_slices_Index_int_int 1) fuel [.val, .val] 2 false [[]] 19 [.tmp 4] b_slices_Index_int_int [.x (.sl (.ints .i64 p0)), .x (.int .i64 p1)] un_slices_Index_int_int = F_slices_Index_int_int fuel p0 p1 (fun r1 => some r1) := f_slices_Index_int_int fuel p0 p1 un_slices_Index_int_int
theorem sh_slices_Index_int_int_of {n : Nat} {p0 : List Int} {p1 : Int} {r : Int} (h : F_slices_Index_int_int n p0 p1 (fun r1 => some r1) = some r) : sh_slices_Index_int_int p0 p1 = some r := val_of (fun n m r hm h => by rw [← u_slices_Index_int_int] at h ⊢; exact runFn_mono n_slices_Index_int_int hm h) h
theorem m_slices_Index_int_int : MeetsO Try.prog 95 o_slices_Index_int_int := by
  refine ⟨fun ρ ds K => ?_, ⟨_, meets_run (kp := kp_slices_Index_int_int 1) (weak := false) (df := [[]]) tsOk (ook_list (l := O_slices_Index_int_int) (fk := E_slices_Index_int_int.fk) (List.forall_mem_nil _)) mixed Try.func95 (body := b_slices_Index_int_int) (by kernel_rfl) (ntmps := 19) (by kernel_rfl) (rs := [.tmp 4]) (by kernel_rfl), fun ds out h => ?_⟩, ⟨_, Try.func95, by kernel_rfl, by kernel_rfl⟩⟩
  · show G_slices_Index_int_int ds K = (G_slices_Index_int_int ds some).bind K
    unfold G_slices_Index_int_int
    split
    · cases sh_slices_Index_int_int _ _ <;> rfl
    · rfl
  · replace h : G_slices_Index_int_int ds some = some out := h
    unfold G_slices_Index_int_int at h
    split at h
    · obtain ⟨r, hr, h⟩ := Option.bind_eq_some_iff.1 h
      injection h with h
      subst h
      obtain ⟨n, hn⟩ := val_some hr
      replace hn := (u_slices_Index_int_int n _ _).trans hn
      rw [runFn_bind (K := un_slices_Index_int_int) (K' := some) (f := un_slices_Index_int_int) n_slices_Index_int_int (fun _ => rfl)] at hn
      obtain ⟨o, h1, h2⟩ := Option.bind_eq_some_iff.1 hn
      rw [un_slices_Index_int_int_ok h2] at h1
      exact ⟨n, h1⟩
    · cases h
/-! f82 slices.Contains[[]int,int] -/
noncomputable def b_slices_Contains_int_int : Code := Try.f82.body.getD .skip
def kp_slices_Contains_int_int (g : Nat) : Nat → Option Keep := lk []
def O_slices_Contains_int_int : List (FuncId × Ora) := [(95, o_slices_Index_int_int)]
def E_slices_Contains_int_int : Env := ⟨lk O_slices_Contains_int_int, fun _ => false⟩
def S_slices_Contains_int_int_e {ρ : Type} (p0 : List Int) (p1 : Int)   (K : Bool → Option ρ) : Option ρ :=
  ((sh_slices_Index_int_int p0 p1).bind fun r1 => K (decide (r1 ≥ (0 : Int))))
theorem s_slices_Contains_int_int_e {ρ : Type} (g fuel : Nat) (p0 : List Int) (p1 : Int) (Kk : Out → Option ρ) : runFn TT E_slices_Contains_int_int (kp_slices_Contains_int_int g) fuel [.val, .val] 2 false [[]] 9 [.tmp 4] b_slices_Contains_int_int [.x (.sl (.ints .i64 p0)), .x (.int .i64 p1)] Kk = S_slices_Contains_int_int_e p0 p1   (fun r1 => Kk ⟨[.x (.bool r1)], []⟩) := by
  kernel_rfl
def F_slices_Contains_int_int {ρ : Type} (fuel : Nat) (p0 : List Int) (p1 : Int)  (K : Bool → Option ρ) : Option ρ := S_slices_Contains_int_int_e p0 p1   K
theorem f_slices_Contains_int_int {ρ : Type} (fuel : Nat) (p0 : List Int) (p1 : Int) (Kk : Out → Option ρ) : runFn TT E_slices_Contains_int_int (kp_slices_Contains_int_int 1) fuel [.val, .val] 2 false [[]] 9 [.tmp 4] b_slices_Contains_int_int [.x (.sl (.ints .i64 p0)), .x (.int .i64 p1)] Kk = F_slices_Contains_int_int fuel p0 p1 (fun r1 => Kk ⟨[.x (.bool r1)], []⟩) := by
  rw [s_slices_Contains_int_int_e, F_slices_Contains_int_int]
noncomputable def sh_slices_Contains_int_int (p0 : List Int) (p1 : Int) : Option (Bool) := F_slices_Contains_int_int 0 p0 p1 (fun r1 => some r1)
noncomputable def G_slices_Contains_int_int {ρ : Type} : List DU → (Out → Option ρ) → Option ρ
  | [.x (.sl (.ints .i64 p0)), .x (.int .i64 p1)], K => (sh_slices_Contains_int_int p0 p1).bind fun r => K ⟨[.x (.bool r)], []⟩
  | _, _ => none
noncomputable def o_slices_Contains_int_int : Ora := ⟨[.val, .val], 2, false, G_slices_Contains_int_int⟩
def un_slices_Contains_int_int : Out → Option (Bool)
  | ⟨[.x (.bool r1)], []⟩ => some r1
  | _ => none
theorem un_slices_Contains_int_int_ok {o : Out} {r : Bool} (h : un_slices_Contains_int_int o = some r) : o = ⟨[.x (.bool r)], []⟩ := by
  unfold un_slices_Contains_int_int at h
  split at h
  · injection h with h
    subst h
    rfl
  · cases h
theorem n_slices_Contains_int_int : ∀ k o, E_slices_Contains_int_int.fn k = some o → Nat1 o := fun k o h => (ook_list (P := Try.prog) (l := O_slices_Contains_int_int) (fk := E_slices_Contains_int_int.fk) (List.forall_mem_cons.2 ⟨m_slices_Index_int_int, (List.forall_mem_nil _)⟩)).nat k o h
theorem u_slices_Contains_int_int (fuel : Nat) (p0 : List Int) (p1 : Int) : runFn TT E_slices_Contains_int_int (kp_slices_Contains_int_int 1) fuel [.val, .val] 2 false [[]] 9 [.tmp 4] b_slices_Contains_int_int [.x (.sl (.ints .i64 p0)), .x (.int .i64 p1)] un_slices_Contains_int_int = F_slices_Contains_int_int fuel p0 p1 (fun r1 => some r1) := f_slices_Contains_int_int fuel p0 p1 un_slices_Contains_int_int
theorem m_slices_Contains_int_int : MeetsO Try.prog 82 o_slices_Contains_int_int := by
  refine ⟨fun ρ ds K => ?_, ⟨_, meets_run (kp := kp_slices_Contains_int_int 1) (weak := false) (df := [[]]) tsOk (ook_list (l := O_slices_Contains_int_int) (fk := E_slices_Contains_int_int.fk) (List.forall_mem_cons.2 ⟨m_slices_Index_int_int, (List.forall_mem_nil _)⟩)) mixed Try.func82 (body := b_slices_Contains_int_int) (by kernel_rfl) (ntmps := 9) (by kernel_rfl) (rs := [.tmp 4]) (by kernel_rfl), fun ds out h => ?_⟩, ⟨_, Try.func82, by kernel_rfl, by kernel_rfl⟩⟩
  · show G_slices_Contains_int_int ds K = (G_slices_Contains_int_int ds some).bind K
    unfold G_slices_Contains_int_int
    split
    · cases sh_slices_Contains_int_int _ _ <;> rfl
    · rfl
  · replace h : G_slices_Contains_int_int ds some = some out := h
    unfold G_slices_Contains_int_int at h
    split at h
    · obtain ⟨r, hr, h⟩ := Option.bind_eq_some_iff.1 h
      injection h with h
      subst h
      have hn := (u_slices_Contains_int_int 0 _ _).trans hr
      rw [runFn_bind (K := un_slices_Contains_int_int) (K' := some) (f := un_slices_Contains_int_int) n_slices_Contains_int_int (fun _ => rfl)] at hn
      obtain ⟨o, h1, h2⟩ := Option.bind_eq_some_iff.1 hn
      rw [un_slices_Contains_int_int_ok h2] at h1
      exact ⟨0, h1⟩
    · cases h
/-! f72 (loop.example.g01239.impl.Board).has -/
noncomputable def b_impl_Board_has : Code := Try.f72.body.getD .skip
def kp_impl_Board_has (g : Nat) : Nat → Option Keep := lk []
def O_impl_Board_has : List (FuncId × Ora) := [(82, o_slices_Contains_int_int)]
def E_impl_Board_has : Env := ⟨lk O_impl_Board_has, fun _ => false⟩
def S_impl_Board_has_e {ρ : Type} (p0_0 : Int) (p0_1 : Int) (p0_2 : List Int) (p1 : Int)   (K : Bool → Option ρ) : Option ρ :=
  (bif decide (p1 ≥ (0 : Int)) then (bif decide (p1 < (IntKind.i64.wrap (p0_0 * p0_1))) then ((sh_slices_Contains_int_int p0_2 p1).bind fun r1 => K !r1) else K false) else K false)
theorem s_impl_Board_has_e {ρ : Type} (g fuel : Nat) (p0_0 : Int) (p0_1 : Int) (p0_2 : List Int) (p1 : Int) (Kk : Out → Option ρ) : runFn TT E_impl_Board_has (kp_impl_Board_has g) fuel [.val, .val] 2 false [[]] 23 [.tmp 4] b_impl_Board_has [.agg [.int .i64 p0_0, .int .i64 p0_1, .sl (.ints .i64 p0_2)], .x (.int .i64 p1)] Kk = S_impl_Board_has_e p0_0 p0_1 p0_2 p1   (fun r1 => Kk ⟨[.x (.bool r1)], []⟩) := by
  kernel_rfl
def F_impl_Board_has {ρ : Type} (fuel : Nat) (p0_0 : Int) (p0_1 : Int) (p0_2 : List Int) (p1 : Int)  (K : Bool → Option ρ) : Option ρ := S_impl_Board_has_e p0_0 p0_1 p0_2 p1   K
theorem f_impl_Board_has {ρ : Type} (fuel : Nat) (p0_0 : Int) (p0_1 : Int) (p0_2 : List Int) (p1 : Int) (Kk : Out → Option ρ) : runFn TT E_impl_Board_has (kp_impl_Board_has 1) fuel [.val, .val] 2 false [[]] 23 [.tmp 4] b_impl_Board_has [.agg [.int .i64 p0_0, .int .i64 p0_1, .sl (.ints .i64 p0_2)], .x (.int .i64 p1)] Kk = F_impl_Board_has fuel p0_0 p0_1 p0_2 p1 (fun r1 => Kk ⟨[.x (.bool r1)], []⟩) := by
  rw [s_impl_Board_has_e, F_impl_Board_has]
noncomputable def sh_impl_Board_has (p0_0 : Int) (p0_1 : Int) (p0_2 : List Int) (p1 : Int) : Option (Bool) := F_impl_Board_has 0 p0_0 p0_1 p0_2 p1 (fun r1 => some r1)
noncomputable def G_impl_Board_has {ρ : Type} : List DU → (Out → Option ρ) → Option ρ
  | [.agg [.int .i64 p0_0, .int .i64 p0_1, .sl (.ints .i64 p0_2)], .x (.int .i64 p1)], K => (sh_impl_Board_has p0_0 p0_1 p0_2 p1).bind fun r => K ⟨[.x (.bool r)], []⟩
  | _, _ => none
noncomputable def o_impl_Board_has : Ora := ⟨[.val, .val], 2, false, G_impl_Board_has⟩
def un_impl_Board_has : Out → Option (Bool)
  | ⟨[.x (.bool r1)], []⟩ => some r1
  | _ => none
theorem un_impl_Board_has_ok {o : Out} {r : Bool} (h : un_impl_Board_has o = some r) : o = ⟨[.x (.bool r)], []⟩ := by
  unfold un_impl_Board_has at h
  split at h
  · injection h with h
    subst h
    rfl
  · cases h
theorem n_impl_Board_has : ∀ k o, E_impl_Board_has.fn k = some o → Nat1 o := fun k o h => (ook_list (P := Try.prog) (l := O_impl_Board_has) (fk := E_impl_Board_has.fk) (List.forall_mem_cons.2 ⟨m_slices_Contains_int_int, (List.forall_mem_nil _)⟩)).nat k o h
theorem u_impl_Board_has (fuel : Nat) (p0_0 : Int) (p0_1 : Int) (p0_2 : List Int) (p1 : Int) : runFn TT E_impl_Board_has (kp_impl_Board_has 1) fuel [.val, .val] 2 false [[]] 23 [.tmp 4] b_impl_Board_has [.agg [.int .i64 p0_0, .int .i64 p0_1, .sl (.ints .i64 p0_2)], .x (.int .i64 p1)] un_impl_Board_has = F_impl_Board_has fuel p0_0 p0_1 p0_2 p1 (fun r1 => some r1) := f_impl_Board_has fuel p0_0 p0_1 p0_2 p1 un_impl_Board_has
theorem m_impl_Board_has : MeetsO Try.prog 72 o_impl_Board_has := by
  refine ⟨fun ρ ds K => ?_, ⟨_, meets_run (kp := kp_impl_Board_has 1) (weak := false) (df := [[]]) tsOk (ook_list (l := O_impl_Board_has) (fk := E_impl_Board_has.fk) (List.forall_mem_cons.2 ⟨m_slices_Contains_int_int, (List.forall_mem_nil _)⟩)) mixed Try.func72 (body := b_impl_Board_has) (by kernel_rfl) (ntmps := 23) (by kernel_rfl) (rs := [.tmp 4]) (by kernel_rfl), fun ds out h => ?_⟩, ⟨_, Try.func72, by kernel_rfl, by kernel_rfl⟩⟩
  · show G_impl_Board_has ds K = (G_impl_Board_has ds some).bind K
    unfold G_impl_Board_has
    split
    · cases sh_impl_Board_has _ _ _ _ <;> rfl
    · rfl
  · replace h : G_impl_Board_has ds some = some out := h
    unfold G_impl_Board_has at h
    split at h
    · obtain ⟨r, hr, h⟩ := Option.bind_eq_some_iff.1 h
      injection h with h
      subst h
      have hn := (u_impl_Board_has 0 _ _ _ _).trans hr
      rw [runFn_bind (K := un_impl_Board_has) (K' := some) (f := un_impl_Board_has) n_impl_Board_has (fun _ => rfl)] at hn
      obtain ⟨o, h1, h2⟩ := Option.bind_eq_some_iff.1 hn
      rw [un_impl_Board_has_ok h2] at h1
      exact ⟨0, h1⟩
    · cases h
/-! f38 loop.example.g01239.impl.IsPuzzle -/
noncomputable def b_impl_IsPuzzle : Code := Try.f38.body.getD .skip
def kp_impl_IsPuzzle (g : Nat) : Nat → Option Keep := lk [(8, ⟨[], [1, 3, 4, 44, 45, 46], [4096], [], [], g⟩)]
def O_impl_IsPuzzle : List (FuncId × Ora) := [(72, o_impl_Board_has), (73, o_impl_IsBoard), (74, o_impl_IsLeaper)]
def E_impl_IsPuzzle : Env := ⟨lk O_impl_IsPuzzle, fun _ => false⟩
noncomputable def D_impl_IsPuzzle_0 {ρ : Type} (g fuel : Nat) (p0_0 : Int) (p0_1 : Int) (p0_2 : List Int) (p0_3 : Int) (p0_4 : Int) (p0_5 : List Int) (n : Nat) (v3 : Int) (v4 : List Bool) (v44 : List Int) (v45 : Int) (v46 : Int) (c4096_0 : Int) (c4096_1 : Int) (c4096_2 : List Int) (c4096_3 : Int) (c4096_4 : Int) (Kk : Out → Option ρ) : Option ρ :=
  iter (run TT E_impl_IsPuzzle (kp_impl_IsPuzzle g) fuel (cL (cB (cS2 (cS1 (cS2 (cS2 (cS2 (cS2 (cS2 (b_impl_IsPuzzle))))))))))) (nrmAt (kp_impl_IsPuzzle g) (firstRid (cL (cB (cS2 (cS1 (cS2 (cS2 (cS2 (cS2 (cS2 (b_impl_IsPuzzle)))))))))))) n (⟨[uu, .u (.x (.ptr 4096 0)), uu, .u (.x (.int .i64 v3)), .u (.x (.own 10272 (.bools v4))), uu, uu, uu, uu, uu, uu, uu, uu, uu, uu, uu, uu, uu, uu, uu, uu, uu, uu, uu, uu, uu, uu, uu, uu, uu, uu, uu, uu, uu, uu, uu, uu, uu, uu, uu, uu, uu, uu, uu, .u (.x (.ro (.ints .i64 v44))), .u (.x (.int .i64 v45)), .u (.x (.int .i64 v46)), uu, uu, uu, uu, uu, uu, uu, uu, uu, uu, uu, uu, uu, uu, uu, uu, uu, uu, uu, uu, uu, uu, uu, uu, uu, uu, uu, uu, uu, uu], [(4096, [.int .i64 c4096_0, .int .i64 c4096_1, .ro (.ints .i64 c4096_2), .int .i64 c4096_3, .int .i64 c4096_4, .ro (.ints .i64 v44)])], [], []⟩) (blkK 0 (seqK (gateAt (kp_impl_IsPuzzle g) (200000 + firstRid (cS2 (cS2 (cS2 (cS2 (cS2 (cS2 (b_impl_IsPuzzle))))))))) (run TT E_impl_IsPuzzle (kp_impl_IsPuzzle g) fuel (cS2 (cS2 (cS2 (cS2 (cS2 (cS2 (b_impl_IsPuzzle)))))))) (nrmAt (kp_impl_IsPuzzle g) (200000 + firstRid (cS2 (cS2 (cS2 (cS2 (cS2 (cS2 (b_impl_IsPuzzle))))))))) (topK TT [.val] false [[]] [.tmp 2] [.agg [.int .i64 p0_0, .int .i64 p0_1, .sl (.ints .i64 p0_2), .int .i64 p0_3, .int .i64 p0_4, .sl (.ints .i64 p0_5)]] Kk)))
def S_impl_IsPuzzle_e {ρ : Type} (p0_0 : Int) (p0_1 : Int) (p0_2 : List Int) (p0_3 : Int) (p0_4 : Int) (p0_5 : List Int)  (k0 : (Int → List Bool → List Int → Int → Int → Int → Int → List Int → Int → Int → Option ρ)) (K : Bool → Option ρ) : Option ρ :=
  ((sh_impl_IsBoard p0_0 p0_1 p0_2).bind fun r1 => (bif !r1 then K false else ((sh_impl_IsLeaper p0_3 p0_4).bind fun r2 => (bif !r2 then K false else (bif !decide ((p0_5.length : Int) = (IntKind.i64.wrap (p0_0 * p0_1))) then K false else (bif decide ((IntKind.i64.wrap ((p0_5.length : Int) - (p0_2.length : Int))) > (16 : Int)) then K false else (if 0 ≤ (IntKind.i64.wrap ((IntKind.i64.wrap ((p0_5.length : Int) - (p0_2.length : Int))) + (1 : Int))) then (if (IntKind.i64.wrap ((IntKind.i64.wrap ((p0_5.length : Int) - (p0_2.length : Int))) + (1 : Int))) ≤ 1099511627776 then k0 (IntKind.i64.wrap ((p0_5.length : Int) - (p0_2.length : Int))) (List.replicate (IntKind.i64.wrap ((IntKind.i64.wrap ((p0_5.length : Int) - (p0_2.length : Int))) + (1 : Int))).toNat false) p0_5 (p0_5.length : Int) (0 : Int) p0_0 p0_1 p0_2 p0_3 p0_4 else none) else none)))))))
theorem s_impl_IsPuzzle_e {ρ : Type} (g fuel : Nat) (p0_0 : Int) (p0_1 : Int) (p0_2 : List Int) (p0_3 : Int) (p0_4 : Int) (p0_5 : List Int) (Kk : Out → Option ρ) : runFn TT E_impl_IsPuzzle (kp_impl_IsPuzzle g) fuel [.val] 1 false [[]] 77 [.tmp 2] b_impl_IsPuzzle [.agg [.int .i64 p0_0, .int .i64 p0_1, .sl (.ints .i64 p0_2), .int .i64 p0_3, .int .i64 p0_4, .sl (.ints .i64 p0_5)]] Kk = S_impl_IsPuzzle_e p0_0 p0_1 p0_2 p0_3 p0_4 p0_5  (fun v3 v4 v44 v45 v46 c4096_0 c4096_1 c4096_2 c4096_3 c4096_4 => D_impl_IsPuzzle_0 g fuel p0_0 p0_1 p0_2 p0_3 p0_4 p0_5 fuel v3 v4 v44 v45 v46 c4096_0 c4096_1 c4096_2 c4096_3 c4096_4 Kk) (fun r1 => Kk ⟨[.x (.bool r1)], []⟩) := by
  kernel_rfl
def S_impl_IsPuzzle_0 {ρ : Type}  (v3 : Int) (v4 : List Bool) (v44 : List Int) (v45 : Int) (v46 : Int) (c4096_0 : Int) (c4096_1 : Int) (c4096_2 : List Int) (c4096_3 : Int) (c4096_4 : Int) (b0 : (Int → List Bool → List Int → Int → Int → Int → Int → List Int → Int → Int → Option ρ)) (K : Bool → Option ρ) : Option ρ :=
  (bif decide (v46 < v45) then (if 0 ≤ v46 then (if v46 < (v44.length : Int) then (bif decide ((v44.getD v46.toNat 0) = (0 : Int)) then b0 v3 v4 v44 v45 (IntKind.i64.wrap (v46 + (1 : Int))) c4096_0 c4096_1 c4096_2 c4096_3 c4096_4 else (bif decide ((v44.getD v46.toNat 0) < (0 : Int)) then K false else (bif decide ((v44.getD v46.toNat 0) > v3) then K false else ((sh_impl_Board_has c4096_0 c4096_1 c4096_2 v46).bind fun r1 => (bif !r1 then K false else (if 0 ≤ (v44.getD v46.toNat 0) then (if (v44.getD v46.toNat 0) < (v4.length : Int) then (bif v4.getD ((v44.getD v46.toNat 0).toNat) false then K false else (if 0 ≤ (v44.getD v46.toNat 0) then (if (v44.getD v46.toNat 0) < (v4.length : Int) then b0 v3 (v4.set ((v44.getD v46.toNat 0).toNat) true) v44 v45 (IntKind.i64.wrap (v46 + (1 : Int))) c4096_0 c4096_1 c4096_2 c4096_3 c4096_4 else none) else none)) else none) else none)))))) else none) else none) else K true)
theorem s_impl_IsPuzzle_0 {ρ : Type} (g fuel : Nat) (p0_0 : Int) (p0_1 : Int) (p0_2 : List Int) (p0_3 : Int) (p0_4 : Int) (p0_5 : List Int) (n : Nat) (v3 : Int) (v4 : List Bool) (v44 : List Int) (v45 : Int) (v46 : Int) (c4096_0 : Int) (c4096_1 : Int) (c4096_2 : List Int) (c4096_3 : Int) (c4096_4 : Int) (Kk : Out → Option ρ) : D_impl_IsPuzzle_0 g fuel p0_0 p0_1 p0_2 p0_3 p0_4 p0_5  (n + 1) v3 v4 v44 v45 v46 c4096_0 c4096_1 c4096_2 c4096_3 c4096_4 Kk = S_impl_IsPuzzle_0  v3 v4 v44 v45 v46 c4096_0 c4096_1 c4096_2 c4096_3 c4096_4 (fun v3 v4 v44 v45 v46 c4096_0 c4096_1 c4096_2 c4096_3 c4096_4 => D_impl_IsPuzzle_0 g fuel p0_0 p0_1 p0_2 p0_3 p0_4 p0_5 n v3 v4 v44 v45 v46 c4096_0 c4096_1 c4096_2 c4096_3 c4096_4 Kk) (fun r1 => Kk ⟨[.x (.bool r1)], []⟩) := by
  kernel_rfl
def F_impl_IsPuzzle_0 {ρ : Type} (fuel : Nat)   (K : Bool → Option ρ) : Nat → Int → List Bool → List Int → Int → Int → Int → Int → List Int → Int → Int → Option ρ
  | 0, _, _, _, _, _, _, _, _, _, _ => none
  | n + 1, v3, v4, v44, v45, v46, c4096_0, c4096_1, c4096_2, c4096_3, c4096_4 => S_impl_IsPuzzle_0  v3 v4 v44 v45 v46 c4096_0 c4096_1 c4096_2 c4096_3 c4096_4 (F_impl_IsPuzzle_0 fuel   K n) K
theorem f_impl_IsPuzzle_0 {ρ : Type} (fuel : Nat) (p0_0 : Int) (p0_1 : Int) (p0_2 : List Int) (p0_3 : Int) (p0_4 : Int) (p0_5 : List Int) (Kk : Out → Option ρ) : ∀ (n : Nat) (v3 : Int) (v4 : List Bool) (v44 : List Int) (v45 : Int) (v46 : Int) (c4096_0 : Int) (c4096_1 : Int) (c4096_2 : List Int) (c4096_3 : Int) (c4096_4 : Int), D_impl_IsPuzzle_0 1 fuel p0_0 p0_1 p0_2 p0_3 p0_4 p0_5  n v3 v4 v44 v45 v46 c4096_0 c4096_1 c4096_2 c4096_3 c4096_4 Kk = F_impl_IsPuzzle_0 fuel   (fun r1 => Kk ⟨[.x (.bool r1)], []⟩) n v3 v4 v44 v45 v46 c4096_0 c4096_1 c4096_2 c4096_3 c4096_4 := by
  intro n
  induction n with
  | zero => intros; rfl
  | succ n ih =>
    intro v3 v4 v44 v45 v46 c4096_0 c4096_1 c4096_2 c4096_3 c4096_4
    rw [s_impl_IsPuzzle_0, F_impl_IsPuzzle_0]
    try simp only [ih]
def F_impl_IsPuzzle {ρ : Type} (fuel : Nat) (p0_0 : Int) (p0_1 : Int) (p0_2 : List Int) (p0_3 : Int) (p0_4 : Int) (p0_5 : List Int)  (K : Bool → Option ρ) : Option ρ := S_impl_IsPuzzle_e p0_0 p0_1 p0_2 p0_3 p0_4 p0_5  (F_impl_IsPuzzle_0 fuel   K fuel) K
theorem f_impl_IsPuzzle {ρ : Type} (fuel : Nat) (p0_0 : Int) (p0_1 : Int) (p0_2 : List Int) (p0_3 : Int) (p0_4 : Int) (p0_5 : List Int) (Kk : Out → Option ρ) : runFn TT E_impl_IsPuzzle (kp_impl_IsPuzzle 1) fuel [.val] 1 false [[]] 77 [.tmp 2] b_impl_IsPuzzle [.agg [.int .i64 p0_0, .int .i64 p0_1, .sl (.ints .i64 p0_2), .int .i64 p0_3, .int .i64 p0_4, .sl (.ints .i64 p0_5)]] Kk = F_impl_IsPuzzle fuel p0_0 p0_1 p0_2 p0_3 p0_4 p0_5 (fun r1 => Kk ⟨[.x (.bool r1)], []⟩) := by
  rw [s_impl_IsPuzzle_e, F_impl_IsPuzzle]
  try simp only [f_impl_IsPuzzle_0]
noncomputable def sh_impl_IsPuzzle (p0_0 : Int) (p0_1 : Int) (p0_2 : List Int) (p0_3 : Int) (p0_4 : Int) (p0_5 : List Int) : Option (Bool) := val fun n => F_impl_IsPuzzle n p0_0 p0_1 p0_2 p0_3 p0_4 p0_5 (fun r1 => some r1)
noncomputable def G_impl_IsPuzzle {ρ : Type} : List DU → (Out → Option ρ) → Option ρ
  | [.agg [.int .i64 p0_0, .int .i64 p0_1, .sl (.ints .i64 p0_2), .int .i64 p0_3, .int .i64 p0_4, .sl (.ints .i64 p0_5)]], K => (sh_impl_IsPuzzle p0_0 p0_1 p0_2 p0_3 p0_4 p0_5).bind fun r => K ⟨[.x (.bool r)], []⟩
  | _, _ => none
noncomputable def o_impl_IsPuzzle : Ora := ⟨[.val], 1, false, G_impl_IsPuzzle⟩
def un_impl_IsPuzzle : Out → Option (Bool)
  | ⟨[.x (.bool r1)], []⟩ => some r1
  | _ => none
theorem un_impl_IsPuzzle_ok {o : Out} {r : Bool} (h : un_impl_IsPuzzle o = some r) : o = ⟨[.x (.bool r)], []⟩ := by
  unfold un_impl_IsPuzzle at h
  split at h
  · injection h with h
    subst h
    rfl
  · cases h
theorem n_impl_IsPuzzle : ∀ k o, E_impl_IsPuzzle.fn k = some o → Nat1 o := fun k o h => (ook_list (P := Try.prog) (l := O_impl_IsPuzzle) (fk := E_impl_IsPuzzle.fk) (List.forall_mem_cons.2 ⟨m_impl_Board_has, (List.forall_mem_cons.2 ⟨m_impl_IsBoard, (List.forall_mem_cons.2 ⟨m_impl_IsLeaper, (List.forall_mem_nil _)⟩)⟩)⟩)).nat k o h
theorem u_impl_IsPuzzle (fuel : Nat) (p0_0 : Int) (p0_1 : Int) (p0_2 : List Int) (p0_3 : Int) (p0_4 : Int) (p0_5 : List Int) : runFn TT E_impl_IsPuzzle (kp_impl_IsPuzzle 1) fuel [.val] 1 false [[]] 77 [.tmp 2] b_impl_IsPuzzle [.agg [.int .i64 p0_0, .int .i64 p0_1, .sl (.ints .i64 p0_2), .int .i64 p0_3, .int .i64 p0_4, .sl (.ints .i64 p0_5)]] un_impl_IsPuzzle = F_impl_IsPuzzle fuel p0_0 p0_1 p0_2 p0_3 p0_4 p0_5 (fun r1 => some r1) := f_impl_IsPuzzle fuel p0_0 p0_1 p0_2 p0_3 p0_4 p0_5 un_impl_IsPuzzle
theorem sh_impl_IsPuzzle_of {n : Nat} {p0_0 : Int} {p0_1 : Int} {p0_2 : List Int} {p0_3 : Int} {p0_4 : Int} {p0_5 : List Int} {r : Bool} (h : F_impl_IsPuzzle n p0_0 p0_1 p0_2 p0_3 p0_4 p0_5 (fun r1 => some r1) = some r) : sh_impl_IsPuzzle p0_0 p0_1 p0_2 p0_3 p0_4 p0_5 = some r := val_of (fun n m r hm h => by rw [← u_impl_IsPuzzle] at h ⊢; exact runFn_mono n_impl_IsPuzzle hm h) h
theorem m_impl_IsPuzzle : MeetsO Try.prog 38 o_impl_IsPuzzle := by
  refine ⟨fun ρ ds K => ?_, ⟨_, meets_run (kp := kp_impl_IsPuzzle 1) (weak := false) (df := [[]]) tsOk (ook_list (l := O_impl_IsPuzzle) (fk := E_impl_IsPuzzle.fk) (List.forall_mem_cons.2 ⟨m_impl_Board_has, (List.forall_mem_cons.2 ⟨m_impl_IsBoard, (List.forall_mem_cons.2 ⟨m_impl_IsLeaper, (List.forall_mem_nil _)⟩)⟩)⟩)) mixed Try.func38 (body := b_impl_IsPuzzle) (by kernel_rfl) (ntmps := 77) (by kernel_rfl) (rs := [.tmp 2]) (by kernel_rfl), fun ds out h => ?_⟩, ⟨_, Try.func38, by kernel_rfl, by kernel_rfl⟩⟩
  · show G_impl_IsPuzzle ds K = (G_impl_IsPuzzle ds some).bind K
    unfold G_impl_IsPuzzle
    split
    · cases sh_impl_IsPuzzle _ _ _ _ _ _ <;> rfl
    · rfl
  · replace h : G_impl_IsPuzzle ds some = some out := h
    unfold G_impl_IsPuzzle at h
    split at h
    · obtain ⟨r, hr, h⟩ := Option.bind_eq_some_iff.1 h
      injection h with h
      subst h
      obtain ⟨n, hn⟩ := val_some hr
      replace hn := (u_impl_IsPuzzle n _ _ _ _ _ _).trans hn
      rw [runFn_bind (K := un_impl_IsPuzzle) (K' := some) (f := un_impl_IsPuzzle) n_impl_IsPuzzle (fun _ => rfl)] at hn
      obtain ⟨o, h1, h2⟩ := Option.bind_eq_some_iff.1 hn
      rw [un_impl_IsPuzzle_ok h2] at h1
      exact ⟨n, h1⟩
    · cases h
/-! f87 (loop.example.g01239.impl.Board).present -/
noncomputable def b_impl_Board_present : Code := Try.f87.body.getD .skip
def kp_impl_Board_present (g : Nat) : Nat → Option Keep := lk [(3, ⟨[], [1, 3, 9, 10], [4096], [(3, 16400000)], [], g⟩)]
def O_impl_Board_present : List (FuncId × Ora) := [(82, o_slices_Contains_int_int)]
def E_impl_Board_present : Env := ⟨lk O_impl_Board_present, fun _ => false⟩
noncomputable def D_impl_Board_present_0 {ρ : Type} (g fuel : Nat) (p0_0 : Int) (p0_1 : Int) (p0_2 : List Int) (n : Nat) (v3 : List Int) (v9 : Int) (v10 : Int) (c4096_0 : Int) (c4096_1 : Int) (c4096_2 : List Int) (Kk : Out → Option ρ) : Option ρ :=
  iter (run TT E_impl_Board_present (kp_impl_Board_present g) fuel (cL (cB (cS2 (cS1 (cS2 (cS2 (b_impl_Board_present)))))))) (nrmAt (kp_impl_Board_present g) (firstRid (cL (cB (cS2 (cS1 (cS2 (cS2 (b_impl_Board_present))))))))) n (⟨[uu, .u (.x (.ptr 4096 0)), uu, .u (.x (.own 16400000 (.ints .i64 v3))), uu, uu, uu, uu, uu, .u (.x (.int .i64 v9)), .u (.x (.int .i64 v10)), uu, uu, uu, uu, uu, uu, uu, uu, uu, uu, uu, uu, uu], [(4096, [.int .i64 c4096_0, .int .i64 c4096_1, .ro (.ints .i64 c4096_2)])], [], []⟩) (blkK 0 (seqK (gateAt (kp_impl_Board_present g) (200000 + firstRid (cS2 (cS2 (cS2 (b_impl_Board_present)))))) (run TT E_impl_Board_present (kp_impl_Board_present g) fuel (cS2 (cS2 (cS2 (b_impl_Board_present))))) (nrmAt (kp_impl_Board_present g) (200000 + firstRid (cS2 (cS2 (cS2 (b_impl_Board_present)))))) (topK TT [.val] false [[]] [.tmp 2] [.agg [.int .i64 p0_0, .int .i64 p0_1, .sl (.ints .i64 p0_2)]] Kk)))
def S_impl_Board_present_e {ρ : Type} (p0_0 : Int) (p0_1 : Int) (p0_2 : List Int)  (k0 : (List Int → Int → Int → Int → Int → List Int → Option ρ)) : Option ρ :=
  k0 [] (IntKind.i64.wrap (p0_0 * p0_1)) (0 : Int) p0_0 p0_1 p0_2
theorem s_impl_Board_present_e {ρ : Type} (g fuel : Nat) (p0_0 : Int) (p0_1 : Int) (p0_2 : List Int) (Kk : Out → Option ρ) : runFn TT E_impl_Board_present (kp_impl_Board_present g) fuel [.val] 1 false [[]] 24 [.tmp 2] b_impl_Board_present [.agg [.int .i64 p0_0, .int .i64 p0_1, .sl (.ints .i64 p0_2)]] Kk = S_impl_Board_present_e p0_0 p0_1 p0_2  (fun v3 v9 v10 c4096_0 c4096_1 c4096_2 => D_impl_Board_present_0 g fuel p0_0 p0_1 p0_2 fuel v3 v9 v10 c4096_0 c4096_1 c4096_2 Kk) := by
  kernel_rfl
def S_impl_Board_present_0 {ρ : Type}  (v3 : List Int) (v9 : Int) (v10 : Int) (c4096_0 : Int) (c4096_1 : Int) (c4096_2 : List Int) (b0 : (List Int → Int → Int → Int → Int → List Int → Option ρ)) (K : List Int → Option ρ) : Option ρ :=
  (bif decide (v10 < v9) then ((sh_slices_Contains_int_int c4096_2 v10).bind fun r1 => (bif !r1 then (if (v3 ++ [v10]).length ≤ 1099511627776 then b0 (v3 ++ [v10]) v9 (IntKind.i64.wrap (v10 + (1 : Int))) c4096_0 c4096_1 c4096_2 else none) else b0 v3 v9 (IntKind.i64.wrap (v10 + (1 : Int))) c4096_0 c4096_1 c4096_2)) else K v3)
theorem s_impl_Board_present_0 {ρ : Type} (g fuel : Nat) (p0_0 : Int) (p0_1 : Int) (p0_2 : List Int) (n : Nat) (v3 : List Int) (v9 : Int) (v10 : Int) (c4096_0 : Int) (c4096_1 : Int) (c4096_2 : List Int) (Kk : Out → Option ρ) : D_impl_Board_present_0 g fuel p0_0 p0_1 p0_2  (n + 1) v3 v9 v10 c4096_0 c4096_1 c4096_2 Kk = S_impl_Board_present_0  v3 v9 v10 c4096_0 c4096_1 c4096_2 (fun v3 v9 v10 c4096_0 c4096_1 c4096_2 => D_impl_Board_present_0 g fuel p0_0 p0_1 p0_2 n v3 v9 v10 c4096_0 c4096_1 c4096_2 Kk) (fun r1 => Kk ⟨[.x (.sl (.ints .i64 r1))], []⟩) := by
  kernel_rfl
def F_impl_Board_present_0 {ρ : Type} (fuel : Nat)   (K : List Int → Option ρ) : Nat → List Int → Int → Int → Int → Int → List Int → Option ρ
  | 0, _, _, _, _, _, _ => none
  | n + 1, v3, v9, v10, c4096_0, c4096_1, c4096_2 => S_impl_Board_present_0  v3 v9 v10 c4096_0 c4096_1 c4096_2 (F_impl_Board_present_0 fuel   K n) K
theorem f_impl_Board_present_0 {ρ : Type} (fuel : Nat) (p0_0 : Int) (p0_1 : Int) (p0_2 : List Int) (Kk : Out → Option ρ) : ∀ (n : Nat) (v3 : List Int) (v9 : Int) (v10 : Int) (c4096_0 : Int) (c4096_1 : Int) (c4096_2 : List Int), D_impl_Board_present_0 1 fuel p0_0 p0_1 p0_2  n v3 v9 v10 c4096_0 c4096_1 c4096_2 Kk = F_impl_Board_present_0 fuel   (fun r1 => Kk ⟨[.x (.sl (.ints .i64 r1))], []⟩) n v3 v9 v10 c4096_0 c4096_1 c4096_2 := by
  intro n
  induction n with
  | zero => intros; rfl
  | succ n ih =>
    intro v3 v9 v10 c4096_0 c4096_1 c4096_2
    rw [s_impl_Board_present_0, F_impl_Board_present_0]
    try simp only [ih]
def F_impl_Board_present {ρ : Type} (fuel : Nat) (p0_0 : Int) (p0_1 : Int) (p0_2 : List Int)  (K : List Int → Option ρ) : Option ρ := S_impl_Board_present_e p0_0 p0_1 p0_2  (F_impl_Board_present_0 fuel   K fuel)
theorem f_impl_Board_present {ρ : Type} (fuel : Nat) (p0_0 : Int) (p0_1 : Int) (p0_2 : List Int) (Kk : Out → Option ρ) : runFn TT E_impl_Board_present (kp_impl_Board_present 1) fuel [.val] 1 false [[]] 24 [.tmp 2] b_impl_Board_present [.agg [.int .i64 p0_0, .int .i64 p0_1, .sl (.ints .i64 p0_2)]] Kk = F_impl_Board_present fuel p0_0 p0_1 p0_2 (fun r1 => Kk ⟨[.x (.sl (.ints .i64 r1))], []⟩) := by
  rw [s_impl_Board_present_e, F_impl_Board_present]
  try simp only [f_impl_Board_present_0]
noncomputable def sh_impl_Board_present (p0_0 : Int) (p0_1 : Int) (p0_2 : List Int) : Option (List Int) := val fun n => F_impl_Board_present n p0_0 p0_1 p0_2 (fun r1 => some r1)
noncomputable def G_impl_Board_present {ρ : Type} : List DU → (Out → Option ρ) → Option ρ
  | [.agg [.int .i64 p0_0, .int .i64 p0_1, .sl (.ints .i64 p0_2)]], K => (sh_impl_Board_present p0_0 p0_1 p0_2).bind fun r => K ⟨[.x (.sl (.ints .i64 r))], []⟩
  | _, _ => none
noncomputable def o_impl_Board_present : Ora := ⟨[.val], 1, false, G_impl_Board_present⟩
def un_impl_Board_present : Out → Option (List Int)
  | ⟨[.x (.sl (.ints .i64 r1))], []⟩ => some r1
  | _ => none
theorem un_impl_Board_present_ok {o : Out} {r : List Int} (h : un_impl_Board_present o = some r) : o = ⟨[.x (.sl (.ints .i64 r))], []⟩ := by
  unfold un_impl_Board_present at h
  split at h
  · injection h with h
    subst h
    rfl
  · cases h
theorem n_impl_Board_present : ∀ k o, E_impl_Board_present.fn k = some o → Nat1 o := fun k o h => (ook_list (P := Try.prog) (l := O_impl_Board_present) (fk := E_impl_Board_present.fk) (List.forall_mem_cons.2 ⟨m_slices_Contains_int_int, (List.forall_mem_nil _)⟩)).nat k o h
theorem u_impl_Board_present (fuel : Nat) (p0_0 : Int) (p0_1 : Int) (p0_2 : List Int) : runFn TT E_impl_Board_present (kp_impl_Board_present 1) fuel [.val] 1 false [[]] 24 [.tmp 2] b_impl_Board_present [.agg [.int .i64 p0_0, .int .i64 p0_1, .sl (.ints .i64 p0_2)]] un_impl_Board_present = F_impl_Board_present fuel p0_0 p0_1 p0_2 (fun r1 => some r1) := f_impl_Board_present fuel p0_0 p0_1 p0_2 un_impl_Board_present
theorem sh_impl_Board_present_of {n : Nat} {p0_0 : Int} {p0_1 : Int} {p0_2 : List Int} {r : List Int} (h : F_impl_Board_present n p0_0 p0_1 p0_2 (fun r1 => some r1) = some r) : sh_impl_Board_present p0_0 p0_1 p0_2 = some r := val_of (fun n m r hm h => by rw [← u_impl_Board_present] at h ⊢; exact runFn_mono n_impl_Board_present hm h) h
theorem m_impl_Board_present : MeetsO Try.prog 87 o_impl_Board_present := by
  refine ⟨fun ρ ds K => ?_, ⟨_, meets_run (kp := kp_impl_Board_present 1) (weak := false) (df := [[]]) tsOk (ook_list (l := O_impl_Board_present) (fk := E_impl_Board_present.fk) (List.forall_mem_cons.2 ⟨m_slices_Contains_int_int, (List.forall_mem_nil _)⟩)) mixed Try.func87 (body := b_impl_Board_present) (by kernel_rfl) (ntmps := 24) (by kernel_rfl) (rs := [.tmp 2]) (by kernel_rfl), fun ds out h => ?_⟩, ⟨_, Try.func87, by kernel_rfl, by kernel_rfl⟩⟩
  · show G_impl_Board_present ds K = (G_impl_Board_present ds some).bind K
    unfold G_impl_Board_present
    split
    · cases sh_impl_Board_present _ _ _ <;> rfl
    · rfl
  · replace h : G_impl_Board_present ds some = some out := h
    unfold G_impl_Board_present at h
    split at h
    · obtain ⟨r, hr, h⟩ := Option.bind_eq_some_iff.1 h
      injection h with h
      subst h
      obtain ⟨n, hn⟩ := val_some hr
      replace hn := (u_impl_Board_present n _ _ _).trans hn
      rw [runFn_bind (K := un_impl_Board_present) (K' := some) (f := un_impl_Board_present) n_impl_Board_present (fun _ => rfl)] at hn
      obtain ⟨o, h1, h2⟩ := Option.bind_eq_some_iff.1 hn
      rw [un_impl_Board_present_ok h2] at h1
      exact ⟨n, h1⟩
    · cases h
/-! f88 (loop.example.g01239.impl.Leaper).steps -/
noncomputable def b_impl_Leaper_steps : Code := Try.f88.body.getD .skip
def kp_impl_Leaper_steps (g : Nat) : Nat → Option Keep := lk [(3, ⟨[], [1, 3, 4], [4096], [(3, 16400000)], [], g⟩), (6, ⟨[], [1, 3, 4, 5], [4096], [(3, 16400064)], [], g⟩), (200007, ⟨[], [1, 3, 4, 5], [4096], [(3, 16400128)], [], g⟩)]
def O_impl_Leaper_steps : List (FuncId × Ora) := []
def E_impl_Leaper_steps : Env := ⟨lk O_impl_Leaper_steps, fun _ => false⟩
noncomputable def D_impl_Leaper_steps_0 {ρ : Type} (g fuel : Nat) (p0_0 : Int) (p0_1 : Int) (n : Nat) (v3 : List (List Int)) (v4 : Int) (c4096_0 : Int) (c4096_1 : Int) (Kk : Out → Option ρ) : Option ρ :=
  iter (run TT E_impl_Leaper_steps (kp_impl_Leaper_steps g) fuel (cL (cB (cS2 (cS1 (cS2 (cS2 (b_impl_Leaper_steps)))))))) (nrmAt (kp_impl_Leaper_steps g) (firstRid (cL (cB (cS2 (cS1 (cS2 (cS2 (b_impl_Leaper_steps))))))))) n (⟨[uu, .u (.x (.ptr 4096 0)), uu, .u (.x (.own 16400000 (.orows v3))), .u (.x (.int .i64 v4)), uu, uu, uu, uu, uu, uu, uu, uu, uu, uu, uu, uu, uu, uu, uu, uu, uu, uu, uu, uu, uu, uu, uu, uu, uu, uu, uu, uu, uu, uu, uu, uu, uu, uu, uu, uu, uu, uu, uu, uu], [(4096, [.int .i64 c4096_0, .int .i64 c4096_1])], [], []⟩) (blkK 0 (seqK (gateAt (kp_impl_Leaper_steps g) (200000 + firstRid (cS2 (cS2 (cS2 (b_impl_Leaper_steps)))))) (run TT E_impl_Leaper_steps (kp_impl_Leaper_steps g) fuel (cS2 (cS2 (cS2 (b_impl_Leaper_steps))))) (nrmAt (kp_impl_Leaper_steps g) (200000 + firstRid (cS2 (cS2 (cS2 (b_impl_Leaper_steps)))))) (topK TT [.val] true [[]] [.tmp 2] [.agg [.int .i64 p0_0, .int .i64 p0_1]] Kk)))
noncomputable def D_impl_Leaper_steps_1 {ρ : Type} (g fuel : Nat) (p0_0 : Int) (p0_1 : Int) (n0 : Nat) (n : Nat) (v3 : List (List Int)) (v4 : Int) (v5 : Int) (c4096_0 : Int) (c4096_1 : Int) (Kk : Out → Option ρ) : Option ρ :=
  iter (run TT E_impl_Leaper_steps (kp_impl_Leaper_steps g) fuel (cL (cB (cS2 (cB (cS1 (cS2 (cL (cB (cS2 (cS1 (cS2 (cS2 (b_impl_Leaper_steps)))))))))))))) (nrmAt (kp_impl_Leaper_steps g) (firstRid (cL (cB (cS2 (cB (cS1 (cS2 (cL (cB (cS2 (cS1 (cS2 (cS2 (b_impl_Leaper_steps))))))))))))))) n (⟨[uu, .u (.x (.ptr 4096 0)), uu, .u (.x (.own 16400064 (.orows v3))), .u (.x (.int .i64 v4)), .u (.x (.int .i64 v5)), uu, uu, uu, uu, uu, uu, uu, uu, uu, uu, uu, uu, uu, uu, uu, uu, uu, uu, uu, uu, uu, uu, uu, uu, uu, uu, uu, uu, uu, uu, uu, uu, uu, uu, uu, uu, uu, uu, uu], [(4096, [.int .i64 c4096_0, .int .i64 c4096_1])], [], []⟩) (blkK 2 (blkK 1 (seqK (gateAt (kp_impl_Leaper_steps g) (200000 + firstRid (cS2 (cS2 (cL (cB (cS2 (cS1 (cS2 (cS2 (b_impl_Leaper_steps))))))))))) (run TT E_impl_Leaper_steps (kp_impl_Leaper_steps g) fuel (cS2 (cS2 (cL (cB (cS2 (cS1 (cS2 (cS2 (b_impl_Leaper_steps)))))))))) (nrmAt (kp_impl_Leaper_steps g) (200000 + firstRid (cS2 (cS2 (cL (cB (cS2 (cS1 (cS2 (cS2 (b_impl_Leaper_steps))))))))))) (itK (run TT E_impl_Leaper_steps (kp_impl_Leaper_steps g) fuel (cL (cB (cS2 (cS1 (cS2 (cS2 (b_impl_Leaper_steps)))))))) (nrmAt (kp_impl_Leaper_steps g) (firstRid (cL (cB (cS2 (cS1 (cS2 (cS2 (b_impl_Leaper_steps))))))))) n0 (blkK 0 (seqK (gateAt (kp_impl_Leaper_steps g) (200000 + firstRid (cS2 (cS2 (cS2 (b_impl_Leaper_steps)))))) (run TT E_impl_Leaper_steps (kp_impl_Leaper_steps g) fuel (cS2 (cS2 (cS2 (b_impl_Leaper_steps))))) (nrmAt (kp_impl_Leaper_steps g) (200000 + firstRid (cS2 (cS2 (cS2 (b_impl_Leaper_steps)))))) (topK TT [.val] true [[]] [.tmp 2] [.agg [.int .i64 p0_0, .int .i64 p0_1]] Kk)))))))
noncomputable def B_impl_Leaper_steps_2 {ρ : Type} (g fuel : Nat) (p0_0 : Int) (p0_1 : Int) (n0 : Nat) (n1 : Nat) (v3 : List (List Int)) (v4 : Int) (v5 : Int) (c4096_0 : Int) (c4096_1 : Int) (Kk : Out → Option ρ) : Option ρ :=
  run TT E_impl_Leaper_steps (kp_impl_Leaper_steps g) fuel (cS2 (cS2 (cL (cB (cS2 (cB (cS1 (cS2 (cL (cB (cS2 (cS1 (cS2 (cS2 (b_impl_Leaper_steps))))))))))))))) (⟨[uu, .u (.x (.ptr 4096 0)), uu, .u (.x (.own 16400128 (.orows v3))), .u (.x (.int .i64 v4)), .u (.x (.int .i64 v5)), uu, uu, uu, uu, uu, uu, uu, uu, uu, uu, uu, uu, uu, uu, uu, uu, uu, uu, uu, uu, uu, uu, uu, uu, uu, uu, uu, uu, uu, uu, uu, uu, uu, uu, uu, uu, uu, uu, uu], [(4096, [.int .i64 c4096_0, .int .i64 c4096_1])], [], []⟩) (itK (run TT E_impl_Leaper_steps (kp_impl_Leaper_steps g) fuel (cL (cB (cS2 (cB (cS1 (cS2 (cL (cB (cS2 (cS1 (cS2 (cS2 (b_impl_Leaper_steps)))))))))))))) (nrmAt (kp_impl_Leaper_steps g) (firstRid (cL (cB (cS2 (cB (cS1 (cS2 (cL (cB (cS2 (cS1 (cS2 (cS2 (b_impl_Leaper_steps))))))))))))))) n1 (blkK 2 (blkK 1 (seqK (gateAt (kp_impl_Leaper_steps g) (200000 + firstRid (cS2 (cS2 (cL (cB (cS2 (cS1 (cS2 (cS2 (b_impl_Leaper_steps))))))))))) (run TT E_impl_Leaper_steps (kp_impl_Leaper_steps g) fuel (cS2 (cS2 (cL (cB (cS2 (cS1 (cS2 (cS2 (b_impl_Leaper_steps)))))))))) (nrmAt (kp_impl_Leaper_steps g) (200000 + firstRid (cS2 (cS2 (cL (cB (cS2 (cS1 (cS2 (cS2 (b_impl_Leaper_steps))))))))))) (itK (run TT E_impl_Leaper_steps (kp_impl_Leaper_steps g) fuel (cL (cB (cS2 (cS1 (cS2 (cS2 (b_impl_Leaper_steps)))))))) (nrmAt (kp_impl_Leaper_steps g) (firstRid (cL (cB (cS2 (cS1 (cS2 (cS2 (b_impl_Leaper_steps))))))))) n0 (blkK 0 (seqK (gateAt (kp_impl_Leaper_steps g) (200000 + firstRid (cS2 (cS2 (cS2 (b_impl_Leaper_steps)))))) (run TT E_impl_Leaper_steps (kp_impl_Leaper_steps g) fuel (cS2 (cS2 (cS2 (b_impl_Leaper_steps))))) (nrmAt (kp_impl_Leaper_steps g) (200000 + firstRid (cS2 (cS2 (cS2 (b_impl_Leaper_steps)))))) (topK TT [.val] true [[]] [.tmp 2] [.agg [.int .i64 p0_0, .int .i64 p0_1]] Kk))))))))
noncomputable def D_impl_Leaper_steps_2 {ρ : Type} (g fuel : Nat) (p0_0 : Int) (p0_1 : Int) (n0 : Nat) (n1 : Nat) (v3 : List (List Int)) (v4 : Int) (v5 : Int) (c4096_0 : Int) (c4096_1 : Int) (Kk : Out → Option ρ) : Option ρ := gate g (B_impl_Leaper_steps_2 g fuel p0_0 p0_1 n0 n1 v3 v4 v5 c4096_0 c4096_1 Kk)
def S_impl_Leaper_steps_e {ρ : Type} (p0_0 : Int) (p0_1 : Int)  (k0 : (List (List Int) → Int → Int → Int → Option ρ)) : Option ρ :=
  k0 [] (-5 : Int) p0_0 p0_1
theorem s_impl_Leaper_steps_e {ρ : Type} (g fuel : Nat) (p0_0 : Int) (p0_1 : Int) (Kk : Out → Option ρ) : runFn TT E_impl_Leaper_steps (kp_impl_Leaper_steps g) fuel [.val] 1 true [[]] 45 [.tmp 2] b_impl_Leaper_steps [.agg [.int .i64 p0_0, .int .i64 p0_1]] Kk = S_impl_Leaper_steps_e p0_0 p0_1  (fun v3 v4 c4096_0 c4096_1 => D_impl_Leaper_steps_0 g fuel p0_0 p0_1 fuel v3 v4 c4096_0 c4096_1 Kk) := by
  kernel_rfl
def S_impl_Leaper_steps_0 {ρ : Type}  (v3 : List (List Int)) (v4 : Int) (c4096_0 : Int) (c4096_1 : Int) (k1 : (List (List Int) → Int → Int → Int → Int → Option ρ)) (K : List (List Int) → Option ρ) : Option ρ :=
  (bif decide (v4 ≤ (5 : Int)) then k1 v3 v4 (-5 : Int) c4096_0 c4096_1 else K v3)
theorem s_impl_Leaper_steps_0 {ρ : Type} (g fuel : Nat) (p0_0 : Int) (p0_1 : Int) (n : Nat) (v3 : List (List Int)) (v4 : Int) (c4096_0 : Int) (c4096_1 : Int) (Kk : Out → Option ρ) : D_impl_Leaper_steps_0 g fuel p0_0 p0_1  (n + 1) v3 v4 c4096_0 c4096_1 Kk = S_impl_Leaper_steps_0  v3 v4 c4096_0 c4096_1 (fun v3 v4 v5 c4096_0 c4096_1 => D_impl_Leaper_steps_1 g fuel p0_0 p0_1 n fuel v3 v4 v5 c4096_0 c4096_1 Kk) (fun r1 => Kk ⟨[.x (.rs (.rows r1))], []⟩) := by
  kernel_rfl
def S_impl_Leaper_steps_1 {ρ : Type}  (v3 : List (List Int)) (v4 : Int) (v5 : Int) (c4096_0 : Int) (c4096_1 : Int) (k2 : (List (List Int) → Int → Int → Int → Int → Option ρ)) (b0 : (List (List Int) → Int → Int → Int → Option ρ)) : Option ρ :=
  (bif decide (v5 ≤ (5 : Int)) then (bif decide ((if (if (IntKind.i64.wrap (0 - v5)) > v5 then (IntKind.i64.wrap (0 - v5)) else v5) < (if (IntKind.i64.wrap (0 - v4)) > v4 then (IntKind.i64.wrap (0 - v4)) else v4) then (if (IntKind.i64.wrap (0 - v5)) > v5 then (IntKind.i64.wrap (0 - v5)) else v5) else (if (IntKind.i64.wrap (0 - v4)) > v4 then (IntKind.i64.wrap (0 - v4)) else v4)) = c4096_0) then (bif decide ((if (if (IntKind.i64.wrap (0 - v5)) > v5 then (IntKind.i64.wrap (0 - v5)) else v5) > (if (IntKind.i64.wrap (0 - v4)) > v4 then (IntKind.i64.wrap (0 - v4)) else v4) then (if (IntKind.i64.wrap (0 - v5)) > v5 then (IntKind.i64.wrap (0 - v5)) else v5) else (if (IntKind.i64.wrap (0 - v4)) > v4 then (IntKind.i64.wrap (0 - v4)) else v4)) = c4096_1) then (if (v3 ++ ([[v4, v5]])).length ≤ 1099511627776 then k2 (v3 ++ ([[v4, v5]])) v4 v5 c4096_0 c4096_1 else none) else k2 v3 v4 v5 c4096_0 c4096_1) else k2 v3 v4 v5 c4096_0 c4096_1) else b0 v3 (IntKind.i64.wrap (v4 + (1 : Int))) c4096_0 c4096_1)
theorem s_impl_Leaper_steps_1 {ρ : Type} (g fuel : Nat) (p0_0 : Int) (p0_1 : Int) (n0 : Nat) (n : Nat) (v3 : List (List Int)) (v4 : Int) (v5 : Int) (c4096_0 : Int) (c4096_1 : Int) (Kk : Out → Option ρ) : D_impl_Leaper_steps_1 g fuel p0_0 p0_1 n0 (n + 1) v3 v4 v5 c4096_0 c4096_1 Kk = S_impl_Leaper_steps_1  v3 v4 v5 c4096_0 c4096_1 (fun v3 v4 v5 c4096_0 c4096_1 => D_impl_Leaper_steps_2 g fuel p0_0 p0_1 n0 n v3 v4 v5 c4096_0 c4096_1 Kk) (fun v3 v4 c4096_0 c4096_1 => D_impl_Leaper_steps_0 g fuel p0_0 p0_1 n0 v3 v4 c4096_0 c4096_1 Kk) := by
  kernel_rfl
def S_impl_Leaper_steps_2 {ρ : Type}  (v3 : List (List Int)) (v4 : Int) (v5 : Int) (c4096_0 : Int) (c4096_1 : Int) (b1 : (List (List Int) → Int → Int → Int → Int → Option ρ)) : Option ρ :=
  b1 v3 v4 (IntKind.i64.wrap (v5 + (1 : Int))) c4096_0 c4096_1
theorem s_impl_Leaper_steps_2 {ρ : Type} (g fuel : Nat) (p0_0 : Int) (p0_1 : Int) (n0 : Nat) (n1 : Nat) (v3 : List (List Int)) (v4 : Int) (v5 : Int) (c4096_0 : Int) (c4096_1 : Int) (Kk : Out → Option ρ) : B_impl_Leaper_steps_2 g fuel p0_0 p0_1 n0 n1 v3 v4 v5 c4096_0 c4096_1 Kk = S_impl_Leaper_steps_2  v3 v4 v5 c4096_0 c4096_1 (fun v3 v4 v5 c4096_0 c4096_1 => D_impl_Leaper_steps_1 g fuel p0_0 p0_1 n0 n1 v3 v4 v5 c4096_0 c4096_1 Kk) := by
  kernel_rfl
def F_impl_Leaper_steps_2 {ρ : Type} (fuel : Nat)  (b1 : (List (List Int) → Int → Int → Int → Int → Option ρ)) (K : List (List Int) → Option ρ) (v3 : List (List Int)) (v4 : Int) (v5 : Int) (c4096_0 : Int) (c4096_1 : Int) : Option ρ := S_impl_Leaper_steps_2  v3 v4 v5 c4096_0 c4096_1 b1
theorem f_impl_Leaper_steps_2 {ρ : Type} (fuel : Nat) (p0_0 : Int) (p0_1 : Int) (n0 : Nat) (n1 : Nat) (v3 : List (List Int)) (v4 : Int) (v5 : Int) (c4096_0 : Int) (c4096_1 : Int) (Kk : Out → Option ρ) : D_impl_Leaper_steps_2 1 fuel p0_0 p0_1 n0 n1 v3 v4 v5 c4096_0 c4096_1 Kk = F_impl_Leaper_steps_2 fuel  (fun v3 v4 v5 c4096_0 c4096_1 => D_impl_Leaper_steps_1 1 fuel p0_0 p0_1 n0 n1 v3 v4 v5 c4096_0 c4096_1 Kk) (fun r1 => Kk ⟨[.x (.rs (.rows r1))], []⟩) v3 v4 v5 c4096_0 c4096_1 := by
  rw [D_impl_Leaper_steps_2, gate_one, s_impl_Leaper_steps_2, F_impl_Leaper_steps_2]
def F_impl_Leaper_steps_1 {ρ : Type} (fuel : Nat)  (b0 : (List (List Int) → Int → Int → Int → Option ρ)) (K : List (List Int) → Option ρ) : Nat → List (List Int) → Int → Int → Int → Int → Option ρ
  | 0, _, _, _, _, _ => none
  | n + 1, v3, v4, v5, c4096_0, c4096_1 => S_impl_Leaper_steps_1  v3 v4 v5 c4096_0 c4096_1 (F_impl_Leaper_steps_2 fuel  (F_impl_Leaper_steps_1 fuel  b0 K n) K) b0
theorem f_impl_Leaper_steps_1 {ρ : Type} (fuel : Nat) (p0_0 : Int) (p0_1 : Int) (n0 : Nat) (Kk : Out → Option ρ) : ∀ (n : Nat) (v3 : List (List Int)) (v4 : Int) (v5 : Int) (c4096_0 : Int) (c4096_1 : Int), D_impl_Leaper_steps_1 1 fuel p0_0 p0_1 n0 n v3 v4 v5 c4096_0 c4096_1 Kk = F_impl_Leaper_steps_1 fuel  (fun v3 v4 c4096_0 c4096_1 => D_impl_Leaper_steps_0 1 fuel p0_0 p0_1 n0 v3 v4 c4096_0 c4096_1 Kk) (fun r1 => Kk ⟨[.x (.rs (.rows r1))], []⟩) n v3 v4 v5 c4096_0 c4096_1 := by
  intro n
  induction n with
  | zero => intros; rfl
  | succ n ih =>
    intro v3 v4 v5 c4096_0 c4096_1
    rw [s_impl_Leaper_steps_1, F_impl_Leaper_steps_1]
    try simp only [ih, f_impl_Leaper_steps_2]
def F_impl_Leaper_steps_0 {ρ : Type} (fuel : Nat)   (K : List (List Int) → Option ρ) : Nat → List (List Int) → Int → Int → Int → Option ρ
  | 0, _, _, _, _ => none
  | n + 1, v3, v4, c4096_0, c4096_1 => S_impl_Leaper_steps_0  v3 v4 c4096_0 c4096_1 (F_impl_Leaper_steps_1 fuel  (F_impl_Leaper_steps_0 fuel   K n) K fuel) K
theorem f_impl_Leaper_steps_0 {ρ : Type} (fuel : Nat) (p0_0 : Int) (p0_1 : Int) (Kk : Out → Option ρ) : ∀ (n : Nat) (v3 : List (List Int)) (v4 : Int) (c4096_0 : Int) (c4096_1 : Int), D_impl_Leaper_steps_0 1 fuel p0_0 p0_1  n v3 v4 c4096_0 c4096_1 Kk = F_impl_Leaper_steps_0 fuel   (fun r1 => Kk ⟨[.x (.rs (.rows r1))], []⟩) n v3 v4 c4096_0 c4096_1 := by
  intro n
  induction n with
  | zero => intros; rfl
  | succ n ih =>
    intro v3 v4 c4096_0 c4096_1
    rw [s_impl_Leaper_steps_0, F_impl_Leaper_steps_0]
    try simp only [ih, f_impl_Leaper_steps_2, f_impl_Leaper_steps_1]
def F_impl_Leaper_steps {ρ : Type} (fuel : Nat) (p0_0 : Int) (p0_1 : Int)  (K : List (List Int) → Option ρ) : Option ρ := S_impl_Leaper_steps_e p0_0 p0_1  (F_impl_Leaper_steps_0 fuel   K fuel)
theorem f_impl_Leaper_steps {ρ : Type} (fuel : Nat) (p0_0 : Int) (p0_1 : Int) (Kk : Out → Option ρ) : runFn TT E_impl_Leaper_steps (kp_impl_Leaper_steps 1) fuel [.val] 1 true [[]] 45 [.tmp 2] b_impl_Leaper_steps [.agg [.int .i64 p0_0, .int .i64 p0_1]] Kk = F_impl_Leaper_steps fuel p0_0 p0_1 (fun r1 => Kk ⟨[.x (.rs (.rows r1))], []⟩) := by
  rw [s_impl_Leaper_steps_e, F_impl_Leaper_steps]
  try simp only [f_impl_Leaper_steps_2, f_impl_Leaper_steps_1, f_impl_Leaper_steps_0]
noncomputable def sh_impl_Leaper_steps (p0_0 : Int) (p0_1 : Int) : Option (List (List Int)) := val fun n => F_impl_Leaper_steps n p0_0 p0_1 (fun r1 => some r1)
noncomputable def G_impl_Leaper_steps {ρ : Type} : List DU → (Out → Option ρ) → Option ρ
  | [.agg [.int .i64 p0_0, .int .i64 p0_1]], K => (sh_impl_Leaper_steps p0_0 p0_1).bind fun r => K ⟨[.x (.rs (.rows r))], []⟩
  | _, _ => none
noncomputable def o_impl_Leaper_steps : Ora := ⟨[.val], 1, true, G_impl_Leaper_steps⟩
def un_impl_Leaper_steps : Out → Option (List (List Int))
  | ⟨[.x (.rs (.rows r1))], []⟩ => some r1
  | _ => none
theorem un_impl_Leaper_steps_ok {o : Out} {r : List (List Int)} (h : un_impl_Leaper_steps o = some r) : o = ⟨[.x (.rs (.rows r))], []⟩ := by
  unfold un_impl_Leaper_steps at h
  split at h
  · injection h with h
    subst h
    rfl
  · cases h
theorem n_impl_Leaper_steps : ∀ k o, E_impl_Leaper_steps.fn k = some o → Nat1 o := fun k o h => (ook_list (P := Try.prog) (l := O_impl_Leaper_steps) (fk := E_impl_Leaper_steps.fk) (List.forall_mem_nil _)).nat k o h
theorem u_impl_Leaper_steps (fuel : Nat) (p0_0 : Int) (p0_1 : Int) : runFn TT E_impl_Leaper_steps (kp_impl_Leaper_steps 1) fuel [.val] 1 true [[]] 45 [.tmp 2] b_impl_Leaper_steps [.agg [.int .i64 p0_0, .int .i64 p0_1]] un_impl_Leaper_steps = F_impl_Leaper_steps fuel p0_0 p0_1 (fun r1 => some r1) := f_impl_Leaper_steps fuel p0_0 p0_1 un_impl_Leaper_steps
theorem sh_impl_Leaper_steps_of {n : Nat} {p0_0 : Int} {p0_1 : Int} {r : List (List Int)} (h : F_impl_Leaper_steps n p0_0 p0_1 (fun r1 => some r1) = some r) : sh_impl_Leaper_steps p0_0 p0_1 = some r := val_of (fun n m r hm h => by rw [← u_impl_Leaper_steps] at h ⊢; exact runFn_mono n_impl_Leaper_steps hm h) h
theorem m_impl_Leaper_steps : MeetsO Try.prog 88 o_impl_Leaper_steps := by
  refine ⟨fun ρ ds K => ?_, ⟨_, meets_run (kp := kp_impl_Leaper_steps 1) (weak := true) (df := [[]]) tsOk (ook_list (l := O_impl_Leaper_steps) (fk := E_impl_Leaper_steps.fk) (List.forall_mem_nil _)) mixed Try.func88 (body := b_impl_Leaper_steps) (by kernel_rfl) (ntmps := 45) (by kernel_rfl) (rs := [.tmp 2]) (by kernel_rfl), fun ds out h => ?_⟩, ⟨_, Try.func88, by kernel_rfl, by kernel_rfl⟩⟩
  · show G_impl_Leaper_steps ds K = (G_impl_Leaper_steps ds some).bind K
    unfold G_impl_Leaper_steps
    split
    · cases sh_impl_Leaper_steps _ _ <;> rfl
    · rfl
  · replace h : G_impl_Leaper_steps ds some = some out := h
    unfold G_impl_Leaper_steps at h
    split at h
    · obtain ⟨r, hr, h⟩ := Option.bind_eq_some_iff.1 h
      injection h with h
      subst h
      obtain ⟨n, hn⟩ := val_some hr
      replace hn := (u_impl_Leaper_steps n _ _).trans hn
      rw [runFn_bind (K := un_impl_Leaper_steps) (K' := some) (f := un_impl_Leaper_steps) n_impl_Leaper_steps (fun _ => rfl)] at hn
      obtain ⟨o, h1, h2⟩ := Option.bind_eq_some_iff.1 hn
      rw [un_impl_Leaper_steps_ok h2] at h1
      exact ⟨n, h1⟩
    · cases h
/-! f89 slices.Sort[[]int,int] -/
noncomputable def sh_slices_Sort_int_int (p0 : List Int) : Option (List Int) := sortS p0
noncomputable def o_slices_Sort_int_int : Ora := sortO
theorem m_slices_Sort_int_int : MeetsO Try.prog 89 o_slices_Sort_int_int := sort_meets Try.func89 (by kernel_rfl) (by kernel_rfl) (fun b off c zs w h1 h2 h3 => Try.slices_Sort_int b off c zs w h1 h2 h3) Try.slices_Sort_int_none
end
end Go.Proofs.Ytdodbbhpdoiicaa

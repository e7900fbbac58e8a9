/-
  The walks: what each function of the law answers is what the plain function beside it answers.
-/
import Derived.Test.YtafdeomdhkmjmaaC4
import Derived.KernelRfl
import Derived.Test.YtafdeomdhkmjmaaProg
set_option linter.unusedVariables false
set_option linter.unusedSimpArgs false
namespace Go.Proofs.Ytafdeomdhkmjmaa
open Go.BV
noncomputable section
theorem tok3 : TOk Try.prog 3 ⟨.int .i64, 1, [.int .i64 0]⟩ := tok_mk (z := .int .i64 0) (by kernel_rfl) (by kernel_rfl) (fun _ _ => ⟨rfl, trivial⟩) (show Try.prog.underlying 3 = some (.int .i64) by kernel_rfl)
theorem tok22 : TOk Try.prog 22 ⟨.slice (.ints .i64 []), 1, [.nil (.ints .i64 [])]⟩ := tok_mk (z := .slice none 0 0) (by kernel_rfl) (by kernel_rfl) (fun _ _ => ⟨⟨rfl, rfl⟩, trivial⟩) (desc_slice (e := 3) (c := .ints .i64 []) (d := .int .i64) (ze := .int .i64 0) (b := 8) (by kernel_rfl) (show Try.prog.underlying 3 = some (.int .i64) by kernel_rfl) (by kernel_rfl) rfl (by kernel_rfl) (by kernel_rfl) (by decide) (by kernel_rfl) rfl (.inl rfl) zero_ints)
theorem tok24 : TOk Try.prog 24 ⟨.struct [(0, 1, false), (1, 1, false), (2, 1, false)], 3, [.int .i64 0, .int .i64 0, .nil (.ints .i64 [])]⟩ := tok_mk (z := .agg #[.int .i64 0, .int .i64 0, .slice none 0 0]) (by kernel_rfl) (by kernel_rfl) (fun _ _ => ⟨rfl, rfl, ⟨rfl, rfl⟩, trivial⟩) (desc_struct Try.underlying24 ⟨rfl, by kernel_rfl, rfl, ⟨_, Try.underlying3, rfl⟩, ⟨rfl, by kernel_rfl, rfl, ⟨_, Try.underlying3, rfl⟩, ⟨rfl, by kernel_rfl, rfl, ⟨_, Try.underlying22, rfl⟩, trivial⟩⟩⟩)
theorem tok26 : TOk Try.prog 26 ⟨.struct [(0, 1, false), (1, 1, false)], 2, [.int .i64 0, .int .i64 0]⟩ := tok_mk (z := .agg #[.int .i64 0, .int .i64 0]) (by kernel_rfl) (by kernel_rfl) (fun _ _ => ⟨rfl, rfl, trivial⟩) (desc_struct Try.underlying26 ⟨rfl, by kernel_rfl, rfl, ⟨_, Try.underlying3, rfl⟩, ⟨rfl, by kernel_rfl, rfl, ⟨_, Try.underlying3, rfl⟩, trivial⟩⟩)
theorem tok28 : TOk Try.prog 28 ⟨.struct [(0, 3, true), (3, 2, true), (5, 1, false)], 6, [.int .i64 0, .int .i64 0, .nil (.ints .i64 []), .int .i64 0, .int .i64 0, .nil (.ints .i64 [])]⟩ := tok_mk (z := .agg #[.int .i64 0, .int .i64 0, .slice none 0 0, .int .i64 0, .int .i64 0, .slice none 0 0]) (by kernel_rfl) (by kernel_rfl) (fun _ _ => ⟨rfl, rfl, ⟨rfl, rfl⟩, rfl, rfl, ⟨rfl, rfl⟩, trivial⟩) (desc_struct Try.underlying28 ⟨rfl, by kernel_rfl, rfl, ⟨_, Try.underlying24, rfl⟩, ⟨rfl, by kernel_rfl, rfl, ⟨_, Try.underlying26, rfl⟩, ⟨rfl, by kernel_rfl, rfl, ⟨_, Try.underlying22, rfl⟩, trivial⟩⟩⟩)
def TTl : List (TypeId × TI) := [(3, ⟨.int .i64, 1, [.int .i64 0]⟩), (22, ⟨.slice (.ints .i64 []), 1, [.nil (.ints .i64 [])]⟩), (24, ⟨.struct [(0, 1, false), (1, 1, false), (2, 1, false)], 3, [.int .i64 0, .int .i64 0, .nil (.ints .i64 [])]⟩), (26, ⟨.struct [(0, 1, false), (1, 1, false)], 2, [.int .i64 0, .int .i64 0]⟩), (28, ⟨.struct [(0, 3, true), (3, 2, true), (5, 1, false)], 6, [.int .i64 0, .int .i64 0, .nil (.ints .i64 []), .int .i64 0, .int .i64 0, .nil (.ints .i64 [])]⟩)]
def TT : TypeId → TI := tlk TTl
theorem tsOk : TsOk Try.prog TT := tsok_list (l := TTl) (List.forall_mem_cons.2 ⟨⟨by simp, tok3⟩, (List.forall_mem_cons.2 ⟨⟨by simp, tok22⟩, (List.forall_mem_cons.2 ⟨⟨by simp, tok24⟩, (List.forall_mem_cons.2 ⟨⟨by simp, tok26⟩, (List.forall_mem_cons.2 ⟨⟨by simp, tok28⟩, (List.forall_mem_nil _)⟩)⟩)⟩)⟩)⟩)
theorem mixed : Try.prog.follows .mixedOrders = true := by kernel_rfl
/-! f13 loop.example.g01239.spec.FirstDesk -/
noncomputable def b_spec_FirstDesk : Code := Try.f13.body.getD .skip
def kp_spec_FirstDesk : Nat → Option Keep := lk []
def O_spec_FirstDesk : List (FuncId × Ora) := []
def E_spec_FirstDesk : Env := ⟨lk O_spec_FirstDesk, fun _ => false⟩
def S_spec_FirstDesk_e {ρ : Type}    (K : Int → Int → List Int → Int → Int → List Int → Option ρ) : Option ρ :=
  K (4 : Int) (3 : Int) [] (1 : Int) (2 : Int) []
theorem s_spec_FirstDesk_e {ρ : Type} (fuel : Nat)  (Kk : Out → Option ρ) : runFn TT E_spec_FirstDesk kp_spec_FirstDesk fuel [] 0 false [[]] 4 [.cell 0 28] b_spec_FirstDesk [] Kk = S_spec_FirstDesk_e    (fun r1 r2 r3 r4 r5 r6 => Kk ⟨[.agg [.int .i64 r1, .int .i64 r2, .sl (.ints .i64 r3), .int .i64 r4, .int .i64 r5, .sl (.ints .i64 r6)]], []⟩) := by
  kernel_rfl
def F_spec_FirstDesk {ρ : Type} (fuel : Nat)   (K : Int → Int → List Int → Int → Int → List Int → Option ρ) : Option ρ := S_spec_FirstDesk_e    K
theorem f_spec_FirstDesk {ρ : Type} (fuel : Nat)  (Kk : Out → Option ρ) : runFn TT E_spec_FirstDesk kp_spec_FirstDesk fuel [] 0 false [[]] 4 [.cell 0 28] b_spec_FirstDesk [] Kk = F_spec_FirstDesk fuel  (fun r1 r2 r3 r4 r5 r6 => Kk ⟨[.agg [.int .i64 r1, .int .i64 r2, .sl (.ints .i64 r3), .int .i64 r4, .int .i64 r5, .sl (.ints .i64 r6)]], []⟩) := by
  rw [s_spec_FirstDesk_e, F_spec_FirstDesk]
noncomputable def sh_spec_FirstDesk  : Option (Int × Int × List Int × Int × Int × List Int) := F_spec_FirstDesk 0  (fun r1 r2 r3 r4 r5 r6 => some (r1, r2, r3, r4, r5, r6))
noncomputable def G_spec_FirstDesk {ρ : Type} : List DU → (Out → Option ρ) → Option ρ
  | [], K => (sh_spec_FirstDesk ).bind fun r => K ⟨[.agg [.int .i64 r.1, .int .i64 r.2.1, .sl (.ints .i64 r.2.2.1), .int .i64 r.2.2.2.1, .int .i64 r.2.2.2.2.1, .sl (.ints .i64 r.2.2.2.2.2)]], []⟩
  | _, _ => none
noncomputable def o_spec_FirstDesk : Ora := ⟨[], 0, false, G_spec_FirstDesk⟩
def un_spec_FirstDesk : Out → Option (Int × Int × List Int × Int × Int × List Int)
  | ⟨[.agg [.int .i64 r1, .int .i64 r2, .sl (.ints .i64 r3), .int .i64 r4, .int .i64 r5, .sl (.ints .i64 r6)]], []⟩ => some (r1, r2, r3, r4, r5, r6)
  | _ => none
theorem un_spec_FirstDesk_ok {o : Out} {r : Int × Int × List Int × Int × Int × List Int} (h : un_spec_FirstDesk o = some r) : o = ⟨[.agg [.int .i64 r.1, .int .i64 r.2.1, .sl (.ints .i64 r.2.2.1), .int .i64 r.2.2.2.1, .int .i64 r.2.2.2.2.1, .sl (.ints .i64 r.2.2.2.2.2)]], []⟩ := by
  unfold un_spec_FirstDesk at h
  split at h
  · injection h with h
    subst h
    rfl
  · cases h
theorem n_spec_FirstDesk : ∀ k o, E_spec_FirstDesk.fn k = some o → Nat1 o := fun k o h => (ook_list (P := Try.prog) (l := O_spec_FirstDesk) (fk := E_spec_FirstDesk.fk) (List.forall_mem_nil _)).nat k o h
theorem u_spec_FirstDesk (fuel : Nat)  : runFn TT E_spec_FirstDesk kp_spec_FirstDesk fuel [] 0 false [[]] 4 [.cell 0 28] b_spec_FirstDesk [] un_spec_FirstDesk = F_spec_FirstDesk fuel  (fun r1 r2 r3 r4 r5 r6 => some (r1, r2, r3, r4, r5, r6)) := f_spec_FirstDesk fuel  un_spec_FirstDesk
theorem m_spec_FirstDesk : MeetsO Try.prog 13 o_spec_FirstDesk := by
  refine ⟨fun ρ ds K => ?_, ⟨_, meets_run (kp := kp_spec_FirstDesk) (weak := false) (df := [[]]) tsOk (ook_list (l := O_spec_FirstDesk) (fk := E_spec_FirstDesk.fk) (List.forall_mem_nil _)) mixed Try.func13 (body := b_spec_FirstDesk) (by kernel_rfl) (ntmps := 4) (by kernel_rfl) (rs := [.cell 0 28]) (by kernel_rfl), fun ds out h => ?_⟩, ⟨_, Try.func13, by kernel_rfl, by kernel_rfl⟩⟩
  · show G_spec_FirstDesk ds K = (G_spec_FirstDesk ds some).bind K
    unfold G_spec_FirstDesk
    split
    · cases sh_spec_FirstDesk  <;> rfl
    · rfl
  · replace h : G_spec_FirstDesk ds some = some out := h
    unfold G_spec_FirstDesk at h
    split at h
    · obtain ⟨r, hr, h⟩ := Option.bind_eq_some_iff.1 h
      injection h with h
      subst h
      have hn := (u_spec_FirstDesk 0 ).trans hr
      rw [runFn_bind (K := un_spec_FirstDesk) (K' := some) (f := un_spec_FirstDesk) n_spec_FirstDesk (fun _ => rfl)] at hn
      obtain ⟨o, h1, h2⟩ := Option.bind_eq_some_iff.1 hn
      rw [un_spec_FirstDesk_ok h2] at h1
      exact ⟨0, h1⟩
    · cases h
/-! f14 loop.example.g01239.impl.FirstDesk -/
noncomputable def b_impl_FirstDesk : Code := Try.f14.body.getD .skip
def kp_impl_FirstDesk : Nat → Option Keep := lk []
def O_impl_FirstDesk : List (FuncId × Ora) := []
def E_impl_FirstDesk : Env := ⟨lk O_impl_FirstDesk, fun _ => false⟩
def S_impl_FirstDesk_e {ρ : Type}    (K : Int → Int → List Int → Int → Int → List Int → Option ρ) : Option ρ :=
  K (4 : Int) (3 : Int) [] (1 : Int) (2 : Int) []
theorem s_impl_FirstDesk_e {ρ : Type} (fuel : Nat)  (Kk : Out → Option ρ) : runFn TT E_impl_FirstDesk kp_impl_FirstDesk fuel [] 0 false [[]] 4 [.cell 0 28] b_impl_FirstDesk [] Kk = S_impl_FirstDesk_e    (fun r1 r2 r3 r4 r5 r6 => Kk ⟨[.agg [.int .i64 r1, .int .i64 r2, .sl (.ints .i64 r3), .int .i64 r4, .int .i64 r5, .sl (.ints .i64 r6)]], []⟩) := by
  kernel_rfl
def F_impl_FirstDesk {ρ : Type} (fuel : Nat)   (K : Int → Int → List Int → Int → Int → List Int → Option ρ) : Option ρ := S_impl_FirstDesk_e    K
theorem f_impl_FirstDesk {ρ : Type} (fuel : Nat)  (Kk : Out → Option ρ) : runFn TT E_impl_FirstDesk kp_impl_FirstDesk fuel [] 0 false [[]] 4 [.cell 0 28] b_impl_FirstDesk [] Kk = F_impl_FirstDesk fuel  (fun r1 r2 r3 r4 r5 r6 => Kk ⟨[.agg [.int .i64 r1, .int .i64 r2, .sl (.ints .i64 r3), .int .i64 r4, .int .i64 r5, .sl (.ints .i64 r6)]], []⟩) := by
  rw [s_impl_FirstDesk_e, F_impl_FirstDesk]
noncomputable def sh_impl_FirstDesk  : Option (Int × Int × List Int × Int × Int × List Int) := F_impl_FirstDesk 0  (fun r1 r2 r3 r4 r5 r6 => some (r1, r2, r3, r4, r5, r6))
noncomputable def G_impl_FirstDesk {ρ : Type} : List DU → (Out → Option ρ) → Option ρ
  | [], K => (sh_impl_FirstDesk ).bind fun r => K ⟨[.agg [.int .i64 r.1, .int .i64 r.2.1, .sl (.ints .i64 r.2.2.1), .int .i64 r.2.2.2.1, .int .i64 r.2.2.2.2.1, .sl (.ints .i64 r.2.2.2.2.2)]], []⟩
  | _, _ => none
noncomputable def o_impl_FirstDesk : Ora := ⟨[], 0, false, G_impl_FirstDesk⟩
def un_impl_FirstDesk : Out → Option (Int × Int × List Int × Int × Int × List Int)
  | ⟨[.agg [.int .i64 r1, .int .i64 r2, .sl (.ints .i64 r3), .int .i64 r4, .int .i64 r5, .sl (.ints .i64 r6)]], []⟩ => some (r1, r2, r3, r4, r5, r6)
  | _ => none
theorem un_impl_FirstDesk_ok {o : Out} {r : Int × Int × List Int × Int × Int × List Int} (h : un_impl_FirstDesk o = some r) : o = ⟨[.agg [.int .i64 r.1, .int .i64 r.2.1, .sl (.ints .i64 r.2.2.1), .int .i64 r.2.2.2.1, .int .i64 r.2.2.2.2.1, .sl (.ints .i64 r.2.2.2.2.2)]], []⟩ := by
  unfold un_impl_FirstDesk at h
  split at h
  · injection h with h
    subst h
    rfl
  · cases h
theorem n_impl_FirstDesk : ∀ k o, E_impl_FirstDesk.fn k = some o → Nat1 o := fun k o h => (ook_list (P := Try.prog) (l := O_impl_FirstDesk) (fk := E_impl_FirstDesk.fk) (List.forall_mem_nil _)).nat k o h
theorem u_impl_FirstDesk (fuel : Nat)  : runFn TT E_impl_FirstDesk kp_impl_FirstDesk fuel [] 0 false [[]] 4 [.cell 0 28] b_impl_FirstDesk [] un_impl_FirstDesk = F_impl_FirstDesk fuel  (fun r1 r2 r3 r4 r5 r6 => some (r1, r2, r3, r4, r5, r6)) := f_impl_FirstDesk fuel  un_impl_FirstDesk
theorem m_impl_FirstDesk : MeetsO Try.prog 14 o_impl_FirstDesk := by
  refine ⟨fun ρ ds K => ?_, ⟨_, meets_run (kp := kp_impl_FirstDesk) (weak := false) (df := [[]]) tsOk (ook_list (l := O_impl_FirstDesk) (fk := E_impl_FirstDesk.fk) (List.forall_mem_nil _)) mixed Try.func14 (body := b_impl_FirstDesk) (by kernel_rfl) (ntmps := 4) (by kernel_rfl) (rs := [.cell 0 28]) (by kernel_rfl), fun ds out h => ?_⟩, ⟨_, Try.func14, by kernel_rfl, by kernel_rfl⟩⟩
  · show G_impl_FirstDesk ds K = (G_impl_FirstDesk ds some).bind K
    unfold G_impl_FirstDesk
    split
    · cases sh_impl_FirstDesk  <;> rfl
    · rfl
  · replace h : G_impl_FirstDesk ds some = some out := h
    unfold G_impl_FirstDesk at h
    split at h
    · obtain ⟨r, hr, h⟩ := Option.bind_eq_some_iff.1 h
      injection h with h
      subst h
      have hn := (u_impl_FirstDesk 0 ).trans hr
      rw [runFn_bind (K := un_impl_FirstDesk) (K' := some) (f := un_impl_FirstDesk) n_impl_FirstDesk (fun _ => rfl)] at hn
      obtain ⟨o, h1, h2⟩ := Option.bind_eq_some_iff.1 hn
      rw [un_impl_FirstDesk_ok h2] at h1
      exact ⟨0, h1⟩
    · cases h
/-! f42 loop.example.g01239.laws.eqIntS -/
noncomputable def b_laws_eqIntS : Code := Try.f42.body.getD .skip
def kp_laws_eqIntS : Nat → Option Keep := lk [(4, ⟨[], [0, 1, 5], [], [], []⟩)]
def O_laws_eqIntS : List (FuncId × Ora) := []
def E_laws_eqIntS : Env := ⟨lk O_laws_eqIntS, fun _ => false⟩
noncomputable def D_laws_eqIntS_0 {ρ : Type} (fuel : Nat) (p0 : List Int) (p1 : List Int) (n : Nat) (v0 : List Int) (v1 : List Int) (v5 : Int) (Kk : Out → Option ρ) : Option ρ :=
  iter (run TT E_laws_eqIntS kp_laws_eqIntS fuel (cL (cB (cS2 (cS1 (cS2 (cS2 (b_laws_eqIntS)))))))) (nrmAt kp_laws_eqIntS (firstRid (cL (cB (cS2 (cS1 (cS2 (cS2 (b_laws_eqIntS))))))))) n (⟨[.u (.x (.ro (.ints .i64 v0))), .u (.x (.ro (.ints .i64 v1))), uu, uu, uu, .u (.x (.int .i64 v5)), uu, uu, uu, uu, uu, uu, uu, uu, uu, uu, uu, uu, uu, uu, uu, uu, uu, uu, uu, uu], [], [], []⟩) (blkK 0 (seqK (run TT E_laws_eqIntS kp_laws_eqIntS fuel (cS2 (cS2 (cS2 (b_laws_eqIntS))))) (nrmAt kp_laws_eqIntS (200000 + firstRid (cS2 (cS2 (cS2 (b_laws_eqIntS)))))) (topK TT [.val, .val] false [[]] [.tmp 4] [.x (.sl (.ints .i64 p0)), .x (.sl (.ints .i64 p1))] Kk)))
def S_laws_eqIntS_e {ρ : Type} (p0 : List Int) (p1 : List Int)  (k0 : (List Int → List Int → Int → Option ρ)) (K : Bool → Option ρ) : Option ρ :=
  (bif !decide ((p0.length : Int) = (p1.length : Int)) then K false else k0 p0 p1 (0 : Int))
theorem s_laws_eqIntS_e {ρ : Type} (fuel : Nat) (p0 : List Int) (p1 : List Int) (Kk : Out → Option ρ) : runFn TT E_laws_eqIntS kp_laws_eqIntS fuel [.val, .val] 2 false [[]] 26 [.tmp 4] b_laws_eqIntS [.x (.sl (.ints .i64 p0)), .x (.sl (.ints .i64 p1))] Kk = S_laws_eqIntS_e p0 p1  (fun v0 v1 v5 => D_laws_eqIntS_0 fuel p0 p1 fuel v0 v1 v5 Kk) (fun r1 => Kk ⟨[.x (.bool r1)], []⟩) := by
  kernel_rfl
def S_laws_eqIntS_0 {ρ : Type}  (v0 : List Int) (v1 : List Int) (v5 : Int) (b0 : (List Int → List Int → Int → Option ρ)) (K : Bool → Option ρ) : Option ρ :=
  (bif decide (v5 < (v0.length : Int)) then (if 0 ≤ v5 then (if v5 < (v0.length : Int) then (if 0 ≤ v5 then (if v5 < (v1.length : Int) then (bif !decide ((v0.getD v5.toNat 0) = (v1.getD v5.toNat 0)) then K false else b0 v0 v1 (IntKind.i64.wrap (v5 + (1 : Int)))) else none) else none) else none) else none) else K true)
theorem s_laws_eqIntS_0 {ρ : Type} (fuel : Nat) (p0 : List Int) (p1 : List Int) (n : Nat) (v0 : List Int) (v1 : List Int) (v5 : Int) (Kk : Out → Option ρ) : D_laws_eqIntS_0 fuel p0 p1  (n + 1) v0 v1 v5 Kk = S_laws_eqIntS_0  v0 v1 v5 (fun v0 v1 v5 => D_laws_eqIntS_0 fuel p0 p1 n v0 v1 v5 Kk) (fun r1 => Kk ⟨[.x (.bool r1)], []⟩) := by
  kernel_rfl
def F_laws_eqIntS_0 {ρ : Type} (fuel : Nat)   (K : Bool → Option ρ) : Nat → List Int → List Int → Int → Option ρ
  | 0, _, _, _ => none
  | n + 1, v0, v1, v5 => S_laws_eqIntS_0  v0 v1 v5 (F_laws_eqIntS_0 fuel   K n) K
theorem f_laws_eqIntS_0 {ρ : Type} (fuel : Nat) (p0 : List Int) (p1 : List Int) (Kk : Out → Option ρ) : ∀ (n : Nat) (v0 : List Int) (v1 : List Int) (v5 : Int), D_laws_eqIntS_0 fuel p0 p1  n v0 v1 v5 Kk = F_laws_eqIntS_0 fuel   (fun r1 => Kk ⟨[.x (.bool r1)], []⟩) n v0 v1 v5 := by
  intro n
  induction n with
  | zero => intros; rfl
  | succ n ih =>
    intro v0 v1 v5
    rw [s_laws_eqIntS_0, F_laws_eqIntS_0]
    try simp only [ih]
def F_laws_eqIntS {ρ : Type} (fuel : Nat) (p0 : List Int) (p1 : List Int)  (K : Bool → Option ρ) : Option ρ := S_laws_eqIntS_e p0 p1  (F_laws_eqIntS_0 fuel   K fuel) K
theorem f_laws_eqIntS {ρ : Type} (fuel : Nat) (p0 : List Int) (p1 : List Int) (Kk : Out → Option ρ) : runFn TT E_laws_eqIntS kp_laws_eqIntS fuel [.val, .val] 2 false [[]] 26 [.tmp 4] b_laws_eqIntS [.x (.sl (.ints .i64 p0)), .x (.sl (.ints .i64 p1))] Kk = F_laws_eqIntS fuel p0 p1 (fun r1 => Kk ⟨[.x (.bool r1)], []⟩) := by
  rw [s_laws_eqIntS_e, F_laws_eqIntS]
  try simp only [f_laws_eqIntS_0]
noncomputable def sh_laws_eqIntS (p0 : List Int) (p1 : List Int) : Option (Bool) := val fun n => F_laws_eqIntS n p0 p1 (fun r1 => some r1)
noncomputable def G_laws_eqIntS {ρ : Type} : List DU → (Out → Option ρ) → Option ρ
  | [.x (.sl (.ints .i64 p0)), .x (.sl (.ints .i64 p1))], K => (sh_laws_eqIntS p0 p1).bind fun r => K ⟨[.x (.bool r)], []⟩
  | _, _ => none
noncomputable def o_laws_eqIntS : Ora := ⟨[.val, .val], 2, false, G_laws_eqIntS⟩
def un_laws_eqIntS : Out → Option (Bool)
  | ⟨[.x (.bool r1)], []⟩ => some r1
  | _ => none
theorem un_laws_eqIntS_ok {o : Out} {r : Bool} (h : un_laws_eqIntS o = some r) : o = ⟨[.x (.bool r)], []⟩ := by
  unfold un_laws_eqIntS at h
  split at h
  · injection h with h
    subst h
    rfl
  · cases h
theorem n_laws_eqIntS : ∀ k o, E_laws_eqIntS.fn k = some o → Nat1 o := fun k o h => (ook_list (P := Try.prog) (l := O_laws_eqIntS) (fk := E_laws_eqIntS.fk) (List.forall_mem_nil _)).nat k o h
theorem u_laws_eqIntS (fuel : Nat) (p0 : List Int) (p1 : List Int) : runFn TT E_laws_eqIntS kp_laws_eqIntS fuel [.val, .val] 2 false [[]] 26 [.tmp 4] b_laws_eqIntS [.x (.sl (.ints .i64 p0)), .x (.sl (.ints .i64 p1))] un_laws_eqIntS = F_laws_eqIntS fuel p0 p1 (fun r1 => some r1) := f_laws_eqIntS fuel p0 p1 un_laws_eqIntS
theorem sh_laws_eqIntS_of {n : Nat} {p0 : List Int} {p1 : List Int} {r : Bool} (h : F_laws_eqIntS n p0 p1 (fun r1 => some r1) = some r) : sh_laws_eqIntS p0 p1 = some r := val_of (fun n m r hm h => by rw [← u_laws_eqIntS] at h ⊢; exact runFn_mono n_laws_eqIntS hm h) h
theorem m_laws_eqIntS : MeetsO Try.prog 42 o_laws_eqIntS := by
  refine ⟨fun ρ ds K => ?_, ⟨_, meets_run (kp := kp_laws_eqIntS) (weak := false) (df := [[]]) tsOk (ook_list (l := O_laws_eqIntS) (fk := E_laws_eqIntS.fk) (List.forall_mem_nil _)) mixed Try.func42 (body := b_laws_eqIntS) (by kernel_rfl) (ntmps := 26) (by kernel_rfl) (rs := [.tmp 4]) (by kernel_rfl), fun ds out h => ?_⟩, ⟨_, Try.func42, by kernel_rfl, by kernel_rfl⟩⟩
  · show G_laws_eqIntS ds K = (G_laws_eqIntS ds some).bind K
    unfold G_laws_eqIntS
    split
    · cases sh_laws_eqIntS _ _ <;> rfl
    · rfl
  · replace h : G_laws_eqIntS ds some = some out := h
    unfold G_laws_eqIntS at h
    split at h
    · obtain ⟨r, hr, h⟩ := Option.bind_eq_some_iff.1 h
      injection h with h
      subst h
      obtain ⟨n, hn⟩ := val_some hr
      replace hn := (u_laws_eqIntS n _ _).trans hn
      rw [runFn_bind (K := un_laws_eqIntS) (K' := some) (f := un_laws_eqIntS) n_laws_eqIntS (fun _ => rfl)] at hn
      obtain ⟨o, h1, h2⟩ := Option.bind_eq_some_iff.1 hn
      rw [un_laws_eqIntS_ok h2] at h1
      exact ⟨n, h1⟩
    · cases h
/-! f48 loop.example.g01239.laws.eqBoard -/
noncomputable def b_laws_eqBoard : Code := Try.f48.body.getD .skip
def kp_laws_eqBoard : Nat → Option Keep := lk []
def O_laws_eqBoard : List (FuncId × Ora) := [(42, o_laws_eqIntS)]
def E_laws_eqBoard : Env := ⟨lk O_laws_eqBoard, fun _ => false⟩
def S_laws_eqBoard_e {ρ : Type} (p0_0 : Int) (p0_1 : Int) (p0_2 : List Int) (p1_0 : Int) (p1_1 : Int) (p1_2 : List Int)   (K : Bool → Option ρ) : Option ρ :=
  (bif !decide (p0_0 = p1_0) then K false else (bif !decide (p0_1 = p1_1) then K false else ((sh_laws_eqIntS p0_2 p1_2).bind fun r1 => (bif !r1 then K false else K true))))
theorem s_laws_eqBoard_e {ρ : Type} (fuel : Nat) (p0_0 : Int) (p0_1 : Int) (p0_2 : List Int) (p1_0 : Int) (p1_1 : Int) (p1_2 : List Int) (Kk : Out → Option ρ) : runFn TT E_laws_eqBoard kp_laws_eqBoard fuel [.val, .val] 2 false [[]] 21 [.tmp 4] b_laws_eqBoard [.agg [.int .i64 p0_0, .int .i64 p0_1, .sl (.ints .i64 p0_2)], .agg [.int .i64 p1_0, .int .i64 p1_1, .sl (.ints .i64 p1_2)]] Kk = S_laws_eqBoard_e p0_0 p0_1 p0_2 p1_0 p1_1 p1_2   (fun r1 => Kk ⟨[.x (.bool r1)], []⟩) := by
  kernel_rfl
def F_laws_eqBoard {ρ : Type} (fuel : Nat) (p0_0 : Int) (p0_1 : Int) (p0_2 : List Int) (p1_0 : Int) (p1_1 : Int) (p1_2 : List Int)  (K : Bool → Option ρ) : Option ρ := S_laws_eqBoard_e p0_0 p0_1 p0_2 p1_0 p1_1 p1_2   K
theorem f_laws_eqBoard {ρ : Type} (fuel : Nat) (p0_0 : Int) (p0_1 : Int) (p0_2 : List Int) (p1_0 : Int) (p1_1 : Int) (p1_2 : List Int) (Kk : Out → Option ρ) : runFn TT E_laws_eqBoard kp_laws_eqBoard fuel [.val, .val] 2 false [[]] 21 [.tmp 4] b_laws_eqBoard [.agg [.int .i64 p0_0, .int .i64 p0_1, .sl (.ints .i64 p0_2)], .agg [.int .i64 p1_0, .int .i64 p1_1, .sl (.ints .i64 p1_2)]] Kk = F_laws_eqBoard fuel p0_0 p0_1 p0_2 p1_0 p1_1 p1_2 (fun r1 => Kk ⟨[.x (.bool r1)], []⟩) := by
  rw [s_laws_eqBoard_e, F_laws_eqBoard]
noncomputable def sh_laws_eqBoard (p0_0 : Int) (p0_1 : Int) (p0_2 : List Int) (p1_0 : Int) (p1_1 : Int) (p1_2 : List Int) : Option (Bool) := F_laws_eqBoard 0 p0_0 p0_1 p0_2 p1_0 p1_1 p1_2 (fun r1 => some r1)
noncomputable def G_laws_eqBoard {ρ : Type} : List DU → (Out → Option ρ) → Option ρ
  | [.agg [.int .i64 p0_0, .int .i64 p0_1, .sl (.ints .i64 p0_2)], .agg [.int .i64 p1_0, .int .i64 p1_1, .sl (.ints .i64 p1_2)]], K => (sh_laws_eqBoard p0_0 p0_1 p0_2 p1_0 p1_1 p1_2).bind fun r => K ⟨[.x (.bool r)], []⟩
  | _, _ => none
noncomputable def o_laws_eqBoard : Ora := ⟨[.val, .val], 2, false, G_laws_eqBoard⟩
def un_laws_eqBoard : Out → Option (Bool)
  | ⟨[.x (.bool r1)], []⟩ => some r1
  | _ => none
theorem un_laws_eqBoard_ok {o : Out} {r : Bool} (h : un_laws_eqBoard o = some r) : o = ⟨[.x (.bool r)], []⟩ := by
  unfold un_laws_eqBoard at h
  split at h
  · injection h with h
    subst h
    rfl
  · cases h
theorem n_laws_eqBoard : ∀ k o, E_laws_eqBoard.fn k = some o → Nat1 o := fun k o h => (ook_list (P := Try.prog) (l := O_laws_eqBoard) (fk := E_laws_eqBoard.fk) (List.forall_mem_cons.2 ⟨m_laws_eqIntS, (List.forall_mem_nil _)⟩)).nat k o h
theorem u_laws_eqBoard (fuel : Nat) (p0_0 : Int) (p0_1 : Int) (p0_2 : List Int) (p1_0 : Int) (p1_1 : Int) (p1_2 : List Int) : runFn TT E_laws_eqBoard kp_laws_eqBoard fuel [.val, .val] 2 false [[]] 21 [.tmp 4] b_laws_eqBoard [.agg [.int .i64 p0_0, .int .i64 p0_1, .sl (.ints .i64 p0_2)], .agg [.int .i64 p1_0, .int .i64 p1_1, .sl (.ints .i64 p1_2)]] un_laws_eqBoard = F_laws_eqBoard fuel p0_0 p0_1 p0_2 p1_0 p1_1 p1_2 (fun r1 => some r1) := f_laws_eqBoard fuel p0_0 p0_1 p0_2 p1_0 p1_1 p1_2 un_laws_eqBoard
theorem m_laws_eqBoard : MeetsO Try.prog 48 o_laws_eqBoard := by
  refine ⟨fun ρ ds K => ?_, ⟨_, meets_run (kp := kp_laws_eqBoard) (weak := false) (df := [[]]) tsOk (ook_list (l := O_laws_eqBoard) (fk := E_laws_eqBoard.fk) (List.forall_mem_cons.2 ⟨m_laws_eqIntS, (List.forall_mem_nil _)⟩)) mixed Try.func48 (body := b_laws_eqBoard) (by kernel_rfl) (ntmps := 21) (by kernel_rfl) (rs := [.tmp 4]) (by kernel_rfl), fun ds out h => ?_⟩, ⟨_, Try.func48, by kernel_rfl, by kernel_rfl⟩⟩
  · show G_laws_eqBoard ds K = (G_laws_eqBoard ds some).bind K
    unfold G_laws_eqBoard
    split
    · cases sh_laws_eqBoard _ _ _ _ _ _ <;> rfl
    · rfl
  · replace h : G_laws_eqBoard ds some = some out := h
    unfold G_laws_eqBoard at h
    split at h
    · obtain ⟨r, hr, h⟩ := Option.bind_eq_some_iff.1 h
      injection h with h
      subst h
      have hn := (u_laws_eqBoard 0 _ _ _ _ _ _).trans hr
      rw [runFn_bind (K := un_laws_eqBoard) (K' := some) (f := un_laws_eqBoard) n_laws_eqBoard (fun _ => rfl)] at hn
      obtain ⟨o, h1, h2⟩ := Option.bind_eq_some_iff.1 hn
      rw [un_laws_eqBoard_ok h2] at h1
      exact ⟨0, h1⟩
    · cases h
/-! f51 loop.example.g01239.laws.eqLeaper -/
noncomputable def b_laws_eqLeaper : Code := Try.f51.body.getD .skip
def kp_laws_eqLeaper : Nat → Option Keep := lk []
def O_laws_eqLeaper : List (FuncId × Ora) := []
def E_laws_eqLeaper : Env := ⟨lk O_laws_eqLeaper, fun _ => false⟩
def S_laws_eqLeaper_e {ρ : Type} (p0_0 : Int) (p0_1 : Int) (p1_0 : Int) (p1_1 : Int)   (K : Bool → Option ρ) : Option ρ :=
  (bif !decide (p0_0 = p1_0) then K false else (bif !decide (p0_1 = p1_1) then K false else K true))
theorem s_laws_eqLeaper_e {ρ : Type} (fuel : Nat) (p0_0 : Int) (p0_1 : Int) (p1_0 : Int) (p1_1 : Int) (Kk : Out → Option ρ) : runFn TT E_laws_eqLeaper kp_laws_eqLeaper fuel [.val, .val] 2 false [[]] 15 [.tmp 4] b_laws_eqLeaper [.agg [.int .i64 p0_0, .int .i64 p0_1], .agg [.int .i64 p1_0, .int .i64 p1_1]] Kk = S_laws_eqLeaper_e p0_0 p0_1 p1_0 p1_1   (fun r1 => Kk ⟨[.x (.bool r1)], []⟩) := by
  kernel_rfl
def F_laws_eqLeaper {ρ : Type} (fuel : Nat) (p0_0 : Int) (p0_1 : Int) (p1_0 : Int) (p1_1 : Int)  (K : Bool → Option ρ) : Option ρ := S_laws_eqLeaper_e p0_0 p0_1 p1_0 p1_1   K
theorem f_laws_eqLeaper {ρ : Type} (fuel : Nat) (p0_0 : Int) (p0_1 : Int) (p1_0 : Int) (p1_1 : Int) (Kk : Out → Option ρ) : runFn TT E_laws_eqLeaper kp_laws_eqLeaper fuel [.val, .val] 2 false [[]] 15 [.tmp 4] b_laws_eqLeaper [.agg [.int .i64 p0_0, .int .i64 p0_1], .agg [.int .i64 p1_0, .int .i64 p1_1]] Kk = F_laws_eqLeaper fuel p0_0 p0_1 p1_0 p1_1 (fun r1 => Kk ⟨[.x (.bool r1)], []⟩) := by
  rw [s_laws_eqLeaper_e, F_laws_eqLeaper]
noncomputable def sh_laws_eqLeaper (p0_0 : Int) (p0_1 : Int) (p1_0 : Int) (p1_1 : Int) : Option (Bool) := F_laws_eqLeaper 0 p0_0 p0_1 p1_0 p1_1 (fun r1 => some r1)
noncomputable def G_laws_eqLeaper {ρ : Type} : List DU → (Out → Option ρ) → Option ρ
  | [.agg [.int .i64 p0_0, .int .i64 p0_1], .agg [.int .i64 p1_0, .int .i64 p1_1]], K => (sh_laws_eqLeaper p0_0 p0_1 p1_0 p1_1).bind fun r => K ⟨[.x (.bool r)], []⟩
  | _, _ => none
noncomputable def o_laws_eqLeaper : Ora := ⟨[.val, .val], 2, false, G_laws_eqLeaper⟩
def un_laws_eqLeaper : Out → Option (Bool)
  | ⟨[.x (.bool r1)], []⟩ => some r1
  | _ => none
theorem un_laws_eqLeaper_ok {o : Out} {r : Bool} (h : un_laws_eqLeaper o = some r) : o = ⟨[.x (.bool r)], []⟩ := by
  unfold un_laws_eqLeaper at h
  split at h
  · injection h with h
    subst h
    rfl
  · cases h
theorem n_laws_eqLeaper : ∀ k o, E_laws_eqLeaper.fn k = some o → Nat1 o := fun k o h => (ook_list (P := Try.prog) (l := O_laws_eqLeaper) (fk := E_laws_eqLeaper.fk) (List.forall_mem_nil _)).nat k o h
theorem u_laws_eqLeaper (fuel : Nat) (p0_0 : Int) (p0_1 : Int) (p1_0 : Int) (p1_1 : Int) : runFn TT E_laws_eqLeaper kp_laws_eqLeaper fuel [.val, .val] 2 false [[]] 15 [.tmp 4] b_laws_eqLeaper [.agg [.int .i64 p0_0, .int .i64 p0_1], .agg [.int .i64 p1_0, .int .i64 p1_1]] un_laws_eqLeaper = F_laws_eqLeaper fuel p0_0 p0_1 p1_0 p1_1 (fun r1 => some r1) := f_laws_eqLeaper fuel p0_0 p0_1 p1_0 p1_1 un_laws_eqLeaper
theorem m_laws_eqLeaper : MeetsO Try.prog 51 o_laws_eqLeaper := by
  refine ⟨fun ρ ds K => ?_, ⟨_, meets_run (kp := kp_laws_eqLeaper) (weak := false) (df := [[]]) tsOk (ook_list (l := O_laws_eqLeaper) (fk := E_laws_eqLeaper.fk) (List.forall_mem_nil _)) mixed Try.func51 (body := b_laws_eqLeaper) (by kernel_rfl) (ntmps := 15) (by kernel_rfl) (rs := [.tmp 4]) (by kernel_rfl), fun ds out h => ?_⟩, ⟨_, Try.func51, by kernel_rfl, by kernel_rfl⟩⟩
  · show G_laws_eqLeaper ds K = (G_laws_eqLeaper ds some).bind K
    unfold G_laws_eqLeaper
    split
    · cases sh_laws_eqLeaper _ _ _ _ <;> rfl
    · rfl
  · replace h : G_laws_eqLeaper ds some = some out := h
    unfold G_laws_eqLeaper at h
    split at h
    · obtain ⟨r, hr, h⟩ := Option.bind_eq_some_iff.1 h
      injection h with h
      subst h
      have hn := (u_laws_eqLeaper 0 _ _ _ _).trans hr
      rw [runFn_bind (K := un_laws_eqLeaper) (K' := some) (f := un_laws_eqLeaper) n_laws_eqLeaper (fun _ => rfl)] at hn
      obtain ⟨o, h1, h2⟩ := Option.bind_eq_some_iff.1 hn
      rw [un_laws_eqLeaper_ok h2] at h1
      exact ⟨0, h1⟩
    · cases h
/-! f15 loop.example.g01239.laws.eqDesk -/
noncomputable def b_laws_eqDesk : Code := Try.f15.body.getD .skip
def kp_laws_eqDesk : Nat → Option Keep := lk []
def O_laws_eqDesk : List (FuncId × Ora) := [(42, o_laws_eqIntS), (48, o_laws_eqBoard), (51, o_laws_eqLeaper)]
def E_laws_eqDesk : Env := ⟨lk O_laws_eqDesk, fun _ => false⟩
def S_laws_eqDesk_e {ρ : Type} (p0_0 : Int) (p0_1 : Int) (p0_2 : List Int) (p0_3 : Int) (p0_4 : Int) (p0_5 : List Int) (p1_0 : Int) (p1_1 : Int) (p1_2 : List Int) (p1_3 : Int) (p1_4 : Int) (p1_5 : List Int)   (K : Bool → Option ρ) : Option ρ :=
  ((sh_laws_eqBoard p0_0 p0_1 p0_2 p1_0 p1_1 p1_2).bind fun r1 => (bif !r1 then K false else ((sh_laws_eqLeaper p0_3 p0_4 p1_3 p1_4).bind fun r2 => (bif !r2 then K false else ((sh_laws_eqIntS p0_5 p1_5).bind fun r3 => (bif !r3 then K false else K true))))))
theorem s_laws_eqDesk_e {ρ : Type} (fuel : Nat) (p0_0 : Int) (p0_1 : Int) (p0_2 : List Int) (p0_3 : Int) (p0_4 : Int) (p0_5 : List Int) (p1_0 : Int) (p1_1 : Int) (p1_2 : List Int) (p1_3 : Int) (p1_4 : Int) (p1_5 : List Int) (Kk : Out → Option ρ) : runFn TT E_laws_eqDesk kp_laws_eqDesk fuel [.val, .val] 2 false [[]] 23 [.tmp 4] b_laws_eqDesk [.agg [.int .i64 p0_0, .int .i64 p0_1, .sl (.ints .i64 p0_2), .int .i64 p0_3, .int .i64 p0_4, .sl (.ints .i64 p0_5)], .agg [.int .i64 p1_0, .int .i64 p1_1, .sl (.ints .i64 p1_2), .int .i64 p1_3, .int .i64 p1_4, .sl (.ints .i64 p1_5)]] Kk = S_laws_eqDesk_e p0_0 p0_1 p0_2 p0_3 p0_4 p0_5 p1_0 p1_1 p1_2 p1_3 p1_4 p1_5   (fun r1 => Kk ⟨[.x (.bool r1)], []⟩) := by
  kernel_rfl
def F_laws_eqDesk {ρ : Type} (fuel : Nat) (p0_0 : Int) (p0_1 : Int) (p0_2 : List Int) (p0_3 : Int) (p0_4 : Int) (p0_5 : List Int) (p1_0 : Int) (p1_1 : Int) (p1_2 : List Int) (p1_3 : Int) (p1_4 : Int) (p1_5 : List Int)  (K : Bool → Option ρ) : Option ρ := S_laws_eqDesk_e p0_0 p0_1 p0_2 p0_3 p0_4 p0_5 p1_0 p1_1 p1_2 p1_3 p1_4 p1_5   K
theorem f_laws_eqDesk {ρ : Type} (fuel : Nat) (p0_0 : Int) (p0_1 : Int) (p0_2 : List Int) (p0_3 : Int) (p0_4 : Int) (p0_5 : List Int) (p1_0 : Int) (p1_1 : Int) (p1_2 : List Int) (p1_3 : Int) (p1_4 : Int) (p1_5 : List Int) (Kk : Out → Option ρ) : runFn TT E_laws_eqDesk kp_laws_eqDesk fuel [.val, .val] 2 false [[]] 23 [.tmp 4] b_laws_eqDesk [.agg [.int .i64 p0_0, .int .i64 p0_1, .sl (.ints .i64 p0_2), .int .i64 p0_3, .int .i64 p0_4, .sl (.ints .i64 p0_5)], .agg [.int .i64 p1_0, .int .i64 p1_1, .sl (.ints .i64 p1_2), .int .i64 p1_3, .int .i64 p1_4, .sl (.ints .i64 p1_5)]] Kk = F_laws_eqDesk fuel p0_0 p0_1 p0_2 p0_3 p0_4 p0_5 p1_0 p1_1 p1_2 p1_3 p1_4 p1_5 (fun r1 => Kk ⟨[.x (.bool r1)], []⟩) := by
  rw [s_laws_eqDesk_e, F_laws_eqDesk]
noncomputable def sh_laws_eqDesk (p0_0 : Int) (p0_1 : Int) (p0_2 : List Int) (p0_3 : Int) (p0_4 : Int) (p0_5 : List Int) (p1_0 : Int) (p1_1 : Int) (p1_2 : List Int) (p1_3 : Int) (p1_4 : Int) (p1_5 : List Int) : Option (Bool) := F_laws_eqDesk 0 p0_0 p0_1 p0_2 p0_3 p0_4 p0_5 p1_0 p1_1 p1_2 p1_3 p1_4 p1_5 (fun r1 => some r1)
noncomputable def G_laws_eqDesk {ρ : Type} : List DU → (Out → Option ρ) → Option ρ
  | [.agg [.int .i64 p0_0, .int .i64 p0_1, .sl (.ints .i64 p0_2), .int .i64 p0_3, .int .i64 p0_4, .sl (.ints .i64 p0_5)], .agg [.int .i64 p1_0, .int .i64 p1_1, .sl (.ints .i64 p1_2), .int .i64 p1_3, .int .i64 p1_4, .sl (.ints .i64 p1_5)]], K => (sh_laws_eqDesk p0_0 p0_1 p0_2 p0_3 p0_4 p0_5 p1_0 p1_1 p1_2 p1_3 p1_4 p1_5).bind fun r => K ⟨[.x (.bool r)], []⟩
  | _, _ => none
noncomputable def o_laws_eqDesk : Ora := ⟨[.val, .val], 2, false, G_laws_eqDesk⟩
def un_laws_eqDesk : Out → Option (Bool)
  | ⟨[.x (.bool r1)], []⟩ => some r1
  | _ => none
theorem un_laws_eqDesk_ok {o : Out} {r : Bool} (h : un_laws_eqDesk o = some r) : o = ⟨[.x (.bool r)], []⟩ := by
  unfold un_laws_eqDesk at h
  split at h
  · injection h with h
    subst h
    rfl
  · cases h
theorem n_laws_eqDesk : ∀ k o, E_laws_eqDesk.fn k = some o → Nat1 o := fun k o h => (ook_list (P := Try.prog) (l := O_laws_eqDesk) (fk := E_laws_eqDesk.fk) (List.forall_mem_cons.2 ⟨m_laws_eqIntS, (List.forall_mem_cons.2 ⟨m_laws_eqBoard, (List.forall_mem_cons.2 ⟨m_laws_eqLeaper, (List.forall_mem_nil _)⟩)⟩)⟩)).nat k o h
theorem u_laws_eqDesk (fuel : Nat) (p0_0 : Int) (p0_1 : Int) (p0_2 : List Int) (p0_3 : Int) (p0_4 : Int) (p0_5 : List Int) (p1_0 : Int) (p1_1 : Int) (p1_2 : List Int) (p1_3 : Int) (p1_4 : Int) (p1_5 : List Int) : runFn TT E_laws_eqDesk kp_laws_eqDesk fuel [.val, .val] 2 false [[]] 23 [.tmp 4] b_laws_eqDesk [.agg [.int .i64 p0_0, .int .i64 p0_1, .sl (.ints .i64 p0_2), .int .i64 p0_3, .int .i64 p0_4, .sl (.ints .i64 p0_5)], .agg [.int .i64 p1_0, .int .i64 p1_1, .sl (.ints .i64 p1_2), .int .i64 p1_3, .int .i64 p1_4, .sl (.ints .i64 p1_5)]] un_laws_eqDesk = F_laws_eqDesk fuel p0_0 p0_1 p0_2 p0_3 p0_4 p0_5 p1_0 p1_1 p1_2 p1_3 p1_4 p1_5 (fun r1 => some r1) := f_laws_eqDesk fuel p0_0 p0_1 p0_2 p0_3 p0_4 p0_5 p1_0 p1_1 p1_2 p1_3 p1_4 p1_5 un_laws_eqDesk
theorem m_laws_eqDesk : MeetsO Try.prog 15 o_laws_eqDesk := by
  refine ⟨fun ρ ds K => ?_, ⟨_, meets_run (kp := kp_laws_eqDesk) (weak := false) (df := [[]]) tsOk (ook_list (l := O_laws_eqDesk) (fk := E_laws_eqDesk.fk) (List.forall_mem_cons.2 ⟨m_laws_eqIntS, (List.forall_mem_cons.2 ⟨m_laws_eqBoard, (List.forall_mem_cons.2 ⟨m_laws_eqLeaper, (List.forall_mem_nil _)⟩)⟩)⟩)) mixed Try.func15 (body := b_laws_eqDesk) (by kernel_rfl) (ntmps := 23) (by kernel_rfl) (rs := [.tmp 4]) (by kernel_rfl), fun ds out h => ?_⟩, ⟨_, Try.func15, by kernel_rfl, by kernel_rfl⟩⟩
  · show G_laws_eqDesk ds K = (G_laws_eqDesk ds some).bind K
    unfold G_laws_eqDesk
    split
    · cases sh_laws_eqDesk _ _ _ _ _ _ _ _ _ _ _ _ <;> rfl
    · rfl
  · replace h : G_laws_eqDesk ds some = some out := h
    unfold G_laws_eqDesk at h
    split at h
    · obtain ⟨r, hr, h⟩ := Option.bind_eq_some_iff.1 h
      injection h with h
      subst h
      have hn := (u_laws_eqDesk 0 _ _ _ _ _ _ _ _ _ _ _ _).trans hr
      rw [runFn_bind (K := un_laws_eqDesk) (K' := some) (f := un_laws_eqDesk) n_laws_eqDesk (fun _ => rfl)] at hn
      obtain ⟨o, h1, h2⟩ := Option.bind_eq_some_iff.1 hn
      rw [un_laws_eqDesk_ok h2] at h1
      exact ⟨0, h1⟩
    · cases h
/-! f50 loop.example.g01239.laws.markIntS -/
noncomputable def b_laws_markIntS : Code := Try.f50.body.getD .skip
def kp_laws_markIntS : Nat → Option Keep := lk [(2, ⟨[], [0, 1, 5], [], [], []⟩)]
def O_laws_markIntS : List (FuncId × Ora) := []
def E_laws_markIntS : Env := ⟨lk O_laws_markIntS, fun _ => false⟩
noncomputable def D_laws_markIntS_0 {ρ : Type} (fuel : Nat) (p0 : List Int) (p1 : Int) (n : Nat) (v0 : List Int) (v1 : Int) (v5 : Int) (Kk : Out → Option ρ) : Option ρ :=
  iter (run TT E_laws_markIntS kp_laws_markIntS fuel (cL (cB (cS2 (cS1 (cS2 (b_laws_markIntS))))))) (nrmAt kp_laws_markIntS (firstRid (cL (cB (cS2 (cS1 (cS2 (b_laws_markIntS)))))))) n (⟨[.u (.x (.own 0 (.ints .i64 v0))), .u (.x (.int .i64 v1)), uu, uu, uu, .u (.x (.int .i64 v5)), uu, uu, uu, uu, uu, uu, uu, uu, uu, uu, uu, uu, uu], [], [(0, .ints .i64 v0)], []⟩) (blkK 0 (seqK (run TT E_laws_markIntS kp_laws_markIntS fuel (cS2 (cS2 (b_laws_markIntS)))) (nrmAt kp_laws_markIntS (200000 + firstRid (cS2 (cS2 (b_laws_markIntS))))) (topK TT [.wr, .val] false [[]] [.tmp 4] [.x (.sl (.ints .i64 p0)), .x (.int .i64 p1)] Kk)))
def S_laws_markIntS_e {ρ : Type} (p0 : List Int) (p1 : Int)  (k0 : (List Int → Int → Int → Option ρ)) : Option ρ :=
  k0 p0 p1 (0 : Int)
theorem s_laws_markIntS_e {ρ : Type} (fuel : Nat) (p0 : List Int) (p1 : Int) (Kk : Out → Option ρ) : runFn TT E_laws_markIntS kp_laws_markIntS fuel [.wr, .val] 2 false [[]] 19 [.tmp 4] b_laws_markIntS [.x (.sl (.ints .i64 p0)), .x (.int .i64 p1)] Kk = S_laws_markIntS_e p0 p1  (fun v0 v1 v5 => D_laws_markIntS_0 fuel p0 p1 fuel v0 v1 v5 Kk) := by
  kernel_rfl
def S_laws_markIntS_0 {ρ : Type}  (v0 : List Int) (v1 : Int) (v5 : Int) (b0 : (List Int → Int → Int → Option ρ)) (K : Int → List Int → Option ρ) : Option ρ :=
  (bif decide (v5 < (v0.length : Int)) then (if 0 ≤ v5 then (if v5 < (v0.length : Int) then b0 (v0.set v5.toNat v1) (IntKind.i64.wrap (v1 + (1 : Int))) (IntKind.i64.wrap (v5 + (1 : Int))) else none) else none) else K v1 v0)
theorem s_laws_markIntS_0 {ρ : Type} (fuel : Nat) (p0 : List Int) (p1 : Int) (n : Nat) (v0 : List Int) (v1 : Int) (v5 : Int) (Kk : Out → Option ρ) : D_laws_markIntS_0 fuel p0 p1  (n + 1) v0 v1 v5 Kk = S_laws_markIntS_0  v0 v1 v5 (fun v0 v1 v5 => D_laws_markIntS_0 fuel p0 p1 n v0 v1 v5 Kk) (fun r1 r2 => Kk ⟨[.x (.int .i64 r1)], [.x (.sl (.ints .i64 r2))]⟩) := by
  kernel_rfl
def F_laws_markIntS_0 {ρ : Type} (fuel : Nat)   (K : Int → List Int → Option ρ) : Nat → List Int → Int → Int → Option ρ
  | 0, _, _, _ => none
  | n + 1, v0, v1, v5 => S_laws_markIntS_0  v0 v1 v5 (F_laws_markIntS_0 fuel   K n) K
theorem f_laws_markIntS_0 {ρ : Type} (fuel : Nat) (p0 : List Int) (p1 : Int) (Kk : Out → Option ρ) : ∀ (n : Nat) (v0 : List Int) (v1 : Int) (v5 : Int), D_laws_markIntS_0 fuel p0 p1  n v0 v1 v5 Kk = F_laws_markIntS_0 fuel   (fun r1 r2 => Kk ⟨[.x (.int .i64 r1)], [.x (.sl (.ints .i64 r2))]⟩) n v0 v1 v5 := by
  intro n
  induction n with
  | zero => intros; rfl
  | succ n ih =>
    intro v0 v1 v5
    rw [s_laws_markIntS_0, F_laws_markIntS_0]
    try simp only [ih]
def F_laws_markIntS {ρ : Type} (fuel : Nat) (p0 : List Int) (p1 : Int)  (K : Int → List Int → Option ρ) : Option ρ := S_laws_markIntS_e p0 p1  (F_laws_markIntS_0 fuel   K fuel)
theorem f_laws_markIntS {ρ : Type} (fuel : Nat) (p0 : List Int) (p1 : Int) (Kk : Out → Option ρ) : runFn TT E_laws_markIntS kp_laws_markIntS fuel [.wr, .val] 2 false [[]] 19 [.tmp 4] b_laws_markIntS [.x (.sl (.ints .i64 p0)), .x (.int .i64 p1)] Kk = F_laws_markIntS fuel p0 p1 (fun r1 r2 => Kk ⟨[.x (.int .i64 r1)], [.x (.sl (.ints .i64 r2))]⟩) := by
  rw [s_laws_markIntS_e, F_laws_markIntS]
  try simp only [f_laws_markIntS_0]
noncomputable def sh_laws_markIntS (p0 : List Int) (p1 : Int) : Option (Int × List Int) := val fun n => F_laws_markIntS n p0 p1 (fun r1 r2 => some (r1, r2))
noncomputable def G_laws_markIntS {ρ : Type} : List DU → (Out → Option ρ) → Option ρ
  | [.x (.sl (.ints .i64 p0)), .x (.int .i64 p1)], K => (sh_laws_markIntS p0 p1).bind fun r => K ⟨[.x (.int .i64 r.1)], [.x (.sl (.ints .i64 r.2))]⟩
  | _, _ => none
noncomputable def o_laws_markIntS : Ora := ⟨[.wr, .val], 2, false, G_laws_markIntS⟩
def un_laws_markIntS : Out → Option (Int × List Int)
  | ⟨[.x (.int .i64 r1)], [.x (.sl (.ints .i64 r2))]⟩ => some (r1, r2)
  | _ => none
theorem un_laws_markIntS_ok {o : Out} {r : Int × List Int} (h : un_laws_markIntS o = some r) : o = ⟨[.x (.int .i64 r.1)], [.x (.sl (.ints .i64 r.2))]⟩ := by
  unfold un_laws_markIntS at h
  split at h
  · injection h with h
    subst h
    rfl
  · cases h
theorem n_laws_markIntS : ∀ k o, E_laws_markIntS.fn k = some o → Nat1 o := fun k o h => (ook_list (P := Try.prog) (l := O_laws_markIntS) (fk := E_laws_markIntS.fk) (List.forall_mem_nil _)).nat k o h
theorem u_laws_markIntS (fuel : Nat) (p0 : List Int) (p1 : Int) : runFn TT E_laws_markIntS kp_laws_markIntS fuel [.wr, .val] 2 false [[]] 19 [.tmp 4] b_laws_markIntS [.x (.sl (.ints .i64 p0)), .x (.int .i64 p1)] un_laws_markIntS = F_laws_markIntS fuel p0 p1 (fun r1 r2 => some (r1, r2)) := f_laws_markIntS fuel p0 p1 un_laws_markIntS
theorem sh_laws_markIntS_of {n : Nat} {p0 : List Int} {p1 : Int} {r : Int × List Int} (h : F_laws_markIntS n p0 p1 (fun r1 r2 => some (r1, r2)) = some r) : sh_laws_markIntS p0 p1 = some r := val_of (fun n m r hm h => by rw [← u_laws_markIntS] at h ⊢; exact runFn_mono n_laws_markIntS hm h) h
theorem m_laws_markIntS : MeetsO Try.prog 50 o_laws_markIntS := by
  refine ⟨fun ρ ds K => ?_, ⟨_, meets_run (kp := kp_laws_markIntS) (weak := false) (df := [[]]) tsOk (ook_list (l := O_laws_markIntS) (fk := E_laws_markIntS.fk) (List.forall_mem_nil _)) mixed Try.func50 (body := b_laws_markIntS) (by kernel_rfl) (ntmps := 19) (by kernel_rfl) (rs := [.tmp 4]) (by kernel_rfl), fun ds out h => ?_⟩, ⟨_, Try.func50, by kernel_rfl, by kernel_rfl⟩⟩
  · show G_laws_markIntS ds K = (G_laws_markIntS ds some).bind K
    unfold G_laws_markIntS
    split
    · cases sh_laws_markIntS _ _ <;> rfl
    · rfl
  · replace h : G_laws_markIntS ds some = some out := h
    unfold G_laws_markIntS at h
    split at h
    · obtain ⟨r, hr, h⟩ := Option.bind_eq_some_iff.1 h
      injection h with h
      subst h
      obtain ⟨n, hn⟩ := val_some hr
      replace hn := (u_laws_markIntS n _ _).trans hn
      rw [runFn_bind (K := un_laws_markIntS) (K' := some) (f := un_laws_markIntS) n_laws_markIntS (fun _ => rfl)] at hn
      obtain ⟨o, h1, h2⟩ := Option.bind_eq_some_iff.1 hn
      rw [un_laws_markIntS_ok h2] at h1
      exact ⟨n, h1⟩
    · cases h
/-! f49 loop.example.g01239.laws.markBoard -/
noncomputable def b_laws_markBoard : Code := Try.f49.body.getD .skip
def kp_laws_markBoard : Nat → Option Keep := lk []
def O_laws_markBoard : List (FuncId × Ora) := [(50, o_laws_markIntS)]
def E_laws_markBoard : Env := ⟨lk O_laws_markBoard, fun _ => false⟩
def S_laws_markBoard_e {ρ : Type} (p0_0 : Int) (p0_1 : Int) (p0_2 : List Int) (p1 : Int)   (K : Int → Int → Int → List Int → Option ρ) : Option ρ :=
  ((sh_laws_markIntS p0_2 p1).bind fun r1 => K r1.1 p0_0 p0_1 r1.2)
theorem s_laws_markBoard_e {ρ : Type} (fuel : Nat) (p0_0 : Int) (p0_1 : Int) (p0_2 : List Int) (p1 : Int) (Kk : Out → Option ρ) : runFn TT E_laws_markBoard kp_laws_markBoard fuel [.wr, .val] 2 false [[]] 10 [.tmp 4] b_laws_markBoard [.agg [.int .i64 p0_0, .int .i64 p0_1, .sl (.ints .i64 p0_2)], .x (.int .i64 p1)] Kk = S_laws_markBoard_e p0_0 p0_1 p0_2 p1   (fun r1 r2 r3 r4 => Kk ⟨[.x (.int .i64 r1)], [.agg [.int .i64 r2, .int .i64 r3, .sl (.ints .i64 r4)]]⟩) := by
  kernel_rfl
def F_laws_markBoard {ρ : Type} (fuel : Nat) (p0_0 : Int) (p0_1 : Int) (p0_2 : List Int) (p1 : Int)  (K : Int → Int → Int → List Int → Option ρ) : Option ρ := S_laws_markBoard_e p0_0 p0_1 p0_2 p1   K
theorem f_laws_markBoard {ρ : Type} (fuel : Nat) (p0_0 : Int) (p0_1 : Int) (p0_2 : List Int) (p1 : Int) (Kk : Out → Option ρ) : runFn TT E_laws_markBoard kp_laws_markBoard fuel [.wr, .val] 2 false [[]] 10 [.tmp 4] b_laws_markBoard [.agg [.int .i64 p0_0, .int .i64 p0_1, .sl (.ints .i64 p0_2)], .x (.int .i64 p1)] Kk = F_laws_markBoard fuel p0_0 p0_1 p0_2 p1 (fun r1 r2 r3 r4 => Kk ⟨[.x (.int .i64 r1)], [.agg [.int .i64 r2, .int .i64 r3, .sl (.ints .i64 r4)]]⟩) := by
  rw [s_laws_markBoard_e, F_laws_markBoard]
noncomputable def sh_laws_markBoard (p0_0 : Int) (p0_1 : Int) (p0_2 : List Int) (p1 : Int) : Option (Int × Int × Int × List Int) := F_laws_markBoard 0 p0_0 p0_1 p0_2 p1 (fun r1 r2 r3 r4 => some (r1, r2, r3, r4))
noncomputable def G_laws_markBoard {ρ : Type} : List DU → (Out → Option ρ) → Option ρ
  | [.agg [.int .i64 p0_0, .int .i64 p0_1, .sl (.ints .i64 p0_2)], .x (.int .i64 p1)], K => (sh_laws_markBoard p0_0 p0_1 p0_2 p1).bind fun r => K ⟨[.x (.int .i64 r.1)], [.agg [.int .i64 r.2.1, .int .i64 r.2.2.1, .sl (.ints .i64 r.2.2.2)]]⟩
  | _, _ => none
noncomputable def o_laws_markBoard : Ora := ⟨[.wr, .val], 2, false, G_laws_markBoard⟩
def un_laws_markBoard : Out → Option (Int × Int × Int × List Int)
  | ⟨[.x (.int .i64 r1)], [.agg [.int .i64 r2, .int .i64 r3, .sl (.ints .i64 r4)]]⟩ => some (r1, r2, r3, r4)
  | _ => none
theorem un_laws_markBoard_ok {o : Out} {r : Int × Int × Int × List Int} (h : un_laws_markBoard o = some r) : o = ⟨[.x (.int .i64 r.1)], [.agg [.int .i64 r.2.1, .int .i64 r.2.2.1, .sl (.ints .i64 r.2.2.2)]]⟩ := by
  unfold un_laws_markBoard at h
  split at h
  · injection h with h
    subst h
    rfl
  · cases h
theorem n_laws_markBoard : ∀ k o, E_laws_markBoard.fn k = some o → Nat1 o := fun k o h => (ook_list (P := Try.prog) (l := O_laws_markBoard) (fk := E_laws_markBoard.fk) (List.forall_mem_cons.2 ⟨m_laws_markIntS, (List.forall_mem_nil _)⟩)).nat k o h
theorem u_laws_markBoard (fuel : Nat) (p0_0 : Int) (p0_1 : Int) (p0_2 : List Int) (p1 : Int) : runFn TT E_laws_markBoard kp_laws_markBoard fuel [.wr, .val] 2 false [[]] 10 [.tmp 4] b_laws_markBoard [.agg [.int .i64 p0_0, .int .i64 p0_1, .sl (.ints .i64 p0_2)], .x (.int .i64 p1)] un_laws_markBoard = F_laws_markBoard fuel p0_0 p0_1 p0_2 p1 (fun r1 r2 r3 r4 => some (r1, r2, r3, r4)) := f_laws_markBoard fuel p0_0 p0_1 p0_2 p1 un_laws_markBoard
theorem m_laws_markBoard : MeetsO Try.prog 49 o_laws_markBoard := by
  refine ⟨fun ρ ds K => ?_, ⟨_, meets_run (kp := kp_laws_markBoard) (weak := false) (df := [[]]) tsOk (ook_list (l := O_laws_markBoard) (fk := E_laws_markBoard.fk) (List.forall_mem_cons.2 ⟨m_laws_markIntS, (List.forall_mem_nil _)⟩)) mixed Try.func49 (body := b_laws_markBoard) (by kernel_rfl) (ntmps := 10) (by kernel_rfl) (rs := [.tmp 4]) (by kernel_rfl), fun ds out h => ?_⟩, ⟨_, Try.func49, by kernel_rfl, by kernel_rfl⟩⟩
  · show G_laws_markBoard ds K = (G_laws_markBoard ds some).bind K
    unfold G_laws_markBoard
    split
    · cases sh_laws_markBoard _ _ _ _ <;> rfl
    · rfl
  · replace h : G_laws_markBoard ds some = some out := h
    unfold G_laws_markBoard at h
    split at h
    · obtain ⟨r, hr, h⟩ := Option.bind_eq_some_iff.1 h
      injection h with h
      subst h
      have hn := (u_laws_markBoard 0 _ _ _ _).trans hr
      rw [runFn_bind (K := un_laws_markBoard) (K' := some) (f := un_laws_markBoard) n_laws_markBoard (fun _ => rfl)] at hn
      obtain ⟨o, h1, h2⟩ := Option.bind_eq_some_iff.1 hn
      rw [un_laws_markBoard_ok h2] at h1
      exact ⟨0, h1⟩
    · cases h
/-! f16 loop.example.g01239.laws.markDesk -/
noncomputable def b_laws_markDesk : Code := Try.f16.body.getD .skip
def kp_laws_markDesk : Nat → Option Keep := lk []
def O_laws_markDesk : List (FuncId × Ora) := [(49, o_laws_markBoard), (50, o_laws_markIntS)]
def E_laws_markDesk : Env := ⟨lk O_laws_markDesk, fun _ => false⟩
def S_laws_markDesk_e {ρ : Type} (p0_0 : Int) (p0_1 : Int) (p0_2 : List Int) (p0_3 : Int) (p0_4 : Int) (p0_5 : List Int) (p1 : Int)   (K : Int → Int → Int → List Int → Int → Int → List Int → Option ρ) : Option ρ :=
  ((sh_laws_markBoard p0_0 p0_1 p0_2 p1).bind fun r1 => ((sh_laws_markIntS p0_5 r1.1).bind fun r2 => K r2.1 p0_0 p0_1 r1.2.2.2 p0_3 p0_4 r2.2))
theorem s_laws_markDesk_e {ρ : Type} (fuel : Nat) (p0_0 : Int) (p0_1 : Int) (p0_2 : List Int) (p0_3 : Int) (p0_4 : Int) (p0_5 : List Int) (p1 : Int) (Kk : Out → Option ρ) : runFn TT E_laws_markDesk kp_laws_markDesk fuel [.wr, .val] 2 false [[]] 14 [.tmp 4] b_laws_markDesk [.agg [.int .i64 p0_0, .int .i64 p0_1, .sl (.ints .i64 p0_2), .int .i64 p0_3, .int .i64 p0_4, .sl (.ints .i64 p0_5)], .x (.int .i64 p1)] Kk = S_laws_markDesk_e p0_0 p0_1 p0_2 p0_3 p0_4 p0_5 p1   (fun r1 r2 r3 r4 r5 r6 r7 => Kk ⟨[.x (.int .i64 r1)], [.agg [.int .i64 r2, .int .i64 r3, .sl (.ints .i64 r4), .int .i64 r5, .int .i64 r6, .sl (.ints .i64 r7)]]⟩) := by
  kernel_rfl
def F_laws_markDesk {ρ : Type} (fuel : Nat) (p0_0 : Int) (p0_1 : Int) (p0_2 : List Int) (p0_3 : Int) (p0_4 : Int) (p0_5 : List Int) (p1 : Int)  (K : Int → Int → Int → List Int → Int → Int → List Int → Option ρ) : Option ρ := S_laws_markDesk_e p0_0 p0_1 p0_2 p0_3 p0_4 p0_5 p1   K
theorem f_laws_markDesk {ρ : Type} (fuel : Nat) (p0_0 : Int) (p0_1 : Int) (p0_2 : List Int) (p0_3 : Int) (p0_4 : Int) (p0_5 : List Int) (p1 : Int) (Kk : Out → Option ρ) : runFn TT E_laws_markDesk kp_laws_markDesk fuel [.wr, .val] 2 false [[]] 14 [.tmp 4] b_laws_markDesk [.agg [.int .i64 p0_0, .int .i64 p0_1, .sl (.ints .i64 p0_2), .int .i64 p0_3, .int .i64 p0_4, .sl (.ints .i64 p0_5)], .x (.int .i64 p1)] Kk = F_laws_markDesk fuel p0_0 p0_1 p0_2 p0_3 p0_4 p0_5 p1 (fun r1 r2 r3 r4 r5 r6 r7 => Kk ⟨[.x (.int .i64 r1)], [.agg [.int .i64 r2, .int .i64 r3, .sl (.ints .i64 r4), .int .i64 r5, .int .i64 r6, .sl (.ints .i64 r7)]]⟩) := by
  rw [s_laws_markDesk_e, F_laws_markDesk]
noncomputable def sh_laws_markDesk (p0_0 : Int) (p0_1 : Int) (p0_2 : List Int) (p0_3 : Int) (p0_4 : Int) (p0_5 : List Int) (p1 : Int) : Option (Int × Int × Int × List Int × Int × Int × List Int) := F_laws_markDesk 0 p0_0 p0_1 p0_2 p0_3 p0_4 p0_5 p1 (fun r1 r2 r3 r4 r5 r6 r7 => some (r1, r2, r3, r4, r5, r6, r7))
noncomputable def G_laws_markDesk {ρ : Type} : List DU → (Out → Option ρ) → Option ρ
  | [.agg [.int .i64 p0_0, .int .i64 p0_1, .sl (.ints .i64 p0_2), .int .i64 p0_3, .int .i64 p0_4, .sl (.ints .i64 p0_5)], .x (.int .i64 p1)], K => (sh_laws_markDesk p0_0 p0_1 p0_2 p0_3 p0_4 p0_5 p1).bind fun r => K ⟨[.x (.int .i64 r.1)], [.agg [.int .i64 r.2.1, .int .i64 r.2.2.1, .sl (.ints .i64 r.2.2.2.1), .int .i64 r.2.2.2.2.1, .int .i64 r.2.2.2.2.2.1, .sl (.ints .i64 r.2.2.2.2.2.2)]]⟩
  | _, _ => none
noncomputable def o_laws_markDesk : Ora := ⟨[.wr, .val], 2, false, G_laws_markDesk⟩
def un_laws_markDesk : Out → Option (Int × Int × Int × List Int × Int × Int × List Int)
  | ⟨[.x (.int .i64 r1)], [.agg [.int .i64 r2, .int .i64 r3, .sl (.ints .i64 r4), .int .i64 r5, .int .i64 r6, .sl (.ints .i64 r7)]]⟩ => some (r1, r2, r3, r4, r5, r6, r7)
  | _ => none
theorem un_laws_markDesk_ok {o : Out} {r : Int × Int × Int × List Int × Int × Int × List Int} (h : un_laws_markDesk o = some r) : o = ⟨[.x (.int .i64 r.1)], [.agg [.int .i64 r.2.1, .int .i64 r.2.2.1, .sl (.ints .i64 r.2.2.2.1), .int .i64 r.2.2.2.2.1, .int .i64 r.2.2.2.2.2.1, .sl (.ints .i64 r.2.2.2.2.2.2)]]⟩ := by
  unfold un_laws_markDesk at h
  split at h
  · injection h with h
    subst h
    rfl
  · cases h
theorem n_laws_markDesk : ∀ k o, E_laws_markDesk.fn k = some o → Nat1 o := fun k o h => (ook_list (P := Try.prog) (l := O_laws_markDesk) (fk := E_laws_markDesk.fk) (List.forall_mem_cons.2 ⟨m_laws_markBoard, (List.forall_mem_cons.2 ⟨m_laws_markIntS, (List.forall_mem_nil _)⟩)⟩)).nat k o h
theorem u_laws_markDesk (fuel : Nat) (p0_0 : Int) (p0_1 : Int) (p0_2 : List Int) (p0_3 : Int) (p0_4 : Int) (p0_5 : List Int) (p1 : Int) : runFn TT E_laws_markDesk kp_laws_markDesk fuel [.wr, .val] 2 false [[]] 14 [.tmp 4] b_laws_markDesk [.agg [.int .i64 p0_0, .int .i64 p0_1, .sl (.ints .i64 p0_2), .int .i64 p0_3, .int .i64 p0_4, .sl (.ints .i64 p0_5)], .x (.int .i64 p1)] un_laws_markDesk = F_laws_markDesk fuel p0_0 p0_1 p0_2 p0_3 p0_4 p0_5 p1 (fun r1 r2 r3 r4 r5 r6 r7 => some (r1, r2, r3, r4, r5, r6, r7)) := f_laws_markDesk fuel p0_0 p0_1 p0_2 p0_3 p0_4 p0_5 p1 un_laws_markDesk
theorem m_laws_markDesk : MeetsO Try.prog 16 o_laws_markDesk := by
  refine ⟨fun ρ ds K => ?_, ⟨_, meets_run (kp := kp_laws_markDesk) (weak := false) (df := [[]]) tsOk (ook_list (l := O_laws_markDesk) (fk := E_laws_markDesk.fk) (List.forall_mem_cons.2 ⟨m_laws_markBoard, (List.forall_mem_cons.2 ⟨m_laws_markIntS, (List.forall_mem_nil _)⟩)⟩)) mixed Try.func16 (body := b_laws_markDesk) (by kernel_rfl) (ntmps := 14) (by kernel_rfl) (rs := [.tmp 4]) (by kernel_rfl), fun ds out h => ?_⟩, ⟨_, Try.func16, by kernel_rfl, by kernel_rfl⟩⟩
  · show G_laws_markDesk ds K = (G_laws_markDesk ds some).bind K
    unfold G_laws_markDesk
    split
    · cases sh_laws_markDesk _ _ _ _ _ _ _ <;> rfl
    · rfl
  · replace h : G_laws_markDesk ds some = some out := h
    unfold G_laws_markDesk at h
    split at h
    · obtain ⟨r, hr, h⟩ := Option.bind_eq_some_iff.1 h
      injection h with h
      subst h
      have hn := (u_laws_markDesk 0 _ _ _ _ _ _ _).trans hr
      rw [runFn_bind (K := un_laws_markDesk) (K' := some) (f := un_laws_markDesk) n_laws_markDesk (fun _ => rfl)] at hn
      obtain ⟨o, h1, h2⟩ := Option.bind_eq_some_iff.1 hn
      rw [un_laws_markDesk_ok h2] at h1
      exact ⟨0, h1⟩
    · cases h
/-! f53 loop.example.g01239.laws.heldIntS -/
noncomputable def b_laws_heldIntS : Code := Try.f53.body.getD .skip
def kp_laws_heldIntS : Nat → Option Keep := lk [(2, ⟨[], [0, 1, 5], [], [], []⟩)]
def O_laws_heldIntS : List (FuncId × Ora) := []
def E_laws_heldIntS : Env := ⟨lk O_laws_heldIntS, fun _ => false⟩
noncomputable def D_laws_heldIntS_0 {ρ : Type} (fuel : Nat) (p0 : List Int) (p1 : Int) (n : Nat) (v0 : List Int) (v1 : Int) (v5 : Int) (Kk : Out → Option ρ) : Option ρ :=
  iter (run TT E_laws_heldIntS kp_laws_heldIntS fuel (cL (cB (cS2 (cS1 (cS2 (b_laws_heldIntS))))))) (nrmAt kp_laws_heldIntS (firstRid (cL (cB (cS2 (cS1 (cS2 (b_laws_heldIntS)))))))) n (⟨[.u (.x (.ro (.ints .i64 v0))), .u (.x (.int .i64 v1)), uu, uu, uu, .u (.x (.int .i64 v5)), uu, uu, uu, uu, uu, uu, uu, uu, uu, uu, uu, uu, uu, uu, uu], [], [], []⟩) (blkK 0 (seqK (run TT E_laws_heldIntS kp_laws_heldIntS fuel (cS2 (cS2 (b_laws_heldIntS)))) (nrmAt kp_laws_heldIntS (200000 + firstRid (cS2 (cS2 (b_laws_heldIntS))))) (topK TT [.val, .val] false [[]] [.tmp 4] [.x (.sl (.ints .i64 p0)), .x (.int .i64 p1)] Kk)))
def S_laws_heldIntS_e {ρ : Type} (p0 : List Int) (p1 : Int)  (k0 : (List Int → Int → Int → Option ρ)) : Option ρ :=
  k0 p0 p1 (0 : Int)
theorem s_laws_heldIntS_e {ρ : Type} (fuel : Nat) (p0 : List Int) (p1 : Int) (Kk : Out → Option ρ) : runFn TT E_laws_heldIntS kp_laws_heldIntS fuel [.val, .val] 2 false [[]] 21 [.tmp 4] b_laws_heldIntS [.x (.sl (.ints .i64 p0)), .x (.int .i64 p1)] Kk = S_laws_heldIntS_e p0 p1  (fun v0 v1 v5 => D_laws_heldIntS_0 fuel p0 p1 fuel v0 v1 v5 Kk) := by
  kernel_rfl
def S_laws_heldIntS_0 {ρ : Type}  (v0 : List Int) (v1 : Int) (v5 : Int) (b0 : (List Int → Int → Int → Option ρ)) (K : Int → Option ρ) : Option ρ :=
  (bif decide (v5 < (v0.length : Int)) then (if 0 ≤ v5 then (if v5 < (v0.length : Int) then (bif !decide ((v0.getD v5.toNat 0) = v1) then K (-1 : Int) else b0 v0 (IntKind.i64.wrap (v1 + (1 : Int))) (IntKind.i64.wrap (v5 + (1 : Int)))) else none) else none) else K v1)
theorem s_laws_heldIntS_0 {ρ : Type} (fuel : Nat) (p0 : List Int) (p1 : Int) (n : Nat) (v0 : List Int) (v1 : Int) (v5 : Int) (Kk : Out → Option ρ) : D_laws_heldIntS_0 fuel p0 p1  (n + 1) v0 v1 v5 Kk = S_laws_heldIntS_0  v0 v1 v5 (fun v0 v1 v5 => D_laws_heldIntS_0 fuel p0 p1 n v0 v1 v5 Kk) (fun r1 => Kk ⟨[.x (.int .i64 r1)], []⟩) := by
  kernel_rfl
def F_laws_heldIntS_0 {ρ : Type} (fuel : Nat)   (K : Int → Option ρ) : Nat → List Int → Int → Int → Option ρ
  | 0, _, _, _ => none
  | n + 1, v0, v1, v5 => S_laws_heldIntS_0  v0 v1 v5 (F_laws_heldIntS_0 fuel   K n) K
theorem f_laws_heldIntS_0 {ρ : Type} (fuel : Nat) (p0 : List Int) (p1 : Int) (Kk : Out → Option ρ) : ∀ (n : Nat) (v0 : List Int) (v1 : Int) (v5 : Int), D_laws_heldIntS_0 fuel p0 p1  n v0 v1 v5 Kk = F_laws_heldIntS_0 fuel   (fun r1 => Kk ⟨[.x (.int .i64 r1)], []⟩) n v0 v1 v5 := by
  intro n
  induction n with
  | zero => intros; rfl
  | succ n ih =>
    intro v0 v1 v5
    rw [s_laws_heldIntS_0, F_laws_heldIntS_0]
    try simp only [ih]
def F_laws_heldIntS {ρ : Type} (fuel : Nat) (p0 : List Int) (p1 : Int)  (K : Int → Option ρ) : Option ρ := S_laws_heldIntS_e p0 p1  (F_laws_heldIntS_0 fuel   K fuel)
theorem f_laws_heldIntS {ρ : Type} (fuel : Nat) (p0 : List Int) (p1 : Int) (Kk : Out → Option ρ) : runFn TT E_laws_heldIntS kp_laws_heldIntS fuel [.val, .val] 2 false [[]] 21 [.tmp 4] b_laws_heldIntS [.x (.sl (.ints .i64 p0)), .x (.int .i64 p1)] Kk = F_laws_heldIntS fuel p0 p1 (fun r1 => Kk ⟨[.x (.int .i64 r1)], []⟩) := by
  rw [s_laws_heldIntS_e, F_laws_heldIntS]
  try simp only [f_laws_heldIntS_0]
noncomputable def sh_laws_heldIntS (p0 : List Int) (p1 : Int) : Option (Int) := val fun n => F_laws_heldIntS n p0 p1 (fun r1 => some r1)
noncomputable def G_laws_heldIntS {ρ : Type} : List DU → (Out → Option ρ) → Option ρ
  | [.x (.sl (.ints .i64 p0)), .x (.int .i64 p1)], K => (sh_laws_heldIntS p0 p1).bind fun r => K ⟨[.x (.int .i64 r)], []⟩
  | _, _ => none
noncomputable def o_laws_heldIntS : Ora := ⟨[.val, .val], 2, false, G_laws_heldIntS⟩
def un_laws_heldIntS : Out → Option (Int)
  | ⟨[.x (.int .i64 r1)], []⟩ => some r1
  | _ => none
theorem un_laws_heldIntS_ok {o : Out} {r : Int} (h : un_laws_heldIntS o = some r) : o = ⟨[.x (.int .i64 r)], []⟩ := by
  unfold un_laws_heldIntS at h
  split at h
  · injection h with h
    subst h
    rfl
  · cases h
theorem n_laws_heldIntS : ∀ k o, E_laws_heldIntS.fn k = some o → Nat1 o := fun k o h => (ook_list (P := Try.prog) (l := O_laws_heldIntS) (fk := E_laws_heldIntS.fk) (List.forall_mem_nil _)).nat k o h
theorem u_laws_heldIntS (fuel : Nat) (p0 : List Int) (p1 : Int) : runFn TT E_laws_heldIntS kp_laws_heldIntS fuel [.val, .val] 2 false [[]] 21 [.tmp 4] b_laws_heldIntS [.x (.sl (.ints .i64 p0)), .x (.int .i64 p1)] un_laws_heldIntS = F_laws_heldIntS fuel p0 p1 (fun r1 => some r1) := f_laws_heldIntS fuel p0 p1 un_laws_heldIntS
theorem sh_laws_heldIntS_of {n : Nat} {p0 : List Int} {p1 : Int} {r : Int} (h : F_laws_heldIntS n p0 p1 (fun r1 => some r1) = some r) : sh_laws_heldIntS p0 p1 = some r := val_of (fun n m r hm h => by rw [← u_laws_heldIntS] at h ⊢; exact runFn_mono n_laws_heldIntS hm h) h
theorem m_laws_heldIntS : MeetsO Try.prog 53 o_laws_heldIntS := by
  refine ⟨fun ρ ds K => ?_, ⟨_, meets_run (kp := kp_laws_heldIntS) (weak := false) (df := [[]]) tsOk (ook_list (l := O_laws_heldIntS) (fk := E_laws_heldIntS.fk) (List.forall_mem_nil _)) mixed Try.func53 (body := b_laws_heldIntS) (by kernel_rfl) (ntmps := 21) (by kernel_rfl) (rs := [.tmp 4]) (by kernel_rfl), fun ds out h => ?_⟩, ⟨_, Try.func53, by kernel_rfl, by kernel_rfl⟩⟩
  · show G_laws_heldIntS ds K = (G_laws_heldIntS ds some).bind K
    unfold G_laws_heldIntS
    split
    · cases sh_laws_heldIntS _ _ <;> rfl
    · rfl
  · replace h : G_laws_heldIntS ds some = some out := h
    unfold G_laws_heldIntS at h
    split at h
    · obtain ⟨r, hr, h⟩ := Option.bind_eq_some_iff.1 h
      injection h with h
      subst h
      obtain ⟨n, hn⟩ := val_some hr
      replace hn := (u_laws_heldIntS n _ _).trans hn
      rw [runFn_bind (K := un_laws_heldIntS) (K' := some) (f := un_laws_heldIntS) n_laws_heldIntS (fun _ => rfl)] at hn
      obtain ⟨o, h1, h2⟩ := Option.bind_eq_some_iff.1 hn
      rw [un_laws_heldIntS_ok h2] at h1
      exact ⟨n, h1⟩
    · cases h
/-! f52 loop.example.g01239.laws.heldBoard -/
noncomputable def b_laws_heldBoard : Code := Try.f52.body.getD .skip
def kp_laws_heldBoard : Nat → Option Keep := lk []
def O_laws_heldBoard : List (FuncId × Ora) := [(53, o_laws_heldIntS)]
def E_laws_heldBoard : Env := ⟨lk O_laws_heldBoard, fun _ => false⟩
def S_laws_heldBoard_e {ρ : Type} (p0_0 : Int) (p0_1 : Int) (p0_2 : List Int) (p1 : Int)   (K : Int → Option ρ) : Option ρ :=
  ((sh_laws_heldIntS p0_2 p1).bind fun r1 => (bif decide (r1 < (0 : Int)) then K (-1 : Int) else K r1))
theorem s_laws_heldBoard_e {ρ : Type} (fuel : Nat) (p0_0 : Int) (p0_1 : Int) (p0_2 : List Int) (p1 : Int) (Kk : Out → Option ρ) : runFn TT E_laws_heldBoard kp_laws_heldBoard fuel [.val, .val] 2 false [[]] 12 [.tmp 4] b_laws_heldBoard [.agg [.int .i64 p0_0, .int .i64 p0_1, .sl (.ints .i64 p0_2)], .x (.int .i64 p1)] Kk = S_laws_heldBoard_e p0_0 p0_1 p0_2 p1   (fun r1 => Kk ⟨[.x (.int .i64 r1)], []⟩) := by
  kernel_rfl
def F_laws_heldBoard {ρ : Type} (fuel : Nat) (p0_0 : Int) (p0_1 : Int) (p0_2 : List Int) (p1 : Int)  (K : Int → Option ρ) : Option ρ := S_laws_heldBoard_e p0_0 p0_1 p0_2 p1   K
theorem f_laws_heldBoard {ρ : Type} (fuel : Nat) (p0_0 : Int) (p0_1 : Int) (p0_2 : List Int) (p1 : Int) (Kk : Out → Option ρ) : runFn TT E_laws_heldBoard kp_laws_heldBoard fuel [.val, .val] 2 false [[]] 12 [.tmp 4] b_laws_heldBoard [.agg [.int .i64 p0_0, .int .i64 p0_1, .sl (.ints .i64 p0_2)], .x (.int .i64 p1)] Kk = F_laws_heldBoard fuel p0_0 p0_1 p0_2 p1 (fun r1 => Kk ⟨[.x (.int .i64 r1)], []⟩) := by
  rw [s_laws_heldBoard_e, F_laws_heldBoard]
noncomputable def sh_laws_heldBoard (p0_0 : Int) (p0_1 : Int) (p0_2 : List Int) (p1 : Int) : Option (Int) := F_laws_heldBoard 0 p0_0 p0_1 p0_2 p1 (fun r1 => some r1)
noncomputable def G_laws_heldBoard {ρ : Type} : List DU → (Out → Option ρ) → Option ρ
  | [.agg [.int .i64 p0_0, .int .i64 p0_1, .sl (.ints .i64 p0_2)], .x (.int .i64 p1)], K => (sh_laws_heldBoard p0_0 p0_1 p0_2 p1).bind fun r => K ⟨[.x (.int .i64 r)], []⟩
  | _, _ => none
noncomputable def o_laws_heldBoard : Ora := ⟨[.val, .val], 2, false, G_laws_heldBoard⟩
def un_laws_heldBoard : Out → Option (Int)
  | ⟨[.x (.int .i64 r1)], []⟩ => some r1
  | _ => none
theorem un_laws_heldBoard_ok {o : Out} {r : Int} (h : un_laws_heldBoard o = some r) : o = ⟨[.x (.int .i64 r)], []⟩ := by
  unfold un_laws_heldBoard at h
  split at h
  · injection h with h
    subst h
    rfl
  · cases h
theorem n_laws_heldBoard : ∀ k o, E_laws_heldBoard.fn k = some o → Nat1 o := fun k o h => (ook_list (P := Try.prog) (l := O_laws_heldBoard) (fk := E_laws_heldBoard.fk) (List.forall_mem_cons.2 ⟨m_laws_heldIntS, (List.forall_mem_nil _)⟩)).nat k o h
theorem u_laws_heldBoard (fuel : Nat) (p0_0 : Int) (p0_1 : Int) (p0_2 : List Int) (p1 : Int) : runFn TT E_laws_heldBoard kp_laws_heldBoard fuel [.val, .val] 2 false [[]] 12 [.tmp 4] b_laws_heldBoard [.agg [.int .i64 p0_0, .int .i64 p0_1, .sl (.ints .i64 p0_2)], .x (.int .i64 p1)] un_laws_heldBoard = F_laws_heldBoard fuel p0_0 p0_1 p0_2 p1 (fun r1 => some r1) := f_laws_heldBoard fuel p0_0 p0_1 p0_2 p1 un_laws_heldBoard
theorem m_laws_heldBoard : MeetsO Try.prog 52 o_laws_heldBoard := by
  refine ⟨fun ρ ds K => ?_, ⟨_, meets_run (kp := kp_laws_heldBoard) (weak := false) (df := [[]]) tsOk (ook_list (l := O_laws_heldBoard) (fk := E_laws_heldBoard.fk) (List.forall_mem_cons.2 ⟨m_laws_heldIntS, (List.forall_mem_nil _)⟩)) mixed Try.func52 (body := b_laws_heldBoard) (by kernel_rfl) (ntmps := 12) (by kernel_rfl) (rs := [.tmp 4]) (by kernel_rfl), fun ds out h => ?_⟩, ⟨_, Try.func52, by kernel_rfl, by kernel_rfl⟩⟩
  · show G_laws_heldBoard ds K = (G_laws_heldBoard ds some).bind K
    unfold G_laws_heldBoard
    split
    · cases sh_laws_heldBoard _ _ _ _ <;> rfl
    · rfl
  · replace h : G_laws_heldBoard ds some = some out := h
    unfold G_laws_heldBoard at h
    split at h
    · obtain ⟨r, hr, h⟩ := Option.bind_eq_some_iff.1 h
      injection h with h
      subst h
      have hn := (u_laws_heldBoard 0 _ _ _ _).trans hr
      rw [runFn_bind (K := un_laws_heldBoard) (K' := some) (f := un_laws_heldBoard) n_laws_heldBoard (fun _ => rfl)] at hn
      obtain ⟨o, h1, h2⟩ := Option.bind_eq_some_iff.1 hn
      rw [un_laws_heldBoard_ok h2] at h1
      exact ⟨0, h1⟩
    · cases h
/-! f17 loop.example.g01239.laws.heldDesk -/
noncomputable def b_laws_heldDesk : Code := Try.f17.body.getD .skip
def kp_laws_heldDesk : Nat → Option Keep := lk []
def O_laws_heldDesk : List (FuncId × Ora) := [(52, o_laws_heldBoard), (53, o_laws_heldIntS)]
def E_laws_heldDesk : Env := ⟨lk O_laws_heldDesk, fun _ => false⟩
def S_laws_heldDesk_e {ρ : Type} (p0_0 : Int) (p0_1 : Int) (p0_2 : List Int) (p0_3 : Int) (p0_4 : Int) (p0_5 : List Int) (p1 : Int)   (K : Int → Option ρ) : Option ρ :=
  ((sh_laws_heldBoard p0_0 p0_1 p0_2 p1).bind fun r1 => (bif decide (r1 < (0 : Int)) then K (-1 : Int) else ((sh_laws_heldIntS p0_5 r1).bind fun r2 => (bif decide (r2 < (0 : Int)) then K (-1 : Int) else K r2))))
theorem s_laws_heldDesk_e {ρ : Type} (fuel : Nat) (p0_0 : Int) (p0_1 : Int) (p0_2 : List Int) (p0_3 : Int) (p0_4 : Int) (p0_5 : List Int) (p1 : Int) (Kk : Out → Option ρ) : runFn TT E_laws_heldDesk kp_laws_heldDesk fuel [.val, .val] 2 false [[]] 18 [.tmp 4] b_laws_heldDesk [.agg [.int .i64 p0_0, .int .i64 p0_1, .sl (.ints .i64 p0_2), .int .i64 p0_3, .int .i64 p0_4, .sl (.ints .i64 p0_5)], .x (.int .i64 p1)] Kk = S_laws_heldDesk_e p0_0 p0_1 p0_2 p0_3 p0_4 p0_5 p1   (fun r1 => Kk ⟨[.x (.int .i64 r1)], []⟩) := by
  kernel_rfl
def F_laws_heldDesk {ρ : Type} (fuel : Nat) (p0_0 : Int) (p0_1 : Int) (p0_2 : List Int) (p0_3 : Int) (p0_4 : Int) (p0_5 : List Int) (p1 : Int)  (K : Int → Option ρ) : Option ρ := S_laws_heldDesk_e p0_0 p0_1 p0_2 p0_3 p0_4 p0_5 p1   K
theorem f_laws_heldDesk {ρ : Type} (fuel : Nat) (p0_0 : Int) (p0_1 : Int) (p0_2 : List Int) (p0_3 : Int) (p0_4 : Int) (p0_5 : List Int) (p1 : Int) (Kk : Out → Option ρ) : runFn TT E_laws_heldDesk kp_laws_heldDesk fuel [.val, .val] 2 false [[]] 18 [.tmp 4] b_laws_heldDesk [.agg [.int .i64 p0_0, .int .i64 p0_1, .sl (.ints .i64 p0_2), .int .i64 p0_3, .int .i64 p0_4, .sl (.ints .i64 p0_5)], .x (.int .i64 p1)] Kk = F_laws_heldDesk fuel p0_0 p0_1 p0_2 p0_3 p0_4 p0_5 p1 (fun r1 => Kk ⟨[.x (.int .i64 r1)], []⟩) := by
  rw [s_laws_heldDesk_e, F_laws_heldDesk]
noncomputable def sh_laws_heldDesk (p0_0 : Int) (p0_1 : Int) (p0_2 : List Int) (p0_3 : Int) (p0_4 : Int) (p0_5 : List Int) (p1 : Int) : Option (Int) := F_laws_heldDesk 0 p0_0 p0_1 p0_2 p0_3 p0_4 p0_5 p1 (fun r1 => some r1)
noncomputable def G_laws_heldDesk {ρ : Type} : List DU → (Out → Option ρ) → Option ρ
  | [.agg [.int .i64 p0_0, .int .i64 p0_1, .sl (.ints .i64 p0_2), .int .i64 p0_3, .int .i64 p0_4, .sl (.ints .i64 p0_5)], .x (.int .i64 p1)], K => (sh_laws_heldDesk p0_0 p0_1 p0_2 p0_3 p0_4 p0_5 p1).bind fun r => K ⟨[.x (.int .i64 r)], []⟩
  | _, _ => none
noncomputable def o_laws_heldDesk : Ora := ⟨[.val, .val], 2, false, G_laws_heldDesk⟩
def un_laws_heldDesk : Out → Option (Int)
  | ⟨[.x (.int .i64 r1)], []⟩ => some r1
  | _ => none
theorem un_laws_heldDesk_ok {o : Out} {r : Int} (h : un_laws_heldDesk o = some r) : o = ⟨[.x (.int .i64 r)], []⟩ := by
  unfold un_laws_heldDesk at h
  split at h
  · injection h with h
    subst h
    rfl
  · cases h
theorem n_laws_heldDesk : ∀ k o, E_laws_heldDesk.fn k = some o → Nat1 o := fun k o h => (ook_list (P := Try.prog) (l := O_laws_heldDesk) (fk := E_laws_heldDesk.fk) (List.forall_mem_cons.2 ⟨m_laws_heldBoard, (List.forall_mem_cons.2 ⟨m_laws_heldIntS, (List.forall_mem_nil _)⟩)⟩)).nat k o h
theorem u_laws_heldDesk (fuel : Nat) (p0_0 : Int) (p0_1 : Int) (p0_2 : List Int) (p0_3 : Int) (p0_4 : Int) (p0_5 : List Int) (p1 : Int) : runFn TT E_laws_heldDesk kp_laws_heldDesk fuel [.val, .val] 2 false [[]] 18 [.tmp 4] b_laws_heldDesk [.agg [.int .i64 p0_0, .int .i64 p0_1, .sl (.ints .i64 p0_2), .int .i64 p0_3, .int .i64 p0_4, .sl (.ints .i64 p0_5)], .x (.int .i64 p1)] un_laws_heldDesk = F_laws_heldDesk fuel p0_0 p0_1 p0_2 p0_3 p0_4 p0_5 p1 (fun r1 => some r1) := f_laws_heldDesk fuel p0_0 p0_1 p0_2 p0_3 p0_4 p0_5 p1 un_laws_heldDesk
theorem m_laws_heldDesk : MeetsO Try.prog 17 o_laws_heldDesk := by
  refine ⟨fun ρ ds K => ?_, ⟨_, meets_run (kp := kp_laws_heldDesk) (weak := false) (df := [[]]) tsOk (ook_list (l := O_laws_heldDesk) (fk := E_laws_heldDesk.fk) (List.forall_mem_cons.2 ⟨m_laws_heldBoard, (List.forall_mem_cons.2 ⟨m_laws_heldIntS, (List.forall_mem_nil _)⟩)⟩)) mixed Try.func17 (body := b_laws_heldDesk) (by kernel_rfl) (ntmps := 18) (by kernel_rfl) (rs := [.tmp 4]) (by kernel_rfl), fun ds out h => ?_⟩, ⟨_, Try.func17, by kernel_rfl, by kernel_rfl⟩⟩
  · show G_laws_heldDesk ds K = (G_laws_heldDesk ds some).bind K
    unfold G_laws_heldDesk
    split
    · cases sh_laws_heldDesk _ _ _ _ _ _ _ <;> rfl
    · rfl
  · replace h : G_laws_heldDesk ds some = some out := h
    unfold G_laws_heldDesk at h
    split at h
    · obtain ⟨r, hr, h⟩ := Option.bind_eq_some_iff.1 h
      injection h with h
      subst h
      have hn := (u_laws_heldDesk 0 _ _ _ _ _ _ _).trans hr
      rw [runFn_bind (K := un_laws_heldDesk) (K' := some) (f := un_laws_heldDesk) n_laws_heldDesk (fun _ => rfl)] at hn
      obtain ⟨o, h1, h2⟩ := Option.bind_eq_some_iff.1 hn
      rw [un_laws_heldDesk_ok h2] at h1
      exact ⟨0, h1⟩
    · cases h
/-! f3 loop.example.g01239.laws.FnExactFirstDesk -/
noncomputable def b_laws_FnExactFirstDesk : Code := Try.f3.body.getD .skip
def kp_laws_FnExactFirstDesk : Nat → Option Keep := lk []
def O_laws_FnExactFirstDesk : List (FuncId × Ora) := [(13, o_spec_FirstDesk), (14, o_impl_FirstDesk), (15, o_laws_eqDesk), (16, o_laws_markDesk), (17, o_laws_heldDesk)]
def E_laws_FnExactFirstDesk : Env := ⟨lk O_laws_FnExactFirstDesk, fun _ => false⟩
def S_laws_FnExactFirstDesk_e {ρ : Type}    (K : Bool → Option ρ) : Option ρ :=
  ((sh_spec_FirstDesk).bind fun r1 => ((sh_impl_FirstDesk).bind fun r2 => ((sh_laws_eqDesk r2.1 r2.2.1 r2.2.2.1 r2.2.2.2.1 r2.2.2.2.2.1 r2.2.2.2.2.2 r1.1 r1.2.1 r1.2.2.1 r1.2.2.2.1 r1.2.2.2.2.1 r1.2.2.2.2.2).bind fun r3 => (bif !r3 then K false else ((sh_laws_markDesk r2.1 r2.2.1 r2.2.2.1 r2.2.2.2.1 r2.2.2.2.2.1 r2.2.2.2.2.2 (1 : Int)).bind fun r4 => ((sh_laws_heldDesk r2.1 r2.2.1 r4.2.2.2.1 r2.2.2.2.1 r2.2.2.2.2.1 r4.2.2.2.2.2.2 (1 : Int)).bind fun r5 => (bif decide (r5 < (0 : Int)) then K false else (bif !decide (r5 = r4.1) then K false else ((sh_impl_FirstDesk).bind fun r6 => ((sh_laws_eqDesk r6.1 r6.2.1 r6.2.2.1 r6.2.2.2.1 r6.2.2.2.2.1 r6.2.2.2.2.2 r1.1 r1.2.1 r1.2.2.1 r1.2.2.2.1 r1.2.2.2.2.1 r1.2.2.2.2.2).bind fun r7 => (bif !r7 then K false else ((sh_laws_heldDesk r2.1 r2.2.1 r4.2.2.2.1 r2.2.2.2.1 r2.2.2.2.2.1 r4.2.2.2.2.2.2 (1 : Int)).bind fun r8 => (bif decide (r8 < (0 : Int)) then K false else (bif !decide (r8 = r4.1) then K false else K true))))))))))))))
theorem s_laws_FnExactFirstDesk_e {ρ : Type} (fuel : Nat)  (Kk : Out → Option ρ) : runFn TT E_laws_FnExactFirstDesk kp_laws_FnExactFirstDesk fuel [] 0 false [[]] 36 [.tmp 0] b_laws_FnExactFirstDesk [] Kk = S_laws_FnExactFirstDesk_e    (fun r1 => Kk ⟨[.x (.bool r1)], []⟩) := by
  kernel_rfl
def F_laws_FnExactFirstDesk {ρ : Type} (fuel : Nat)   (K : Bool → Option ρ) : Option ρ := S_laws_FnExactFirstDesk_e    K
theorem f_laws_FnExactFirstDesk {ρ : Type} (fuel : Nat)  (Kk : Out → Option ρ) : runFn TT E_laws_FnExactFirstDesk kp_laws_FnExactFirstDesk fuel [] 0 false [[]] 36 [.tmp 0] b_laws_FnExactFirstDesk [] Kk = F_laws_FnExactFirstDesk fuel  (fun r1 => Kk ⟨[.x (.bool r1)], []⟩) := by
  rw [s_laws_FnExactFirstDesk_e, F_laws_FnExactFirstDesk]
noncomputable def sh_laws_FnExactFirstDesk  : Option (Bool) := F_laws_FnExactFirstDesk 0  (fun r1 => some r1)
noncomputable def G_laws_FnExactFirstDesk {ρ : Type} : List DU → (Out → Option ρ) → Option ρ
  | [], K => (sh_laws_FnExactFirstDesk ).bind fun r => K ⟨[.x (.bool r)], []⟩
  | _, _ => none
noncomputable def o_laws_FnExactFirstDesk : Ora := ⟨[], 0, false, G_laws_FnExactFirstDesk⟩
def un_laws_FnExactFirstDesk : Out → Option (Bool)
  | ⟨[.x (.bool r1)], []⟩ => some r1
  | _ => none
theorem un_laws_FnExactFirstDesk_ok {o : Out} {r : Bool} (h : un_laws_FnExactFirstDesk o = some r) : o = ⟨[.x (.bool r)], []⟩ := by
  unfold un_laws_FnExactFirstDesk at h
  split at h
  · injection h with h
    subst h
    rfl
  · cases h
theorem n_laws_FnExactFirstDesk : ∀ k o, E_laws_FnExactFirstDesk.fn k = some o → Nat1 o := fun k o h => (ook_list (P := Try.prog) (l := O_laws_FnExactFirstDesk) (fk := E_laws_FnExactFirstDesk.fk) (List.forall_mem_cons.2 ⟨m_spec_FirstDesk, (List.forall_mem_cons.2 ⟨m_impl_FirstDesk, (List.forall_mem_cons.2 ⟨m_laws_eqDesk, (List.forall_mem_cons.2 ⟨m_laws_markDesk, (List.forall_mem_cons.2 ⟨m_laws_heldDesk, (List.forall_mem_nil _)⟩)⟩)⟩)⟩)⟩)).nat k o h
theorem u_laws_FnExactFirstDesk (fuel : Nat)  : runFn TT E_laws_FnExactFirstDesk kp_laws_FnExactFirstDesk fuel [] 0 false [[]] 36 [.tmp 0] b_laws_FnExactFirstDesk [] un_laws_FnExactFirstDesk = F_laws_FnExactFirstDesk fuel  (fun r1 => some r1) := f_laws_FnExactFirstDesk fuel  un_laws_FnExactFirstDesk
theorem m_laws_FnExactFirstDesk : MeetsO Try.prog 3 o_laws_FnExactFirstDesk := by
  refine ⟨fun ρ ds K => ?_, ⟨_, meets_run (kp := kp_laws_FnExactFirstDesk) (weak := false) (df := [[]]) tsOk (ook_list (l := O_laws_FnExactFirstDesk) (fk := E_laws_FnExactFirstDesk.fk) (List.forall_mem_cons.2 ⟨m_spec_FirstDesk, (List.forall_mem_cons.2 ⟨m_impl_FirstDesk, (List.forall_mem_cons.2 ⟨m_laws_eqDesk, (List.forall_mem_cons.2 ⟨m_laws_markDesk, (List.forall_mem_cons.2 ⟨m_laws_heldDesk, (List.forall_mem_nil _)⟩)⟩)⟩)⟩)⟩)) mixed Try.func3 (body := b_laws_FnExactFirstDesk) (by kernel_rfl) (ntmps := 36) (by kernel_rfl) (rs := [.tmp 0]) (by kernel_rfl), fun ds out h => ?_⟩, ⟨_, Try.func3, by kernel_rfl, by kernel_rfl⟩⟩
  · show G_laws_FnExactFirstDesk ds K = (G_laws_FnExactFirstDesk ds some).bind K
    unfold G_laws_FnExactFirstDesk
    split
    · cases sh_laws_FnExactFirstDesk  <;> rfl
    · rfl
  · replace h : G_laws_FnExactFirstDesk ds some = some out := h
    unfold G_laws_FnExactFirstDesk at h
    split at h
    · obtain ⟨r, hr, h⟩ := Option.bind_eq_some_iff.1 h
      injection h with h
      subst h
      have hn := (u_laws_FnExactFirstDesk 0 ).trans hr
      rw [runFn_bind (K := un_laws_FnExactFirstDesk) (K' := some) (f := un_laws_FnExactFirstDesk) n_laws_FnExactFirstDesk (fun _ => rfl)] at hn
      obtain ⟨o, h1, h2⟩ := Option.bind_eq_some_iff.1 hn
      rw [un_laws_FnExactFirstDesk_ok h2] at h1
      exact ⟨0, h1⟩
    · cases h
end
end Go.Proofs.Ytafdeomdhkmjmaa

/-
  The walks: what each function of the law answers is what the plain function beside it answers.
-/
import Derived.Test.YtafdeomdhkmjmaaIsSolutionVa
set_option linter.unusedVariables false
set_option linter.unusedSimpArgs false
namespace Go.Proofs.Ytafdeomdhkmjmaa
open Go.BV
noncomputable section

/-! f65 (*loop.example.g01239.impl.graph).isWalk -/
noncomputable def b_impl_graph_isWalk : Code := Try.f65.body.getD .skip
def kp_impl_graph_isWalk (g : Nat) : Nat → Option Keep := lk [(4, ⟨[], [1, 11, 12, 13], [], [], [], g⟩)]
def O_impl_graph_isWalk : List (FuncId × Ora) := [(82, o_slices_Contains_int_int), (88, o_impl_graph_isPath)]
def E_impl_graph_isWalk : Env := ⟨lk O_impl_graph_isWalk, fun _ => false⟩
noncomputable def D_impl_graph_isWalk_0 {ρ : Type} (g fuel : Nat) (p0_0 : Bool) (p0_1 : Int) (p0_2 : Int) (p0_3 : List Int) (p0_4 : Int) (p0_5 : Int) (p0_6 : List Int) (p0_7 : List (List Int)) (p1 : List Int) (n : Nat) (v1 : List Int) (v12 : Int) (v13 : Int) (Kk : Out → Option ρ) : Option ρ :=
  iter (run TT E_impl_graph_isWalk (kp_impl_graph_isWalk g) fuel (cL (cB (cS2 (cS1 (cS2 (cS2 (b_impl_graph_isWalk)))))))) (nrmAt (kp_impl_graph_isWalk g) (firstRid (cL (cB (cS2 (cS1 (cS2 (cS2 (b_impl_graph_isWalk))))))))) n (⟨[uu, .u (.x (.ro (.ints .i64 v1))), uu, uu, uu, uu, uu, uu, uu, uu, uu, .u (.x (.ro (.ints .i64 v1))), .u (.x (.int .i64 v12)), .u (.x (.int .i64 v13)), uu, uu, uu, uu, uu, uu, uu, uu, uu, uu], [], [], []⟩) (blkK 0 (seqK (gateAt (kp_impl_graph_isWalk g) (200000 + firstRid (cS2 (cS2 (cS2 (b_impl_graph_isWalk)))))) (run TT E_impl_graph_isWalk (kp_impl_graph_isWalk g) fuel (cS2 (cS2 (cS2 (b_impl_graph_isWalk))))) (nrmAt (kp_impl_graph_isWalk g) (200000 + firstRid (cS2 (cS2 (cS2 (b_impl_graph_isWalk)))))) (topK TT [.val, .val] false [[]] [.tmp 4] [.x (.rp p0_0 [.int .i64 p0_1, .int .i64 p0_2, .sl (.ints .i64 p0_3), .int .i64 p0_4, .int .i64 p0_5, .sl (.ints .i64 p0_6), .sl (.rows p0_7)]), .x (.sl (.ints .i64 p1))] Kk)))
def S_impl_graph_isWalk_e {ρ : Type} (p0_0 : Bool) (p0_1 : Int) (p0_2 : Int) (p0_3 : List Int) (p0_4 : Int) (p0_5 : Int) (p0_6 : List Int) (p0_7 : List (List Int)) (p1 : List Int)  (k0 : (List Int → Int → Int → Option ρ)) (K : Bool → Option ρ) : Option ρ :=
  ((sh_impl_graph_isPath p0_0 p0_1 p0_2 p0_3 p0_4 p0_5 p0_6 p0_7 p1).bind fun r1 => (bif !r1 then K false else k0 p1 (p1.length : Int) (0 : Int)))
theorem s_impl_graph_isWalk_e {ρ : Type} (g fuel : Nat) (p0_0 : Bool) (p0_1 : Int) (p0_2 : Int) (p0_3 : List Int) (p0_4 : Int) (p0_5 : Int) (p0_6 : List Int) (p0_7 : List (List Int)) (p1 : List Int) (Kk : Out → Option ρ) : runFn TT E_impl_graph_isWalk (kp_impl_graph_isWalk g) fuel [.val, .val] 2 false [[]] 24 [.tmp 4] b_impl_graph_isWalk [.x (.rp p0_0 [.int .i64 p0_1, .int .i64 p0_2, .sl (.ints .i64 p0_3), .int .i64 p0_4, .int .i64 p0_5, .sl (.ints .i64 p0_6), .sl (.rows p0_7)]), .x (.sl (.ints .i64 p1))] Kk = S_impl_graph_isWalk_e p0_0 p0_1 p0_2 p0_3 p0_4 p0_5 p0_6 p0_7 p1  (fun v1 v12 v13 => D_impl_graph_isWalk_0 g fuel p0_0 p0_1 p0_2 p0_3 p0_4 p0_5 p0_6 p0_7 p1 fuel v1 v12 v13 Kk) (fun r1 => Kk ⟨[.x (.bool r1)], []⟩) := by
  kernel_rfl
def S_impl_graph_isWalk_0 {ρ : Type}  (v1 : List Int) (v12 : Int) (v13 : Int) (b0 : (List Int → Int → Int → Option ρ)) (K : Bool → Option ρ) : Option ρ :=
  (bif decide (v13 < v12) then (if 0 ≤ v13 then (if v13 < (v1.length : Int) then (if 0 ≤ v13 then (if v13 ≤ (v1.length : Int) then ((sh_slices_Contains_int_int ((v1.take v13.toNat).drop 0) (v1.getD v13.toNat 0)).bind fun r1 => (bif r1 then K false else b0 v1 v12 (IntKind.i64.wrap (v13 + (1 : Int))))) else none) else none) else none) else none) else K true)
theorem s_impl_graph_isWalk_0 {ρ : Type} (g fuel : Nat) (p0_0 : Bool) (p0_1 : Int) (p0_2 : Int) (p0_3 : List Int) (p0_4 : Int) (p0_5 : Int) (p0_6 : List Int) (p0_7 : List (List Int)) (p1 : List Int) (n : Nat) (v1 : List Int) (v12 : Int) (v13 : Int) (Kk : Out → Option ρ) : D_impl_graph_isWalk_0 g fuel p0_0 p0_1 p0_2 p0_3 p0_4 p0_5 p0_6 p0_7 p1  (n + 1) v1 v12 v13 Kk = S_impl_graph_isWalk_0  v1 v12 v13 (fun v1 v12 v13 => D_impl_graph_isWalk_0 g fuel p0_0 p0_1 p0_2 p0_3 p0_4 p0_5 p0_6 p0_7 p1 n v1 v12 v13 Kk) (fun r1 => Kk ⟨[.x (.bool r1)], []⟩) := by
  kernel_rfl
def F_impl_graph_isWalk_0 {ρ : Type} (fuel : Nat)   (K : Bool → Option ρ) : Nat → List Int → Int → Int → Option ρ
  | 0, _, _, _ => none
  | n + 1, v1, v12, v13 => S_impl_graph_isWalk_0  v1 v12 v13 (F_impl_graph_isWalk_0 fuel   K n) K
theorem f_impl_graph_isWalk_0 {ρ : Type} (fuel : Nat) (p0_0 : Bool) (p0_1 : Int) (p0_2 : Int) (p0_3 : List Int) (p0_4 : Int) (p0_5 : Int) (p0_6 : List Int) (p0_7 : List (List Int)) (p1 : List Int) (Kk : Out → Option ρ) : ∀ (n : Nat) (v1 : List Int) (v12 : Int) (v13 : Int), D_impl_graph_isWalk_0 1 fuel p0_0 p0_1 p0_2 p0_3 p0_4 p0_5 p0_6 p0_7 p1  n v1 v12 v13 Kk = F_impl_graph_isWalk_0 fuel   (fun r1 => Kk ⟨[.x (.bool r1)], []⟩) n v1 v12 v13 := by
  intro n
  induction n with
  | zero => intros; rfl
  | succ n ih =>
    intro v1 v12 v13
    rw [s_impl_graph_isWalk_0, F_impl_graph_isWalk_0]
    try simp only [ih]
def F_impl_graph_isWalk {ρ : Type} (fuel : Nat) (p0_0 : Bool) (p0_1 : Int) (p0_2 : Int) (p0_3 : List Int) (p0_4 : Int) (p0_5 : Int) (p0_6 : List Int) (p0_7 : List (List Int)) (p1 : List Int)  (K : Bool → Option ρ) : Option ρ := S_impl_graph_isWalk_e p0_0 p0_1 p0_2 p0_3 p0_4 p0_5 p0_6 p0_7 p1  (F_impl_graph_isWalk_0 fuel   K fuel) K
theorem f_impl_graph_isWalk {ρ : Type} (fuel : Nat) (p0_0 : Bool) (p0_1 : Int) (p0_2 : Int) (p0_3 : List Int) (p0_4 : Int) (p0_5 : Int) (p0_6 : List Int) (p0_7 : List (List Int)) (p1 : List Int) (Kk : Out → Option ρ) : runFn TT E_impl_graph_isWalk (kp_impl_graph_isWalk 1) fuel [.val, .val] 2 false [[]] 24 [.tmp 4] b_impl_graph_isWalk [.x (.rp p0_0 [.int .i64 p0_1, .int .i64 p0_2, .sl (.ints .i64 p0_3), .int .i64 p0_4, .int .i64 p0_5, .sl (.ints .i64 p0_6), .sl (.rows p0_7)]), .x (.sl (.ints .i64 p1))] Kk = F_impl_graph_isWalk fuel p0_0 p0_1 p0_2 p0_3 p0_4 p0_5 p0_6 p0_7 p1 (fun r1 => Kk ⟨[.x (.bool r1)], []⟩) := by
  rw [s_impl_graph_isWalk_e, F_impl_graph_isWalk]
  try simp only [f_impl_graph_isWalk_0]
noncomputable def sh_impl_graph_isWalk (p0_0 : Bool) (p0_1 : Int) (p0_2 : Int) (p0_3 : List Int) (p0_4 : Int) (p0_5 : Int) (p0_6 : List Int) (p0_7 : List (List Int)) (p1 : List Int) : Option (Bool) := val fun n => F_impl_graph_isWalk n p0_0 p0_1 p0_2 p0_3 p0_4 p0_5 p0_6 p0_7 p1 (fun r1 => some r1)
noncomputable def G_impl_graph_isWalk {ρ : Type} : List DU → (Out → Option ρ) → Option ρ
  | [.x (.rp p0_0 [.int .i64 p0_1, .int .i64 p0_2, .sl (.ints .i64 p0_3), .int .i64 p0_4, .int .i64 p0_5, .sl (.ints .i64 p0_6), .sl (.rows p0_7)]), .x (.sl (.ints .i64 p1))], K => (sh_impl_graph_isWalk p0_0 p0_1 p0_2 p0_3 p0_4 p0_5 p0_6 p0_7 p1).bind fun r => K ⟨[.x (.bool r)], []⟩
  | _, _ => none
noncomputable def o_impl_graph_isWalk : Ora := ⟨[.val, .val], 2, false, G_impl_graph_isWalk⟩
def un_impl_graph_isWalk : Out → Option (Bool)
  | ⟨[.x (.bool r1)], []⟩ => some r1
  | _ => none
theorem un_impl_graph_isWalk_ok {o : Out} {r : Bool} (h : un_impl_graph_isWalk o = some r) : o = ⟨[.x (.bool r)], []⟩ := by
  unfold un_impl_graph_isWalk at h
  split at h
  · injection h with h
    subst h
    rfl
  · cases h
theorem n_impl_graph_isWalk : ∀ k o, E_impl_graph_isWalk.fn k = some o → Nat1 o := fun k o h => (ook_list (P := Try.prog) (l := O_impl_graph_isWalk) (fk := E_impl_graph_isWalk.fk) (List.forall_mem_cons.2 ⟨m_slices_Contains_int_int, (List.forall_mem_cons.2 ⟨m_impl_graph_isPath, (List.forall_mem_nil _)⟩)⟩)).nat k o h
theorem u_impl_graph_isWalk (fuel : Nat) (p0_0 : Bool) (p0_1 : Int) (p0_2 : Int) (p0_3 : List Int) (p0_4 : Int) (p0_5 : Int) (p0_6 : List Int) (p0_7 : List (List Int)) (p1 : List Int) : runFn TT E_impl_graph_isWalk (kp_impl_graph_isWalk 1) fuel [.val, .val] 2 false [[]] 24 [.tmp 4] b_impl_graph_isWalk [.x (.rp p0_0 [.int .i64 p0_1, .int .i64 p0_2, .sl (.ints .i64 p0_3), .int .i64 p0_4, .int .i64 p0_5, .sl (.ints .i64 p0_6), .sl (.rows p0_7)]), .x (.sl (.ints .i64 p1))] un_impl_graph_isWalk = F_impl_graph_isWalk fuel p0_0 p0_1 p0_2 p0_3 p0_4 p0_5 p0_6 p0_7 p1 (fun r1 => some r1) := f_impl_graph_isWalk fuel p0_0 p0_1 p0_2 p0_3 p0_4 p0_5 p0_6 p0_7 p1 un_impl_graph_isWalk
theorem sh_impl_graph_isWalk_of {n : Nat} {p0_0 : Bool} {p0_1 : Int} {p0_2 : Int} {p0_3 : List Int} {p0_4 : Int} {p0_5 : Int} {p0_6 : List Int} {p0_7 : List (List Int)} {p1 : List Int} {r : Bool} (h : F_impl_graph_isWalk n p0_0 p0_1 p0_2 p0_3 p0_4 p0_5 p0_6 p0_7 p1 (fun r1 => some r1) = some r) : sh_impl_graph_isWalk p0_0 p0_1 p0_2 p0_3 p0_4 p0_5 p0_6 p0_7 p1 = some r := val_of (fun n m r hm h => by rw [← u_impl_graph_isWalk] at h ⊢; exact runFn_mono n_impl_graph_isWalk hm h) h
theorem m_impl_graph_isWalk : MeetsO Try.prog 65 o_impl_graph_isWalk := by
  refine ⟨fun ρ ds K => ?_, ⟨_, meets_run (kp := kp_impl_graph_isWalk 1) (weak := false) (df := [[]]) tsOk (ook_list (l := O_impl_graph_isWalk) (fk := E_impl_graph_isWalk.fk) (List.forall_mem_cons.2 ⟨m_slices_Contains_int_int, (List.forall_mem_cons.2 ⟨m_impl_graph_isPath, (List.forall_mem_nil _)⟩)⟩)) mixed Try.func65 (body := b_impl_graph_isWalk) (by kernel_rfl) (ntmps := 24) (by kernel_rfl) (rs := [.tmp 4]) (by kernel_rfl), fun ds out h => ?_⟩, ⟨_, Try.func65, by kernel_rfl, by kernel_rfl⟩⟩
  · show G_impl_graph_isWalk ds K = (G_impl_graph_isWalk ds some).bind K
    unfold G_impl_graph_isWalk
    split
    · cases sh_impl_graph_isWalk _ _ _ _ _ _ _ _ _ <;> rfl
    · rfl
  · replace h : G_impl_graph_isWalk ds some = some out := h
    unfold G_impl_graph_isWalk at h
    split at h
    · obtain ⟨r, hr, h⟩ := Option.bind_eq_some_iff.1 h
      injection h with h
      subst h
      obtain ⟨n, hn⟩ := val_some hr
      replace hn := (u_impl_graph_isWalk n _ _ _ _ _ _ _ _ _).trans hn
      rw [runFn_bind (K := un_impl_graph_isWalk) (K' := some) (f := un_impl_graph_isWalk) n_impl_graph_isWalk (fun _ => rfl)] at hn
      obtain ⟨o, h1, h2⟩ := Option.bind_eq_some_iff.1 hn
      rw [un_impl_graph_isWalk_ok h2] at h1
      exact ⟨n, h1⟩
    · cases h
/-! f72 (*loop.example.g01239.impl.graph).isTour -/
noncomputable def b_impl_graph_isTour : Code := Try.f72.body.getD .skip
def kp_impl_graph_isTour (g : Nat) : Nat → Option Keep := lk []
def O_impl_graph_isTour : List (FuncId × Ora) := [(65, o_impl_graph_isWalk)]
def E_impl_graph_isTour : Env := ⟨lk O_impl_graph_isTour, fun _ => false⟩
def S_impl_graph_isTour_e {ρ : Type} (p0_0 : Bool) (p0_1 : Int) (p0_2 : Int) (p0_3 : List Int) (p0_4 : Int) (p0_5 : Int) (p0_6 : List Int) (p0_7 : List (List Int)) (p1 : List Int)   (K : Bool → Option ρ) : Option ρ :=
  ((sh_impl_graph_isWalk p0_0 p0_1 p0_2 p0_3 p0_4 p0_5 p0_6 p0_7 p1).bind fun r1 => (bif r1 then (bif p0_0 then K (decide ((p1.length : Int) = (p0_6.length : Int))) else none) else K false))
theorem s_impl_graph_isTour_e {ρ : Type} (g fuel : Nat) (p0_0 : Bool) (p0_1 : Int) (p0_2 : Int) (p0_3 : List Int) (p0_4 : Int) (p0_5 : Int) (p0_6 : List Int) (p0_7 : List (List Int)) (p1 : List Int) (Kk : Out → Option ρ) : runFn TT E_impl_graph_isTour (kp_impl_graph_isTour g) fuel [.val, .val] 2 false [[]] 18 [.tmp 4] b_impl_graph_isTour [.x (.rp p0_0 [.int .i64 p0_1, .int .i64 p0_2, .sl (.ints .i64 p0_3), .int .i64 p0_4, .int .i64 p0_5, .sl (.ints .i64 p0_6), .sl (.rows p0_7)]), .x (.sl (.ints .i64 p1))] Kk = S_impl_graph_isTour_e p0_0 p0_1 p0_2 p0_3 p0_4 p0_5 p0_6 p0_7 p1   (fun r1 => Kk ⟨[.x (.bool r1)], []⟩) := by
  kernel_rfl
def F_impl_graph_isTour {ρ : Type} (fuel : Nat) (p0_0 : Bool) (p0_1 : Int) (p0_2 : Int) (p0_3 : List Int) (p0_4 : Int) (p0_5 : Int) (p0_6 : List Int) (p0_7 : List (List Int)) (p1 : List Int)  (K : Bool → Option ρ) : Option ρ := S_impl_graph_isTour_e p0_0 p0_1 p0_2 p0_3 p0_4 p0_5 p0_6 p0_7 p1   K
theorem f_impl_graph_isTour {ρ : Type} (fuel : Nat) (p0_0 : Bool) (p0_1 : Int) (p0_2 : Int) (p0_3 : List Int) (p0_4 : Int) (p0_5 : Int) (p0_6 : List Int) (p0_7 : List (List Int)) (p1 : List Int) (Kk : Out → Option ρ) : runFn TT E_impl_graph_isTour (kp_impl_graph_isTour 1) fuel [.val, .val] 2 false [[]] 18 [.tmp 4] b_impl_graph_isTour [.x (.rp p0_0 [.int .i64 p0_1, .int .i64 p0_2, .sl (.ints .i64 p0_3), .int .i64 p0_4, .int .i64 p0_5, .sl (.ints .i64 p0_6), .sl (.rows p0_7)]), .x (.sl (.ints .i64 p1))] Kk = F_impl_graph_isTour fuel p0_0 p0_1 p0_2 p0_3 p0_4 p0_5 p0_6 p0_7 p1 (fun r1 => Kk ⟨[.x (.bool r1)], []⟩) := by
  rw [s_impl_graph_isTour_e, F_impl_graph_isTour]
noncomputable def sh_impl_graph_isTour (p0_0 : Bool) (p0_1 : Int) (p0_2 : Int) (p0_3 : List Int) (p0_4 : Int) (p0_5 : Int) (p0_6 : List Int) (p0_7 : List (List Int)) (p1 : List Int) : Option (Bool) := F_impl_graph_isTour 0 p0_0 p0_1 p0_2 p0_3 p0_4 p0_5 p0_6 p0_7 p1 (fun r1 => some r1)
noncomputable def G_impl_graph_isTour {ρ : Type} : List DU → (Out → Option ρ) → Option ρ
  | [.x (.rp p0_0 [.int .i64 p0_1, .int .i64 p0_2, .sl (.ints .i64 p0_3), .int .i64 p0_4, .int .i64 p0_5, .sl (.ints .i64 p0_6), .sl (.rows p0_7)]), .x (.sl (.ints .i64 p1))], K => (sh_impl_graph_isTour p0_0 p0_1 p0_2 p0_3 p0_4 p0_5 p0_6 p0_7 p1).bind fun r => K ⟨[.x (.bool r)], []⟩
  | _, _ => none
noncomputable def o_impl_graph_isTour : Ora := ⟨[.val, .val], 2, false, G_impl_graph_isTour⟩
def un_impl_graph_isTour : Out → Option (Bool)
  | ⟨[.x (.bool r1)], []⟩ => some r1
  | _ => none
theorem un_impl_graph_isTour_ok {o : Out} {r : Bool} (h : un_impl_graph_isTour o = some r) : o = ⟨[.x (.bool r)], []⟩ := by
  unfold un_impl_graph_isTour at h
  split at h
  · injection h with h
    subst h
    rfl
  · cases h
theorem n_impl_graph_isTour : ∀ k o, E_impl_graph_isTour.fn k = some o → Nat1 o := fun k o h => (ook_list (P := Try.prog) (l := O_impl_graph_isTour) (fk := E_impl_graph_isTour.fk) (List.forall_mem_cons.2 ⟨m_impl_graph_isWalk, (List.forall_mem_nil _)⟩)).nat k o h
theorem u_impl_graph_isTour (fuel : Nat) (p0_0 : Bool) (p0_1 : Int) (p0_2 : Int) (p0_3 : List Int) (p0_4 : Int) (p0_5 : Int) (p0_6 : List Int) (p0_7 : List (List Int)) (p1 : List Int) : runFn TT E_impl_graph_isTour (kp_impl_graph_isTour 1) fuel [.val, .val] 2 false [[]] 18 [.tmp 4] b_impl_graph_isTour [.x (.rp p0_0 [.int .i64 p0_1, .int .i64 p0_2, .sl (.ints .i64 p0_3), .int .i64 p0_4, .int .i64 p0_5, .sl (.ints .i64 p0_6), .sl (.rows p0_7)]), .x (.sl (.ints .i64 p1))] un_impl_graph_isTour = F_impl_graph_isTour fuel p0_0 p0_1 p0_2 p0_3 p0_4 p0_5 p0_6 p0_7 p1 (fun r1 => some r1) := f_impl_graph_isTour fuel p0_0 p0_1 p0_2 p0_3 p0_4 p0_5 p0_6 p0_7 p1 un_impl_graph_isTour
theorem m_impl_graph_isTour : MeetsO Try.prog 72 o_impl_graph_isTour := by
  refine ⟨fun ρ ds K => ?_, ⟨_, meets_run (kp := kp_impl_graph_isTour 1) (weak := false) (df := [[]]) tsOk (ook_list (l := O_impl_graph_isTour) (fk := E_impl_graph_isTour.fk) (List.forall_mem_cons.2 ⟨m_impl_graph_isWalk, (List.forall_mem_nil _)⟩)) mixed Try.func72 (body := b_impl_graph_isTour) (by kernel_rfl) (ntmps := 18) (by kernel_rfl) (rs := [.tmp 4]) (by kernel_rfl), fun ds out h => ?_⟩, ⟨_, Try.func72, by kernel_rfl, by kernel_rfl⟩⟩
  · show G_impl_graph_isTour ds K = (G_impl_graph_isTour ds some).bind K
    unfold G_impl_graph_isTour
    split
    · cases sh_impl_graph_isTour _ _ _ _ _ _ _ _ _ <;> rfl
    · rfl
  · replace h : G_impl_graph_isTour ds some = some out := h
    unfold G_impl_graph_isTour at h
    split at h
    · obtain ⟨r, hr, h⟩ := Option.bind_eq_some_iff.1 h
      injection h with h
      subst h
      have hn := (u_impl_graph_isTour 0 _ _ _ _ _ _ _ _ _).trans hr
      rw [runFn_bind (K := un_impl_graph_isTour) (K' := some) (f := un_impl_graph_isTour) n_impl_graph_isTour (fun _ => rfl)] at hn
      obtain ⟨o, h1, h2⟩ := Option.bind_eq_some_iff.1 hn
      rw [un_impl_graph_isTour_ok h2] at h1
      exact ⟨0, h1⟩
    · cases h
/-! f73 (loop.example.g01239.impl.Puzzle).fits -/
noncomputable def b_impl_Puzzle_fits : Code := Try.f73.body.getD .skip
def kp_impl_Puzzle_fits (g : Nat) : Nat → Option Keep := lk [(2, ⟨[], [2, 8, 9, 10], [4096], [], [], g⟩)]
def O_impl_Puzzle_fits : List (FuncId × Ora) := []
def E_impl_Puzzle_fits : Env := ⟨lk O_impl_Puzzle_fits, fun _ => false⟩
noncomputable def D_impl_Puzzle_fits_0 {ρ : Type} (g fuel : Nat) (p0_0 : Int) (p0_1 : Int) (p0_2 : List Int) (p0_3 : Int) (p0_4 : Int) (p0_5 : List Int) (p1 : List Int) (n : Nat) (v8 : List Int) (v9 : Int) (v10 : Int) (c4096_0 : Int) (c4096_1 : Int) (c4096_2 : List Int) (c4096_3 : Int) (c4096_4 : Int) (c4096_5 : List Int) (Kk : Out → Option ρ) : Option ρ :=
  iter (run TT E_impl_Puzzle_fits (kp_impl_Puzzle_fits g) fuel (cL (cB (cS2 (cS1 (cS2 (b_impl_Puzzle_fits))))))) (nrmAt (kp_impl_Puzzle_fits g) (firstRid (cL (cB (cS2 (cS1 (cS2 (b_impl_Puzzle_fits)))))))) n (⟨[uu, uu, .u (.x (.ptr 4096 0)), uu, uu, uu, uu, uu, .u (.x (.ro (.ints .i64 v8))), .u (.x (.int .i64 v9)), .u (.x (.int .i64 v10)), uu, uu, uu, uu, uu, uu, uu, uu, uu, uu, uu, uu, uu, uu, uu, uu, uu, uu], [(4096, [.int .i64 c4096_0, .int .i64 c4096_1, .ro (.ints .i64 c4096_2), .int .i64 c4096_3, .int .i64 c4096_4, .ro (.ints .i64 c4096_5)])], [], []⟩) (blkK 0 (seqK (gateAt (kp_impl_Puzzle_fits g) (200000 + firstRid (cS2 (cS2 (b_impl_Puzzle_fits))))) (run TT E_impl_Puzzle_fits (kp_impl_Puzzle_fits g) fuel (cS2 (cS2 (b_impl_Puzzle_fits)))) (nrmAt (kp_impl_Puzzle_fits g) (200000 + firstRid (cS2 (cS2 (b_impl_Puzzle_fits))))) (topK TT [.val, .val] false [[]] [.tmp 4] [.agg [.int .i64 p0_0, .int .i64 p0_1, .sl (.ints .i64 p0_2), .int .i64 p0_3, .int .i64 p0_4, .sl (.ints .i64 p0_5)], .x (.sl (.ints .i64 p1))] Kk)))
def S_impl_Puzzle_fits_e {ρ : Type} (p0_0 : Int) (p0_1 : Int) (p0_2 : List Int) (p0_3 : Int) (p0_4 : Int) (p0_5 : List Int) (p1 : List Int)  (k0 : (List Int → Int → Int → Int → Int → List Int → Int → Int → List Int → Option ρ)) : Option ρ :=
  k0 p1 (p1.length : Int) (0 : Int) p0_0 p0_1 p0_2 p0_3 p0_4 p0_5
theorem s_impl_Puzzle_fits_e {ρ : Type} (g fuel : Nat) (p0_0 : Int) (p0_1 : Int) (p0_2 : List Int) (p0_3 : Int) (p0_4 : Int) (p0_5 : List Int) (p1 : List Int) (Kk : Out → Option ρ) : runFn TT E_impl_Puzzle_fits (kp_impl_Puzzle_fits g) fuel [.val, .val] 2 false [[]] 29 [.tmp 4] b_impl_Puzzle_fits [.agg [.int .i64 p0_0, .int .i64 p0_1, .sl (.ints .i64 p0_2), .int .i64 p0_3, .int .i64 p0_4, .sl (.ints .i64 p0_5)], .x (.sl (.ints .i64 p1))] Kk = S_impl_Puzzle_fits_e p0_0 p0_1 p0_2 p0_3 p0_4 p0_5 p1  (fun v8 v9 v10 c4096_0 c4096_1 c4096_2 c4096_3 c4096_4 c4096_5 => D_impl_Puzzle_fits_0 g fuel p0_0 p0_1 p0_2 p0_3 p0_4 p0_5 p1 fuel v8 v9 v10 c4096_0 c4096_1 c4096_2 c4096_3 c4096_4 c4096_5 Kk) := by
  kernel_rfl
def S_impl_Puzzle_fits_0 {ρ : Type}  (v8 : List Int) (v9 : Int) (v10 : Int) (c4096_0 : Int) (c4096_1 : Int) (c4096_2 : List Int) (c4096_3 : Int) (c4096_4 : Int) (c4096_5 : List Int) (b0 : (List Int → Int → Int → Int → Int → List Int → Int → Int → List Int → Option ρ)) (K : Bool → Option ρ) : Option ρ :=
  (bif decide (v10 < v9) then (if 0 ≤ v10 then (if v10 < (v8.length : Int) then (if 0 ≤ (v8.getD v10.toNat 0) then (if (v8.getD v10.toNat 0) < (c4096_5.length : Int) then (bif !decide ((c4096_5.getD ((v8.getD v10.toNat 0).toNat) 0) = (0 : Int)) then (bif !decide ((c4096_5.getD ((v8.getD v10.toNat 0).toNat) 0) = (IntKind.i64.wrap (v10 + (1 : Int)))) then K false else b0 v8 v9 (IntKind.i64.wrap (v10 + (1 : Int))) c4096_0 c4096_1 c4096_2 c4096_3 c4096_4 c4096_5) else b0 v8 v9 (IntKind.i64.wrap (v10 + (1 : Int))) c4096_0 c4096_1 c4096_2 c4096_3 c4096_4 c4096_5) else none) else none) else none) else none) else K true)
theorem s_impl_Puzzle_fits_0 {ρ : Type} (g fuel : Nat) (p0_0 : Int) (p0_1 : Int) (p0_2 : List Int) (p0_3 : Int) (p0_4 : Int) (p0_5 : List Int) (p1 : List Int) (n : Nat) (v8 : List Int) (v9 : Int) (v10 : Int) (c4096_0 : Int) (c4096_1 : Int) (c4096_2 : List Int) (c4096_3 : Int) (c4096_4 : Int) (c4096_5 : List Int) (Kk : Out → Option ρ) : D_impl_Puzzle_fits_0 g fuel p0_0 p0_1 p0_2 p0_3 p0_4 p0_5 p1  (n + 1) v8 v9 v10 c4096_0 c4096_1 c4096_2 c4096_3 c4096_4 c4096_5 Kk = S_impl_Puzzle_fits_0  v8 v9 v10 c4096_0 c4096_1 c4096_2 c4096_3 c4096_4 c4096_5 (fun v8 v9 v10 c4096_0 c4096_1 c4096_2 c4096_3 c4096_4 c4096_5 => D_impl_Puzzle_fits_0 g fuel p0_0 p0_1 p0_2 p0_3 p0_4 p0_5 p1 n v8 v9 v10 c4096_0 c4096_1 c4096_2 c4096_3 c4096_4 c4096_5 Kk) (fun r1 => Kk ⟨[.x (.bool r1)], []⟩) := by
  kernel_rfl
def F_impl_Puzzle_fits_0 {ρ : Type} (fuel : Nat)   (K : Bool → Option ρ) : Nat → List Int → Int → Int → Int → Int → List Int → Int → Int → List Int → Option ρ
  | 0, _, _, _, _, _, _, _, _, _ => none
  | n + 1, v8, v9, v10, c4096_0, c4096_1, c4096_2, c4096_3, c4096_4, c4096_5 => S_impl_Puzzle_fits_0  v8 v9 v10 c4096_0 c4096_1 c4096_2 c4096_3 c4096_4 c4096_5 (F_impl_Puzzle_fits_0 fuel   K n) K
theorem f_impl_Puzzle_fits_0 {ρ : Type} (fuel : Nat) (p0_0 : Int) (p0_1 : Int) (p0_2 : List Int) (p0_3 : Int) (p0_4 : Int) (p0_5 : List Int) (p1 : List Int) (Kk : Out → Option ρ) : ∀ (n : Nat) (v8 : List Int) (v9 : Int) (v10 : Int) (c4096_0 : Int) (c4096_1 : Int) (c4096_2 : List Int) (c4096_3 : Int) (c4096_4 : Int) (c4096_5 : List Int), D_impl_Puzzle_fits_0 1 fuel p0_0 p0_1 p0_2 p0_3 p0_4 p0_5 p1  n v8 v9 v10 c4096_0 c4096_1 c4096_2 c4096_3 c4096_4 c4096_5 Kk = F_impl_Puzzle_fits_0 fuel   (fun r1 => Kk ⟨[.x (.bool r1)], []⟩) n v8 v9 v10 c4096_0 c4096_1 c4096_2 c4096_3 c4096_4 c4096_5 := by
  intro n
  induction n with
  | zero => intros; rfl
  | succ n ih =>
    intro v8 v9 v10 c4096_0 c4096_1 c4096_2 c4096_3 c4096_4 c4096_5
    rw [s_impl_Puzzle_fits_0, F_impl_Puzzle_fits_0]
    try simp only [ih]
def F_impl_Puzzle_fits {ρ : Type} (fuel : Nat) (p0_0 : Int) (p0_1 : Int) (p0_2 : List Int) (p0_3 : Int) (p0_4 : Int) (p0_5 : List Int) (p1 : List Int)  (K : Bool → Option ρ) : Option ρ := S_impl_Puzzle_fits_e p0_0 p0_1 p0_2 p0_3 p0_4 p0_5 p1  (F_impl_Puzzle_fits_0 fuel   K fuel)
theorem f_impl_Puzzle_fits {ρ : Type} (fuel : Nat) (p0_0 : Int) (p0_1 : Int) (p0_2 : List Int) (p0_3 : Int) (p0_4 : Int) (p0_5 : List Int) (p1 : List Int) (Kk : Out → Option ρ) : runFn TT E_impl_Puzzle_fits (kp_impl_Puzzle_fits 1) fuel [.val, .val] 2 false [[]] 29 [.tmp 4] b_impl_Puzzle_fits [.agg [.int .i64 p0_0, .int .i64 p0_1, .sl (.ints .i64 p0_2), .int .i64 p0_3, .int .i64 p0_4, .sl (.ints .i64 p0_5)], .x (.sl (.ints .i64 p1))] Kk = F_impl_Puzzle_fits fuel p0_0 p0_1 p0_2 p0_3 p0_4 p0_5 p1 (fun r1 => Kk ⟨[.x (.bool r1)], []⟩) := by
  rw [s_impl_Puzzle_fits_e, F_impl_Puzzle_fits]
  try simp only [f_impl_Puzzle_fits_0]
noncomputable def sh_impl_Puzzle_fits (p0_0 : Int) (p0_1 : Int) (p0_2 : List Int) (p0_3 : Int) (p0_4 : Int) (p0_5 : List Int) (p1 : List Int) : Option (Bool) := val fun n => F_impl_Puzzle_fits n p0_0 p0_1 p0_2 p0_3 p0_4 p0_5 p1 (fun r1 => some r1)
noncomputable def G_impl_Puzzle_fits {ρ : Type} : List DU → (Out → Option ρ) → Option ρ
  | [.agg [.int .i64 p0_0, .int .i64 p0_1, .sl (.ints .i64 p0_2), .int .i64 p0_3, .int .i64 p0_4, .sl (.ints .i64 p0_5)], .x (.sl (.ints .i64 p1))], K => (sh_impl_Puzzle_fits p0_0 p0_1 p0_2 p0_3 p0_4 p0_5 p1).bind fun r => K ⟨[.x (.bool r)], []⟩
  | _, _ => none
noncomputable def o_impl_Puzzle_fits : Ora := ⟨[.val, .val], 2, false, G_impl_Puzzle_fits⟩
def un_impl_Puzzle_fits : Out → Option (Bool)
  | ⟨[.x (.bool r1)], []⟩ => some r1
  | _ => none
theorem un_impl_Puzzle_fits_ok {o : Out} {r : Bool} (h : un_impl_Puzzle_fits o = some r) : o = ⟨[.x (.bool r)], []⟩ := by
  unfold un_impl_Puzzle_fits at h
  split at h
  · injection h with h
    subst h
    rfl
  · cases h
theorem n_impl_Puzzle_fits : ∀ k o, E_impl_Puzzle_fits.fn k = some o → Nat1 o := fun k o h => (ook_list (P := Try.prog) (l := O_impl_Puzzle_fits) (fk := E_impl_Puzzle_fits.fk) (List.forall_mem_nil _)).nat k o h
theorem u_impl_Puzzle_fits (fuel : Nat) (p0_0 : Int) (p0_1 : Int) (p0_2 : List Int) (p0_3 : Int) (p0_4 : Int) (p0_5 : List Int) (p1 : List Int) : runFn TT E_impl_Puzzle_fits (kp_impl_Puzzle_fits 1) fuel [.val, .val] 2 false [[]] 29 [.tmp 4] b_impl_Puzzle_fits [.agg [.int .i64 p0_0, .int .i64 p0_1, .sl (.ints .i64 p0_2), .int .i64 p0_3, .int .i64 p0_4, .sl (.ints .i64 p0_5)], .x (.sl (.ints .i64 p1))] un_impl_Puzzle_fits = F_impl_Puzzle_fits fuel p0_0 p0_1 p0_2 p0_3 p0_4 p0_5 p1 (fun r1 => some r1) := f_impl_Puzzle_fits fuel p0_0 p0_1 p0_2 p0_3 p0_4 p0_5 p1 un_impl_Puzzle_fits
theorem sh_impl_Puzzle_fits_of {n : Nat} {p0_0 : Int} {p0_1 : Int} {p0_2 : List Int} {p0_3 : Int} {p0_4 : Int} {p0_5 : List Int} {p1 : List Int} {r : Bool} (h : F_impl_Puzzle_fits n p0_0 p0_1 p0_2 p0_3 p0_4 p0_5 p1 (fun r1 => some r1) = some r) : sh_impl_Puzzle_fits p0_0 p0_1 p0_2 p0_3 p0_4 p0_5 p1 = some r := val_of (fun n m r hm h => by rw [← u_impl_Puzzle_fits] at h ⊢; exact runFn_mono n_impl_Puzzle_fits hm h) h
theorem m_impl_Puzzle_fits : MeetsO Try.prog 73 o_impl_Puzzle_fits := by
  refine ⟨fun ρ ds K => ?_, ⟨_, meets_run (kp := kp_impl_Puzzle_fits 1) (weak := false) (df := [[]]) tsOk (ook_list (l := O_impl_Puzzle_fits) (fk := E_impl_Puzzle_fits.fk) (List.forall_mem_nil _)) mixed Try.func73 (body := b_impl_Puzzle_fits) (by kernel_rfl) (ntmps := 29) (by kernel_rfl) (rs := [.tmp 4]) (by kernel_rfl), fun ds out h => ?_⟩, ⟨_, Try.func73, by kernel_rfl, by kernel_rfl⟩⟩
  · show G_impl_Puzzle_fits ds K = (G_impl_Puzzle_fits ds some).bind K
    unfold G_impl_Puzzle_fits
    split
    · cases sh_impl_Puzzle_fits _ _ _ _ _ _ _ <;> rfl
    · rfl
  · replace h : G_impl_Puzzle_fits ds some = some out := h
    unfold G_impl_Puzzle_fits at h
    split at h
    · obtain ⟨r, hr, h⟩ := Option.bind_eq_some_iff.1 h
      injection h with h
      subst h
      obtain ⟨n, hn⟩ := val_some hr
      replace hn := (u_impl_Puzzle_fits n _ _ _ _ _ _ _).trans hn
      rw [runFn_bind (K := un_impl_Puzzle_fits) (K' := some) (f := un_impl_Puzzle_fits) n_impl_Puzzle_fits (fun _ => rfl)] at hn
      obtain ⟨o, h1, h2⟩ := Option.bind_eq_some_iff.1 hn
      rw [un_impl_Puzzle_fits_ok h2] at h1
      exact ⟨n, h1⟩
    · cases h
/-! f41 loop.example.g01239.impl.IsSolution -/
noncomputable def b_impl_IsSolution : Code := Try.f41.body.getD .skip
def kp_impl_IsSolution (g : Nat) : Nat → Option Keep := lk []
def O_impl_IsSolution : List (FuncId × Ora) := [(21, o_impl_IsPuzzle), (64, o_impl_graphOf), (72, o_impl_graph_isTour), (73, o_impl_Puzzle_fits)]
def E_impl_IsSolution : Env := ⟨lk O_impl_IsSolution, fun _ => false⟩
def S_impl_IsSolution_e {ρ : Type} (p0_0 : Int) (p0_1 : Int) (p0_2 : List Int) (p0_3 : Int) (p0_4 : Int) (p0_5 : List Int) (p1 : List Int)   (K : Bool → Bool → Option ρ) : Option ρ :=
  ((sh_impl_IsPuzzle p0_0 p0_1 p0_2 p0_3 p0_4 p0_5).bind fun r1 => (bif !r1 then K false false else ((sh_impl_graphOf p0_0 p0_1 p0_2 p0_3 p0_4).bind fun r2 => ((sh_impl_graph_isTour r2.1 r2.2.1 r2.2.2.1 r2.2.2.2.1 r2.2.2.2.2.1 r2.2.2.2.2.2.1 r2.2.2.2.2.2.2.1 r2.2.2.2.2.2.2.2.1 p1).bind fun r3 => (bif r3 then ((sh_impl_Puzzle_fits p0_0 p0_1 p0_2 p0_3 p0_4 p0_5 p1).bind fun r4 => K r4 true) else K false true)))))
theorem s_impl_IsSolution_e {ρ : Type} (g fuel : Nat) (p0_0 : Int) (p0_1 : Int) (p0_2 : List Int) (p0_3 : Int) (p0_4 : Int) (p0_5 : List Int) (p1 : List Int) (Kk : Out → Option ρ) : runFn TT E_impl_IsSolution (kp_impl_IsSolution g) fuel [.val, .val] 2 false [[], []] 27 [.tmp 4, .tmp 5] b_impl_IsSolution [.agg [.int .i64 p0_0, .int .i64 p0_1, .sl (.ints .i64 p0_2), .int .i64 p0_3, .int .i64 p0_4, .sl (.ints .i64 p0_5)], .x (.sl (.ints .i64 p1))] Kk = S_impl_IsSolution_e p0_0 p0_1 p0_2 p0_3 p0_4 p0_5 p1   (fun r1 r2 => Kk ⟨[.x (.bool r1), .x (.bool r2)], []⟩) := by
  kernel_rfl
def F_impl_IsSolution {ρ : Type} (fuel : Nat) (p0_0 : Int) (p0_1 : Int) (p0_2 : List Int) (p0_3 : Int) (p0_4 : Int) (p0_5 : List Int) (p1 : List Int)  (K : Bool → Bool → Option ρ) : Option ρ := S_impl_IsSolution_e p0_0 p0_1 p0_2 p0_3 p0_4 p0_5 p1   K
theorem f_impl_IsSolution {ρ : Type} (fuel : Nat) (p0_0 : Int) (p0_1 : Int) (p0_2 : List Int) (p0_3 : Int) (p0_4 : Int) (p0_5 : List Int) (p1 : List Int) (Kk : Out → Option ρ) : runFn TT E_impl_IsSolution (kp_impl_IsSolution 1) fuel [.val, .val] 2 false [[], []] 27 [.tmp 4, .tmp 5] b_impl_IsSolution [.agg [.int .i64 p0_0, .int .i64 p0_1, .sl (.ints .i64 p0_2), .int .i64 p0_3, .int .i64 p0_4, .sl (.ints .i64 p0_5)], .x (.sl (.ints .i64 p1))] Kk = F_impl_IsSolution fuel p0_0 p0_1 p0_2 p0_3 p0_4 p0_5 p1 (fun r1 r2 => Kk ⟨[.x (.bool r1), .x (.bool r2)], []⟩) := by
  rw [s_impl_IsSolution_e, F_impl_IsSolution]
noncomputable def sh_impl_IsSolution (p0_0 : Int) (p0_1 : Int) (p0_2 : List Int) (p0_3 : Int) (p0_4 : Int) (p0_5 : List Int) (p1 : List Int) : Option (Bool × Bool) := F_impl_IsSolution 0 p0_0 p0_1 p0_2 p0_3 p0_4 p0_5 p1 (fun r1 r2 => some (r1, r2))
noncomputable def G_impl_IsSolution {ρ : Type} : List DU → (Out → Option ρ) → Option ρ
  | [.agg [.int .i64 p0_0, .int .i64 p0_1, .sl (.ints .i64 p0_2), .int .i64 p0_3, .int .i64 p0_4, .sl (.ints .i64 p0_5)], .x (.sl (.ints .i64 p1))], K => (sh_impl_IsSolution p0_0 p0_1 p0_2 p0_3 p0_4 p0_5 p1).bind fun r => K ⟨[.x (.bool r.1), .x (.bool r.2)], []⟩
  | _, _ => none
noncomputable def o_impl_IsSolution : Ora := ⟨[.val, .val], 2, false, G_impl_IsSolution⟩
def un_impl_IsSolution : Out → Option (Bool × Bool)
  | ⟨[.x (.bool r1), .x (.bool r2)], []⟩ => some (r1, r2)
  | _ => none
theorem un_impl_IsSolution_ok {o : Out} {r : Bool × Bool} (h : un_impl_IsSolution o = some r) : o = ⟨[.x (.bool r.1), .x (.bool r.2)], []⟩ := by
  unfold un_impl_IsSolution at h
  split at h
  · injection h with h
    subst h
    rfl
  · cases h
theorem n_impl_IsSolution : ∀ k o, E_impl_IsSolution.fn k = some o → Nat1 o := fun k o h => (ook_list (P := Try.prog) (l := O_impl_IsSolution) (fk := E_impl_IsSolution.fk) (List.forall_mem_cons.2 ⟨m_impl_IsPuzzle, (List.forall_mem_cons.2 ⟨m_impl_graphOf, (List.forall_mem_cons.2 ⟨m_impl_graph_isTour, (List.forall_mem_cons.2 ⟨m_impl_Puzzle_fits, (List.forall_mem_nil _)⟩)⟩)⟩)⟩)).nat k o h
theorem u_impl_IsSolution (fuel : Nat) (p0_0 : Int) (p0_1 : Int) (p0_2 : List Int) (p0_3 : Int) (p0_4 : Int) (p0_5 : List Int) (p1 : List Int) : runFn TT E_impl_IsSolution (kp_impl_IsSolution 1) fuel [.val, .val] 2 false [[], []] 27 [.tmp 4, .tmp 5] b_impl_IsSolution [.agg [.int .i64 p0_0, .int .i64 p0_1, .sl (.ints .i64 p0_2), .int .i64 p0_3, .int .i64 p0_4, .sl (.ints .i64 p0_5)], .x (.sl (.ints .i64 p1))] un_impl_IsSolution = F_impl_IsSolution fuel p0_0 p0_1 p0_2 p0_3 p0_4 p0_5 p1 (fun r1 r2 => some (r1, r2)) := f_impl_IsSolution fuel p0_0 p0_1 p0_2 p0_3 p0_4 p0_5 p1 un_impl_IsSolution
theorem m_impl_IsSolution : MeetsO Try.prog 41 o_impl_IsSolution := by
  refine ⟨fun ρ ds K => ?_, ⟨_, meets_run (kp := kp_impl_IsSolution 1) (weak := false) (df := [[], []]) tsOk (ook_list (l := O_impl_IsSolution) (fk := E_impl_IsSolution.fk) (List.forall_mem_cons.2 ⟨m_impl_IsPuzzle, (List.forall_mem_cons.2 ⟨m_impl_graphOf, (List.forall_mem_cons.2 ⟨m_impl_graph_isTour, (List.forall_mem_cons.2 ⟨m_impl_Puzzle_fits, (List.forall_mem_nil _)⟩)⟩)⟩)⟩)) mixed Try.func41 (body := b_impl_IsSolution) (by kernel_rfl) (ntmps := 27) (by kernel_rfl) (rs := [.tmp 4, .tmp 5]) (by kernel_rfl), fun ds out h => ?_⟩, ⟨_, Try.func41, by kernel_rfl, by kernel_rfl⟩⟩
  · show G_impl_IsSolution ds K = (G_impl_IsSolution ds some).bind K
    unfold G_impl_IsSolution
    split
    · cases sh_impl_IsSolution _ _ _ _ _ _ _ <;> rfl
    · rfl
  · replace h : G_impl_IsSolution ds some = some out := h
    unfold G_impl_IsSolution at h
    split at h
    · obtain ⟨r, hr, h⟩ := Option.bind_eq_some_iff.1 h
      injection h with h
      subst h
      have hn := (u_impl_IsSolution 0 _ _ _ _ _ _ _).trans hr
      rw [runFn_bind (K := un_impl_IsSolution) (K' := some) (f := un_impl_IsSolution) n_impl_IsSolution (fun _ => rfl)] at hn
      obtain ⟨o, h1, h2⟩ := Option.bind_eq_some_iff.1 hn
      rw [un_impl_IsSolution_ok h2] at h1
      exact ⟨0, h1⟩
    · cases h
/-! f42 loop.example.g01239.laws.eqIntS -/
noncomputable def b_laws_eqIntS : Code := Try.f42.body.getD .skip
def kp_laws_eqIntS (g : Nat) : Nat → Option Keep := lk [(4, ⟨[], [0, 1, 5], [], [], [], g⟩)]
def O_laws_eqIntS : List (FuncId × Ora) := []
def E_laws_eqIntS : Env := ⟨lk O_laws_eqIntS, fun _ => false⟩
noncomputable def D_laws_eqIntS_0 {ρ : Type} (g fuel : Nat) (p0 : List Int) (p1 : List Int) (n : Nat) (v0 : List Int) (v1 : List Int) (v5 : Int) (Kk : Out → Option ρ) : Option ρ :=
  iter (run TT E_laws_eqIntS (kp_laws_eqIntS g) fuel (cL (cB (cS2 (cS1 (cS2 (cS2 (b_laws_eqIntS)))))))) (nrmAt (kp_laws_eqIntS g) (firstRid (cL (cB (cS2 (cS1 (cS2 (cS2 (b_laws_eqIntS))))))))) n (⟨[.u (.x (.ro (.ints .i64 v0))), .u (.x (.ro (.ints .i64 v1))), uu, uu, uu, .u (.x (.int .i64 v5)), uu, uu, uu, uu, uu, uu, uu, uu, uu, uu, uu, uu, uu, uu, uu, uu, uu, uu, uu, uu], [], [], []⟩) (blkK 0 (seqK (gateAt (kp_laws_eqIntS g) (200000 + firstRid (cS2 (cS2 (cS2 (b_laws_eqIntS)))))) (run TT E_laws_eqIntS (kp_laws_eqIntS g) fuel (cS2 (cS2 (cS2 (b_laws_eqIntS))))) (nrmAt (kp_laws_eqIntS g) (200000 + firstRid (cS2 (cS2 (cS2 (b_laws_eqIntS)))))) (topK TT [.val, .val] false [[]] [.tmp 4] [.x (.sl (.ints .i64 p0)), .x (.sl (.ints .i64 p1))] Kk)))
def S_laws_eqIntS_e {ρ : Type} (p0 : List Int) (p1 : List Int)  (k0 : (List Int → List Int → Int → Option ρ)) (K : Bool → Option ρ) : Option ρ :=
  (bif !decide ((p0.length : Int) = (p1.length : Int)) then K false else k0 p0 p1 (0 : Int))
theorem s_laws_eqIntS_e {ρ : Type} (g fuel : Nat) (p0 : List Int) (p1 : List Int) (Kk : Out → Option ρ) : runFn TT E_laws_eqIntS (kp_laws_eqIntS g) fuel [.val, .val] 2 false [[]] 26 [.tmp 4] b_laws_eqIntS [.x (.sl (.ints .i64 p0)), .x (.sl (.ints .i64 p1))] Kk = S_laws_eqIntS_e p0 p1  (fun v0 v1 v5 => D_laws_eqIntS_0 g fuel p0 p1 fuel v0 v1 v5 Kk) (fun r1 => Kk ⟨[.x (.bool r1)], []⟩) := by
  kernel_rfl
def S_laws_eqIntS_0 {ρ : Type}  (v0 : List Int) (v1 : List Int) (v5 : Int) (b0 : (List Int → List Int → Int → Option ρ)) (K : Bool → Option ρ) : Option ρ :=
  (bif decide (v5 < (v0.length : Int)) then (if 0 ≤ v5 then (if v5 < (v0.length : Int) then (if 0 ≤ v5 then (if v5 < (v1.length : Int) then (bif !decide ((v0.getD v5.toNat 0) = (v1.getD v5.toNat 0)) then K false else b0 v0 v1 (IntKind.i64.wrap (v5 + (1 : Int)))) else none) else none) else none) else none) else K true)
theorem s_laws_eqIntS_0 {ρ : Type} (g fuel : Nat) (p0 : List Int) (p1 : List Int) (n : Nat) (v0 : List Int) (v1 : List Int) (v5 : Int) (Kk : Out → Option ρ) : D_laws_eqIntS_0 g fuel p0 p1  (n + 1) v0 v1 v5 Kk = S_laws_eqIntS_0  v0 v1 v5 (fun v0 v1 v5 => D_laws_eqIntS_0 g fuel p0 p1 n v0 v1 v5 Kk) (fun r1 => Kk ⟨[.x (.bool r1)], []⟩) := by
  kernel_rfl
def F_laws_eqIntS_0 {ρ : Type} (fuel : Nat)   (K : Bool → Option ρ) : Nat → List Int → List Int → Int → Option ρ
  | 0, _, _, _ => none
  | n + 1, v0, v1, v5 => S_laws_eqIntS_0  v0 v1 v5 (F_laws_eqIntS_0 fuel   K n) K
theorem f_laws_eqIntS_0 {ρ : Type} (fuel : Nat) (p0 : List Int) (p1 : List Int) (Kk : Out → Option ρ) : ∀ (n : Nat) (v0 : List Int) (v1 : List Int) (v5 : Int), D_laws_eqIntS_0 1 fuel p0 p1  n v0 v1 v5 Kk = F_laws_eqIntS_0 fuel   (fun r1 => Kk ⟨[.x (.bool r1)], []⟩) n v0 v1 v5 := by
  intro n
  induction n with
  | zero => intros; rfl
  | succ n ih =>
    intro v0 v1 v5
    rw [s_laws_eqIntS_0, F_laws_eqIntS_0]
    try simp only [ih]
def F_laws_eqIntS {ρ : Type} (fuel : Nat) (p0 : List Int) (p1 : List Int)  (K : Bool → Option ρ) : Option ρ := S_laws_eqIntS_e p0 p1  (F_laws_eqIntS_0 fuel   K fuel) K
theorem f_laws_eqIntS {ρ : Type} (fuel : Nat) (p0 : List Int) (p1 : List Int) (Kk : Out → Option ρ) : runFn TT E_laws_eqIntS (kp_laws_eqIntS 1) fuel [.val, .val] 2 false [[]] 26 [.tmp 4] b_laws_eqIntS [.x (.sl (.ints .i64 p0)), .x (.sl (.ints .i64 p1))] Kk = F_laws_eqIntS fuel p0 p1 (fun r1 => Kk ⟨[.x (.bool r1)], []⟩) := by
  rw [s_laws_eqIntS_e, F_laws_eqIntS]
  try simp only [f_laws_eqIntS_0]
noncomputable def sh_laws_eqIntS (p0 : List Int) (p1 : List Int) : Option (Bool) := val fun n => F_laws_eqIntS n p0 p1 (fun r1 => some r1)
noncomputable def G_laws_eqIntS {ρ : Type} : List DU → (Out → Option ρ) → Option ρ
  | [.x (.sl (.ints .i64 p0)), .x (.sl (.ints .i64 p1))], K => (sh_laws_eqIntS p0 p1).bind fun r => K ⟨[.x (.bool r)], []⟩
  | _, _ => none
noncomputable def o_laws_eqIntS : Ora := ⟨[.val, .val], 2, false, G_laws_eqIntS⟩
def un_laws_eqIntS : Out → Option (Bool)
  | ⟨[.x (.bool r1)], []⟩ => some r1
  | _ => none
theorem un_laws_eqIntS_ok {o : Out} {r : Bool} (h : un_laws_eqIntS o = some r) : o = ⟨[.x (.bool r)], []⟩ := by
  unfold un_laws_eqIntS at h
  split at h
  · injection h with h
    subst h
    rfl
  · cases h
theorem n_laws_eqIntS : ∀ k o, E_laws_eqIntS.fn k = some o → Nat1 o := fun k o h => (ook_list (P := Try.prog) (l := O_laws_eqIntS) (fk := E_laws_eqIntS.fk) (List.forall_mem_nil _)).nat k o h
theorem u_laws_eqIntS (fuel : Nat) (p0 : List Int) (p1 : List Int) : runFn TT E_laws_eqIntS (kp_laws_eqIntS 1) fuel [.val, .val] 2 false [[]] 26 [.tmp 4] b_laws_eqIntS [.x (.sl (.ints .i64 p0)), .x (.sl (.ints .i64 p1))] un_laws_eqIntS = F_laws_eqIntS fuel p0 p1 (fun r1 => some r1) := f_laws_eqIntS fuel p0 p1 un_laws_eqIntS
theorem sh_laws_eqIntS_of {n : Nat} {p0 : List Int} {p1 : List Int} {r : Bool} (h : F_laws_eqIntS n p0 p1 (fun r1 => some r1) = some r) : sh_laws_eqIntS p0 p1 = some r := val_of (fun n m r hm h => by rw [← u_laws_eqIntS] at h ⊢; exact runFn_mono n_laws_eqIntS hm h) h
theorem m_laws_eqIntS : MeetsO Try.prog 42 o_laws_eqIntS := by
  refine ⟨fun ρ ds K => ?_, ⟨_, meets_run (kp := kp_laws_eqIntS 1) (weak := false) (df := [[]]) tsOk (ook_list (l := O_laws_eqIntS) (fk := E_laws_eqIntS.fk) (List.forall_mem_nil _)) mixed Try.func42 (body := b_laws_eqIntS) (by kernel_rfl) (ntmps := 26) (by kernel_rfl) (rs := [.tmp 4]) (by kernel_rfl), fun ds out h => ?_⟩, ⟨_, Try.func42, by kernel_rfl, by kernel_rfl⟩⟩
  · show G_laws_eqIntS ds K = (G_laws_eqIntS ds some).bind K
    unfold G_laws_eqIntS
    split
    · cases sh_laws_eqIntS _ _ <;> rfl
    · rfl
  · replace h : G_laws_eqIntS ds some = some out := h
    unfold G_laws_eqIntS at h
    split at h
    · obtain ⟨r, hr, h⟩ := Option.bind_eq_some_iff.1 h
      injection h with h
      subst h
      obtain ⟨n, hn⟩ := val_some hr
      replace hn := (u_laws_eqIntS n _ _).trans hn
      rw [runFn_bind (K := un_laws_eqIntS) (K' := some) (f := un_laws_eqIntS) n_laws_eqIntS (fun _ => rfl)] at hn
      obtain ⟨o, h1, h2⟩ := Option.bind_eq_some_iff.1 hn
      rw [un_laws_eqIntS_ok h2] at h1
      exact ⟨n, h1⟩
    · cases h
/-! f48 loop.example.g01239.laws.eqBoard -/
noncomputable def b_laws_eqBoard : Code := Try.f48.body.getD .skip
def kp_laws_eqBoard (g : Nat) : Nat → Option Keep := lk []
def O_laws_eqBoard : List (FuncId × Ora) := [(42, o_laws_eqIntS)]
def E_laws_eqBoard : Env := ⟨lk O_laws_eqBoard, fun _ => false⟩
def S_laws_eqBoard_e {ρ : Type} (p0_0 : Int) (p0_1 : Int) (p0_2 : List Int) (p1_0 : Int) (p1_1 : Int) (p1_2 : List Int)   (K : Bool → Option ρ) : Option ρ :=
  (bif !decide (p0_0 = p1_0) then K false else (bif !decide (p0_1 = p1_1) then K false else ((sh_laws_eqIntS p0_2 p1_2).bind fun r1 => (bif !r1 then K false else K true))))
theorem s_laws_eqBoard_e {ρ : Type} (g fuel : Nat) (p0_0 : Int) (p0_1 : Int) (p0_2 : List Int) (p1_0 : Int) (p1_1 : Int) (p1_2 : List Int) (Kk : Out → Option ρ) : runFn TT E_laws_eqBoard (kp_laws_eqBoard g) fuel [.val, .val] 2 false [[]] 21 [.tmp 4] b_laws_eqBoard [.agg [.int .i64 p0_0, .int .i64 p0_1, .sl (.ints .i64 p0_2)], .agg [.int .i64 p1_0, .int .i64 p1_1, .sl (.ints .i64 p1_2)]] Kk = S_laws_eqBoard_e p0_0 p0_1 p0_2 p1_0 p1_1 p1_2   (fun r1 => Kk ⟨[.x (.bool r1)], []⟩) := by
  kernel_rfl
def F_laws_eqBoard {ρ : Type} (fuel : Nat) (p0_0 : Int) (p0_1 : Int) (p0_2 : List Int) (p1_0 : Int) (p1_1 : Int) (p1_2 : List Int)  (K : Bool → Option ρ) : Option ρ := S_laws_eqBoard_e p0_0 p0_1 p0_2 p1_0 p1_1 p1_2   K
theorem f_laws_eqBoard {ρ : Type} (fuel : Nat) (p0_0 : Int) (p0_1 : Int) (p0_2 : List Int) (p1_0 : Int) (p1_1 : Int) (p1_2 : List Int) (Kk : Out → Option ρ) : runFn TT E_laws_eqBoard (kp_laws_eqBoard 1) fuel [.val, .val] 2 false [[]] 21 [.tmp 4] b_laws_eqBoard [.agg [.int .i64 p0_0, .int .i64 p0_1, .sl (.ints .i64 p0_2)], .agg [.int .i64 p1_0, .int .i64 p1_1, .sl (.ints .i64 p1_2)]] Kk = F_laws_eqBoard fuel p0_0 p0_1 p0_2 p1_0 p1_1 p1_2 (fun r1 => Kk ⟨[.x (.bool r1)], []⟩) := by
  rw [s_laws_eqBoard_e, F_laws_eqBoard]
noncomputable def sh_laws_eqBoard (p0_0 : Int) (p0_1 : Int) (p0_2 : List Int) (p1_0 : Int) (p1_1 : Int) (p1_2 : List Int) : Option (Bool) := F_laws_eqBoard 0 p0_0 p0_1 p0_2 p1_0 p1_1 p1_2 (fun r1 => some r1)
noncomputable def G_laws_eqBoard {ρ : Type} : List DU → (Out → Option ρ) → Option ρ
  | [.agg [.int .i64 p0_0, .int .i64 p0_1, .sl (.ints .i64 p0_2)], .agg [.int .i64 p1_0, .int .i64 p1_1, .sl (.ints .i64 p1_2)]], K => (sh_laws_eqBoard p0_0 p0_1 p0_2 p1_0 p1_1 p1_2).bind fun r => K ⟨[.x (.bool r)], []⟩
  | _, _ => none
noncomputable def o_laws_eqBoard : Ora := ⟨[.val, .val], 2, false, G_laws_eqBoard⟩
def un_laws_eqBoard : Out → Option (Bool)
  | ⟨[.x (.bool r1)], []⟩ => some r1
  | _ => none
theorem un_laws_eqBoard_ok {o : Out} {r : Bool} (h : un_laws_eqBoard o = some r) : o = ⟨[.x (.bool r)], []⟩ := by
  unfold un_laws_eqBoard at h
  split at h
  · injection h with h
    subst h
    rfl
  · cases h
theorem n_laws_eqBoard : ∀ k o, E_laws_eqBoard.fn k = some o → Nat1 o := fun k o h => (ook_list (P := Try.prog) (l := O_laws_eqBoard) (fk := E_laws_eqBoard.fk) (List.forall_mem_cons.2 ⟨m_laws_eqIntS, (List.forall_mem_nil _)⟩)).nat k o h
theorem u_laws_eqBoard (fuel : Nat) (p0_0 : Int) (p0_1 : Int) (p0_2 : List Int) (p1_0 : Int) (p1_1 : Int) (p1_2 : List Int) : runFn TT E_laws_eqBoard (kp_laws_eqBoard 1) fuel [.val, .val] 2 false [[]] 21 [.tmp 4] b_laws_eqBoard [.agg [.int .i64 p0_0, .int .i64 p0_1, .sl (.ints .i64 p0_2)], .agg [.int .i64 p1_0, .int .i64 p1_1, .sl (.ints .i64 p1_2)]] un_laws_eqBoard = F_laws_eqBoard fuel p0_0 p0_1 p0_2 p1_0 p1_1 p1_2 (fun r1 => some r1) := f_laws_eqBoard fuel p0_0 p0_1 p0_2 p1_0 p1_1 p1_2 un_laws_eqBoard
theorem m_laws_eqBoard : MeetsO Try.prog 48 o_laws_eqBoard := by
  refine ⟨fun ρ ds K => ?_, ⟨_, meets_run (kp := kp_laws_eqBoard 1) (weak := false) (df := [[]]) tsOk (ook_list (l := O_laws_eqBoard) (fk := E_laws_eqBoard.fk) (List.forall_mem_cons.2 ⟨m_laws_eqIntS, (List.forall_mem_nil _)⟩)) mixed Try.func48 (body := b_laws_eqBoard) (by kernel_rfl) (ntmps := 21) (by kernel_rfl) (rs := [.tmp 4]) (by kernel_rfl), fun ds out h => ?_⟩, ⟨_, Try.func48, by kernel_rfl, by kernel_rfl⟩⟩
  · show G_laws_eqBoard ds K = (G_laws_eqBoard ds some).bind K
    unfold G_laws_eqBoard
    split
    · cases sh_laws_eqBoard _ _ _ _ _ _ <;> rfl
    · rfl
  · replace h : G_laws_eqBoard ds some = some out := h
    unfold G_laws_eqBoard at h
    split at h
    · obtain ⟨r, hr, h⟩ := Option.bind_eq_some_iff.1 h
      injection h with h
      subst h
      have hn := (u_laws_eqBoard 0 _ _ _ _ _ _).trans hr
      rw [runFn_bind (K := un_laws_eqBoard) (K' := some) (f := un_laws_eqBoard) n_laws_eqBoard (fun _ => rfl)] at hn
      obtain ⟨o, h1, h2⟩ := Option.bind_eq_some_iff.1 hn
      rw [un_laws_eqBoard_ok h2] at h1
      exact ⟨0, h1⟩
    · cases h
/-! f51 loop.example.g01239.laws.eqLeaper -/
noncomputable def b_laws_eqLeaper : Code := Try.f51.body.getD .skip
def kp_laws_eqLeaper (g : Nat) : Nat → Option Keep := lk []
def O_laws_eqLeaper : List (FuncId × Ora) := []
def E_laws_eqLeaper : Env := ⟨lk O_laws_eqLeaper, fun _ => false⟩
def S_laws_eqLeaper_e {ρ : Type} (p0_0 : Int) (p0_1 : Int) (p1_0 : Int) (p1_1 : Int)   (K : Bool → Option ρ) : Option ρ :=
  (bif !decide (p0_0 = p1_0) then K false else (bif !decide (p0_1 = p1_1) then K false else K true))
theorem s_laws_eqLeaper_e {ρ : Type} (g fuel : Nat) (p0_0 : Int) (p0_1 : Int) (p1_0 : Int) (p1_1 : Int) (Kk : Out → Option ρ) : runFn TT E_laws_eqLeaper (kp_laws_eqLeaper g) fuel [.val, .val] 2 false [[]] 15 [.tmp 4] b_laws_eqLeaper [.agg [.int .i64 p0_0, .int .i64 p0_1], .agg [.int .i64 p1_0, .int .i64 p1_1]] Kk = S_laws_eqLeaper_e p0_0 p0_1 p1_0 p1_1   (fun r1 => Kk ⟨[.x (.bool r1)], []⟩) := by
  kernel_rfl
def F_laws_eqLeaper {ρ : Type} (fuel : Nat) (p0_0 : Int) (p0_1 : Int) (p1_0 : Int) (p1_1 : Int)  (K : Bool → Option ρ) : Option ρ := S_laws_eqLeaper_e p0_0 p0_1 p1_0 p1_1   K
theorem f_laws_eqLeaper {ρ : Type} (fuel : Nat) (p0_0 : Int) (p0_1 : Int) (p1_0 : Int) (p1_1 : Int) (Kk : Out → Option ρ) : runFn TT E_laws_eqLeaper (kp_laws_eqLeaper 1) fuel [.val, .val] 2 false [[]] 15 [.tmp 4] b_laws_eqLeaper [.agg [.int .i64 p0_0, .int .i64 p0_1], .agg [.int .i64 p1_0, .int .i64 p1_1]] Kk = F_laws_eqLeaper fuel p0_0 p0_1 p1_0 p1_1 (fun r1 => Kk ⟨[.x (.bool r1)], []⟩) := by
  rw [s_laws_eqLeaper_e, F_laws_eqLeaper]
noncomputable def sh_laws_eqLeaper (p0_0 : Int) (p0_1 : Int) (p1_0 : Int) (p1_1 : Int) : Option (Bool) := F_laws_eqLeaper 0 p0_0 p0_1 p1_0 p1_1 (fun r1 => some r1)
noncomputable def G_laws_eqLeaper {ρ : Type} : List DU → (Out → Option ρ) → Option ρ
  | [.agg [.int .i64 p0_0, .int .i64 p0_1], .agg [.int .i64 p1_0, .int .i64 p1_1]], K => (sh_laws_eqLeaper p0_0 p0_1 p1_0 p1_1).bind fun r => K ⟨[.x (.bool r)], []⟩
  | _, _ => none
noncomputable def o_laws_eqLeaper : Ora := ⟨[.val, .val], 2, false, G_laws_eqLeaper⟩
def un_laws_eqLeaper : Out → Option (Bool)
  | ⟨[.x (.bool r1)], []⟩ => some r1
  | _ => none
theorem un_laws_eqLeaper_ok {o : Out} {r : Bool} (h : un_laws_eqLeaper o = some r) : o = ⟨[.x (.bool r)], []⟩ := by
  unfold un_laws_eqLeaper at h
  split at h
  · injection h with h
    subst h
    rfl
  · cases h
theorem n_laws_eqLeaper : ∀ k o, E_laws_eqLeaper.fn k = some o → Nat1 o := fun k o h => (ook_list (P := Try.prog) (l := O_laws_eqLeaper) (fk := E_laws_eqLeaper.fk) (List.forall_mem_nil _)).nat k o h
theorem u_laws_eqLeaper (fuel : Nat) (p0_0 : Int) (p0_1 : Int) (p1_0 : Int) (p1_1 : Int) : runFn TT E_laws_eqLeaper (kp_laws_eqLeaper 1) fuel [.val, .val] 2 false [[]] 15 [.tmp 4] b_laws_eqLeaper [.agg [.int .i64 p0_0, .int .i64 p0_1], .agg [.int .i64 p1_0, .int .i64 p1_1]] un_laws_eqLeaper = F_laws_eqLeaper fuel p0_0 p0_1 p1_0 p1_1 (fun r1 => some r1) := f_laws_eqLeaper fuel p0_0 p0_1 p1_0 p1_1 un_laws_eqLeaper
theorem m_laws_eqLeaper : MeetsO Try.prog 51 o_laws_eqLeaper := by
  refine ⟨fun ρ ds K => ?_, ⟨_, meets_run (kp := kp_laws_eqLeaper 1) (weak := false) (df := [[]]) tsOk (ook_list (l := O_laws_eqLeaper) (fk := E_laws_eqLeaper.fk) (List.forall_mem_nil _)) mixed Try.func51 (body := b_laws_eqLeaper) (by kernel_rfl) (ntmps := 15) (by kernel_rfl) (rs := [.tmp 4]) (by kernel_rfl), fun ds out h => ?_⟩, ⟨_, Try.func51, by kernel_rfl, by kernel_rfl⟩⟩
  · show G_laws_eqLeaper ds K = (G_laws_eqLeaper ds some).bind K
    unfold G_laws_eqLeaper
    split
    · cases sh_laws_eqLeaper _ _ _ _ <;> rfl
    · rfl
  · replace h : G_laws_eqLeaper ds some = some out := h
    unfold G_laws_eqLeaper at h
    split at h
    · obtain ⟨r, hr, h⟩ := Option.bind_eq_some_iff.1 h
      injection h with h
      subst h
      have hn := (u_laws_eqLeaper 0 _ _ _ _).trans hr
      rw [runFn_bind (K := un_laws_eqLeaper) (K' := some) (f := un_laws_eqLeaper) n_laws_eqLeaper (fun _ => rfl)] at hn
      obtain ⟨o, h1, h2⟩ := Option.bind_eq_some_iff.1 hn
      rw [un_laws_eqLeaper_ok h2] at h1
      exact ⟨0, h1⟩
    · cases h
/-! f22 loop.example.g01239.laws.eqPuzzle -/
noncomputable def b_laws_eqPuzzle : Code := Try.f22.body.getD .skip
def kp_laws_eqPuzzle (g : Nat) : Nat → Option Keep := lk []
def O_laws_eqPuzzle : List (FuncId × Ora) := [(42, o_laws_eqIntS), (48, o_laws_eqBoard), (51, o_laws_eqLeaper)]
def E_laws_eqPuzzle : Env := ⟨lk O_laws_eqPuzzle, fun _ => false⟩
def S_laws_eqPuzzle_e {ρ : Type} (p0_0 : Int) (p0_1 : Int) (p0_2 : List Int) (p0_3 : Int) (p0_4 : Int) (p0_5 : List Int) (p1_0 : Int) (p1_1 : Int) (p1_2 : List Int) (p1_3 : Int) (p1_4 : Int) (p1_5 : List Int)   (K : Bool → Option ρ) : Option ρ :=
  ((sh_laws_eqBoard p0_0 p0_1 p0_2 p1_0 p1_1 p1_2).bind fun r1 => (bif !r1 then K false else ((sh_laws_eqLeaper p0_3 p0_4 p1_3 p1_4).bind fun r2 => (bif !r2 then K false else ((sh_laws_eqIntS p0_5 p1_5).bind fun r3 => (bif !r3 then K false else K true))))))
theorem s_laws_eqPuzzle_e {ρ : Type} (g fuel : Nat) (p0_0 : Int) (p0_1 : Int) (p0_2 : List Int) (p0_3 : Int) (p0_4 : Int) (p0_5 : List Int) (p1_0 : Int) (p1_1 : Int) (p1_2 : List Int) (p1_3 : Int) (p1_4 : Int) (p1_5 : List Int) (Kk : Out → Option ρ) : runFn TT E_laws_eqPuzzle (kp_laws_eqPuzzle g) fuel [.val, .val] 2 false [[]] 23 [.tmp 4] b_laws_eqPuzzle [.agg [.int .i64 p0_0, .int .i64 p0_1, .sl (.ints .i64 p0_2), .int .i64 p0_3, .int .i64 p0_4, .sl (.ints .i64 p0_5)], .agg [.int .i64 p1_0, .int .i64 p1_1, .sl (.ints .i64 p1_2), .int .i64 p1_3, .int .i64 p1_4, .sl (.ints .i64 p1_5)]] Kk = S_laws_eqPuzzle_e p0_0 p0_1 p0_2 p0_3 p0_4 p0_5 p1_0 p1_1 p1_2 p1_3 p1_4 p1_5   (fun r1 => Kk ⟨[.x (.bool r1)], []⟩) := by
  kernel_rfl
def F_laws_eqPuzzle {ρ : Type} (fuel : Nat) (p0_0 : Int) (p0_1 : Int) (p0_2 : List Int) (p0_3 : Int) (p0_4 : Int) (p0_5 : List Int) (p1_0 : Int) (p1_1 : Int) (p1_2 : List Int) (p1_3 : Int) (p1_4 : Int) (p1_5 : List Int)  (K : Bool → Option ρ) : Option ρ := S_laws_eqPuzzle_e p0_0 p0_1 p0_2 p0_3 p0_4 p0_5 p1_0 p1_1 p1_2 p1_3 p1_4 p1_5   K
theorem f_laws_eqPuzzle {ρ : Type} (fuel : Nat) (p0_0 : Int) (p0_1 : Int) (p0_2 : List Int) (p0_3 : Int) (p0_4 : Int) (p0_5 : List Int) (p1_0 : Int) (p1_1 : Int) (p1_2 : List Int) (p1_3 : Int) (p1_4 : Int) (p1_5 : List Int) (Kk : Out → Option ρ) : runFn TT E_laws_eqPuzzle (kp_laws_eqPuzzle 1) fuel [.val, .val] 2 false [[]] 23 [.tmp 4] b_laws_eqPuzzle [.agg [.int .i64 p0_0, .int .i64 p0_1, .sl (.ints .i64 p0_2), .int .i64 p0_3, .int .i64 p0_4, .sl (.ints .i64 p0_5)], .agg [.int .i64 p1_0, .int .i64 p1_1, .sl (.ints .i64 p1_2), .int .i64 p1_3, .int .i64 p1_4, .sl (.ints .i64 p1_5)]] Kk = F_laws_eqPuzzle fuel p0_0 p0_1 p0_2 p0_3 p0_4 p0_5 p1_0 p1_1 p1_2 p1_3 p1_4 p1_5 (fun r1 => Kk ⟨[.x (.bool r1)], []⟩) := by
  rw [s_laws_eqPuzzle_e, F_laws_eqPuzzle]
noncomputable def sh_laws_eqPuzzle (p0_0 : Int) (p0_1 : Int) (p0_2 : List Int) (p0_3 : Int) (p0_4 : Int) (p0_5 : List Int) (p1_0 : Int) (p1_1 : Int) (p1_2 : List Int) (p1_3 : Int) (p1_4 : Int) (p1_5 : List Int) : Option (Bool) := F_laws_eqPuzzle 0 p0_0 p0_1 p0_2 p0_3 p0_4 p0_5 p1_0 p1_1 p1_2 p1_3 p1_4 p1_5 (fun r1 => some r1)
noncomputable def G_laws_eqPuzzle {ρ : Type} : List DU → (Out → Option ρ) → Option ρ
  | [.agg [.int .i64 p0_0, .int .i64 p0_1, .sl (.ints .i64 p0_2), .int .i64 p0_3, .int .i64 p0_4, .sl (.ints .i64 p0_5)], .agg [.int .i64 p1_0, .int .i64 p1_1, .sl (.ints .i64 p1_2), .int .i64 p1_3, .int .i64 p1_4, .sl (.ints .i64 p1_5)]], K => (sh_laws_eqPuzzle p0_0 p0_1 p0_2 p0_3 p0_4 p0_5 p1_0 p1_1 p1_2 p1_3 p1_4 p1_5).bind fun r => K ⟨[.x (.bool r)], []⟩
  | _, _ => none
noncomputable def o_laws_eqPuzzle : Ora := ⟨[.val, .val], 2, false, G_laws_eqPuzzle⟩
def un_laws_eqPuzzle : Out → Option (Bool)
  | ⟨[.x (.bool r1)], []⟩ => some r1
  | _ => none
theorem un_laws_eqPuzzle_ok {o : Out} {r : Bool} (h : un_laws_eqPuzzle o = some r) : o = ⟨[.x (.bool r)], []⟩ := by
  unfold un_laws_eqPuzzle at h
  split at h
  · injection h with h
    subst h
    rfl
  · cases h
theorem n_laws_eqPuzzle : ∀ k o, E_laws_eqPuzzle.fn k = some o → Nat1 o := fun k o h => (ook_list (P := Try.prog) (l := O_laws_eqPuzzle) (fk := E_laws_eqPuzzle.fk) (List.forall_mem_cons.2 ⟨m_laws_eqIntS, (List.forall_mem_cons.2 ⟨m_laws_eqBoard, (List.forall_mem_cons.2 ⟨m_laws_eqLeaper, (List.forall_mem_nil _)⟩)⟩)⟩)).nat k o h
theorem u_laws_eqPuzzle (fuel : Nat) (p0_0 : Int) (p0_1 : Int) (p0_2 : List Int) (p0_3 : Int) (p0_4 : Int) (p0_5 : List Int) (p1_0 : Int) (p1_1 : Int) (p1_2 : List Int) (p1_3 : Int) (p1_4 : Int) (p1_5 : List Int) : runFn TT E_laws_eqPuzzle (kp_laws_eqPuzzle 1) fuel [.val, .val] 2 false [[]] 23 [.tmp 4] b_laws_eqPuzzle [.agg [.int .i64 p0_0, .int .i64 p0_1, .sl (.ints .i64 p0_2), .int .i64 p0_3, .int .i64 p0_4, .sl (.ints .i64 p0_5)], .agg [.int .i64 p1_0, .int .i64 p1_1, .sl (.ints .i64 p1_2), .int .i64 p1_3, .int .i64 p1_4, .sl (.ints .i64 p1_5)]] un_laws_eqPuzzle = F_laws_eqPuzzle fuel p0_0 p0_1 p0_2 p0_3 p0_4 p0_5 p1_0 p1_1 p1_2 p1_3 p1_4 p1_5 (fun r1 => some r1) := f_laws_eqPuzzle fuel p0_0 p0_1 p0_2 p0_3 p0_4 p0_5 p1_0 p1_1 p1_2 p1_3 p1_4 p1_5 un_laws_eqPuzzle
theorem m_laws_eqPuzzle : MeetsO Try.prog 22 o_laws_eqPuzzle := by
  refine ⟨fun ρ ds K => ?_, ⟨_, meets_run (kp := kp_laws_eqPuzzle 1) (weak := false) (df := [[]]) tsOk (ook_list (l := O_laws_eqPuzzle) (fk := E_laws_eqPuzzle.fk) (List.forall_mem_cons.2 ⟨m_laws_eqIntS, (List.forall_mem_cons.2 ⟨m_laws_eqBoard, (List.forall_mem_cons.2 ⟨m_laws_eqLeaper, (List.forall_mem_nil _)⟩)⟩)⟩)) mixed Try.func22 (body := b_laws_eqPuzzle) (by kernel_rfl) (ntmps := 23) (by kernel_rfl) (rs := [.tmp 4]) (by kernel_rfl), fun ds out h => ?_⟩, ⟨_, Try.func22, by kernel_rfl, by kernel_rfl⟩⟩
  · show G_laws_eqPuzzle ds K = (G_laws_eqPuzzle ds some).bind K
    unfold G_laws_eqPuzzle
    split
    · cases sh_laws_eqPuzzle _ _ _ _ _ _ _ _ _ _ _ _ <;> rfl
    · rfl
  · replace h : G_laws_eqPuzzle ds some = some out := h
    unfold G_laws_eqPuzzle at h
    split at h
    · obtain ⟨r, hr, h⟩ := Option.bind_eq_some_iff.1 h
      injection h with h
      subst h
      have hn := (u_laws_eqPuzzle 0 _ _ _ _ _ _ _ _ _ _ _ _).trans hr
      rw [runFn_bind (K := un_laws_eqPuzzle) (K' := some) (f := un_laws_eqPuzzle) n_laws_eqPuzzle (fun _ => rfl)] at hn
      obtain ⟨o, h1, h2⟩ := Option.bind_eq_some_iff.1 hn
      rw [un_laws_eqPuzzle_ok h2] at h1
      exact ⟨0, h1⟩
    · cases h
/-! f11 loop.example.g01239.laws.FnExactIsSolution -/
noncomputable def b_laws_FnExactIsSolution : Code := Try.f11.body.getD .skip
def kp_laws_FnExactIsSolution (g : Nat) : Nat → Option Keep := lk []
def O_laws_FnExactIsSolution : List (FuncId × Ora) := [(18, o_laws_szPuzzle), (20, o_laws_toPuzzle), (22, o_laws_eqPuzzle), (39, o_spec_IsSolution), (40, o_laws_toIntS), (41, o_impl_IsSolution), (42, o_laws_eqIntS)]
def E_laws_FnExactIsSolution : Env := ⟨lk O_laws_FnExactIsSolution, fun _ => false⟩
def S_laws_FnExactIsSolution_e {ρ : Type} (p0_0 : Int) (p0_1 : Int) (p0_2 : List Int) (p0_3 : Int) (p0_4 : Int) (p0_5 : List Int) (p1 : List Int)   (K : Bool → Option ρ) : Option ρ :=
  (bif decide ((p1.length : Int) > (1048576 : Int)) then K true else ((sh_laws_szPuzzle p0_0 p0_1 p0_2 p0_3 p0_4 p0_5 (1048576 : Int)).bind fun r1 => (bif decide (r1 < (0 : Int)) then K true else ((sh_laws_toPuzzle p0_0 p0_1 p0_2 p0_3 p0_4 p0_5).bind fun r2 => ((sh_laws_toIntS p1).bind fun r3 => ((sh_spec_IsSolution r2.1 r2.2.1 r2.2.2.1 r2.2.2.2.1 r2.2.2.2.2.1 r2.2.2.2.2.2 r3).bind fun r4 => ((sh_laws_toPuzzle p0_0 p0_1 p0_2 p0_3 p0_4 p0_5).bind fun r5 => ((sh_laws_toIntS p1).bind fun r6 => ((sh_impl_IsSolution r5.1 r5.2.1 r5.2.2.1 r5.2.2.2.1 r5.2.2.2.2.1 r5.2.2.2.2.2 r6).bind fun r7 => (bif !(r7.1 == r4.1) then K false else (bif !(r7.2 == r4.2) then K false else ((sh_laws_toPuzzle p0_0 p0_1 p0_2 p0_3 p0_4 p0_5).bind fun r8 => ((sh_laws_eqPuzzle r5.1 r5.2.1 r5.2.2.1 r5.2.2.2.1 r5.2.2.2.2.1 r5.2.2.2.2.2 r8.1 r8.2.1 r8.2.2.1 r8.2.2.2.1 r8.2.2.2.2.1 r8.2.2.2.2.2).bind fun r9 => (bif !r9 then K false else ((sh_laws_toIntS p1).bind fun r10 => ((sh_laws_eqIntS r6 r10).bind fun r11 => (bif !r11 then K false else K true)))))))))))))))))
theorem s_laws_FnExactIsSolution_e {ρ : Type} (g fuel : Nat) (p0_0 : Int) (p0_1 : Int) (p0_2 : List Int) (p0_3 : Int) (p0_4 : Int) (p0_5 : List Int) (p1 : List Int) (Kk : Out → Option ρ) : runFn TT E_laws_FnExactIsSolution (kp_laws_FnExactIsSolution g) fuel [.val, .val] 2 false [[]] 56 [.tmp 4] b_laws_FnExactIsSolution [.agg [.int .i64 p0_0, .int .i64 p0_1, .sl (.ints .i64 p0_2), .int .i64 p0_3, .int .i64 p0_4, .sl (.ints .i64 p0_5)], .x (.sl (.ints .i64 p1))] Kk = S_laws_FnExactIsSolution_e p0_0 p0_1 p0_2 p0_3 p0_4 p0_5 p1   (fun r1 => Kk ⟨[.x (.bool r1)], []⟩) := by
  kernel_rfl
def F_laws_FnExactIsSolution {ρ : Type} (fuel : Nat) (p0_0 : Int) (p0_1 : Int) (p0_2 : List Int) (p0_3 : Int) (p0_4 : Int) (p0_5 : List Int) (p1 : List Int)  (K : Bool → Option ρ) : Option ρ := S_laws_FnExactIsSolution_e p0_0 p0_1 p0_2 p0_3 p0_4 p0_5 p1   K
theorem f_laws_FnExactIsSolution {ρ : Type} (fuel : Nat) (p0_0 : Int) (p0_1 : Int) (p0_2 : List Int) (p0_3 : Int) (p0_4 : Int) (p0_5 : List Int) (p1 : List Int) (Kk : Out → Option ρ) : runFn TT E_laws_FnExactIsSolution (kp_laws_FnExactIsSolution 1) fuel [.val, .val] 2 false [[]] 56 [.tmp 4] b_laws_FnExactIsSolution [.agg [.int .i64 p0_0, .int .i64 p0_1, .sl (.ints .i64 p0_2), .int .i64 p0_3, .int .i64 p0_4, .sl (.ints .i64 p0_5)], .x (.sl (.ints .i64 p1))] Kk = F_laws_FnExactIsSolution fuel p0_0 p0_1 p0_2 p0_3 p0_4 p0_5 p1 (fun r1 => Kk ⟨[.x (.bool r1)], []⟩) := by
  rw [s_laws_FnExactIsSolution_e, F_laws_FnExactIsSolution]
noncomputable def sh_laws_FnExactIsSolution (p0_0 : Int) (p0_1 : Int) (p0_2 : List Int) (p0_3 : Int) (p0_4 : Int) (p0_5 : List Int) (p1 : List Int) : Option (Bool) := F_laws_FnExactIsSolution 0 p0_0 p0_1 p0_2 p0_3 p0_4 p0_5 p1 (fun r1 => some r1)
noncomputable def G_laws_FnExactIsSolution {ρ : Type} : List DU → (Out → Option ρ) → Option ρ
  | [.agg [.int .i64 p0_0, .int .i64 p0_1, .sl (.ints .i64 p0_2), .int .i64 p0_3, .int .i64 p0_4, .sl (.ints .i64 p0_5)], .x (.sl (.ints .i64 p1))], K => (sh_laws_FnExactIsSolution p0_0 p0_1 p0_2 p0_3 p0_4 p0_5 p1).bind fun r => K ⟨[.x (.bool r)], []⟩
  | _, _ => none
noncomputable def o_laws_FnExactIsSolution : Ora := ⟨[.val, .val], 2, false, G_laws_FnExactIsSolution⟩
def un_laws_FnExactIsSolution : Out → Option (Bool)
  | ⟨[.x (.bool r1)], []⟩ => some r1
  | _ => none
theorem un_laws_FnExactIsSolution_ok {o : Out} {r : Bool} (h : un_laws_FnExactIsSolution o = some r) : o = ⟨[.x (.bool r)], []⟩ := by
  unfold un_laws_FnExactIsSolution at h
  split at h
  · injection h with h
    subst h
    rfl
  · cases h
theorem n_laws_FnExactIsSolution : ∀ k o, E_laws_FnExactIsSolution.fn k = some o → Nat1 o := fun k o h => (ook_list (P := Try.prog) (l := O_laws_FnExactIsSolution) (fk := E_laws_FnExactIsSolution.fk) (List.forall_mem_cons.2 ⟨m_laws_szPuzzle, (List.forall_mem_cons.2 ⟨m_laws_toPuzzle, (List.forall_mem_cons.2 ⟨m_laws_eqPuzzle, (List.forall_mem_cons.2 ⟨m_spec_IsSolution, (List.forall_mem_cons.2 ⟨m_laws_toIntS, (List.forall_mem_cons.2 ⟨m_impl_IsSolution, (List.forall_mem_cons.2 ⟨m_laws_eqIntS, (List.forall_mem_nil _)⟩)⟩)⟩)⟩)⟩)⟩)⟩)).nat k o h
theorem u_laws_FnExactIsSolution (fuel : Nat) (p0_0 : Int) (p0_1 : Int) (p0_2 : List Int) (p0_3 : Int) (p0_4 : Int) (p0_5 : List Int) (p1 : List Int) : runFn TT E_laws_FnExactIsSolution (kp_laws_FnExactIsSolution 1) fuel [.val, .val] 2 false [[]] 56 [.tmp 4] b_laws_FnExactIsSolution [.agg [.int .i64 p0_0, .int .i64 p0_1, .sl (.ints .i64 p0_2), .int .i64 p0_3, .int .i64 p0_4, .sl (.ints .i64 p0_5)], .x (.sl (.ints .i64 p1))] un_laws_FnExactIsSolution = F_laws_FnExactIsSolution fuel p0_0 p0_1 p0_2 p0_3 p0_4 p0_5 p1 (fun r1 => some r1) := f_laws_FnExactIsSolution fuel p0_0 p0_1 p0_2 p0_3 p0_4 p0_5 p1 un_laws_FnExactIsSolution
theorem m_laws_FnExactIsSolution : MeetsO Try.prog 11 o_laws_FnExactIsSolution := by
  refine ⟨fun ρ ds K => ?_, ⟨_, meets_run (kp := kp_laws_FnExactIsSolution 1) (weak := false) (df := [[]]) tsOk (ook_list (l := O_laws_FnExactIsSolution) (fk := E_laws_FnExactIsSolution.fk) (List.forall_mem_cons.2 ⟨m_laws_szPuzzle, (List.forall_mem_cons.2 ⟨m_laws_toPuzzle, (List.forall_mem_cons.2 ⟨m_laws_eqPuzzle, (List.forall_mem_cons.2 ⟨m_spec_IsSolution, (List.forall_mem_cons.2 ⟨m_laws_toIntS, (List.forall_mem_cons.2 ⟨m_impl_IsSolution, (List.forall_mem_cons.2 ⟨m_laws_eqIntS, (List.forall_mem_nil _)⟩)⟩)⟩)⟩)⟩)⟩)⟩)) mixed Try.func11 (body := b_laws_FnExactIsSolution) (by kernel_rfl) (ntmps := 56) (by kernel_rfl) (rs := [.tmp 4]) (by kernel_rfl), fun ds out h => ?_⟩, ⟨_, Try.func11, by kernel_rfl, by kernel_rfl⟩⟩
  · show G_laws_FnExactIsSolution ds K = (G_laws_FnExactIsSolution ds some).bind K
    unfold G_laws_FnExactIsSolution
    split
    · cases sh_laws_FnExactIsSolution _ _ _ _ _ _ _ <;> rfl
    · rfl
  · replace h : G_laws_FnExactIsSolution ds some = some out := h
    unfold G_laws_FnExactIsSolution at h
    split at h
    · obtain ⟨r, hr, h⟩ := Option.bind_eq_some_iff.1 h
      injection h with h
      subst h
      have hn := (u_laws_FnExactIsSolution 0 _ _ _ _ _ _ _).trans hr
      rw [runFn_bind (K := un_laws_FnExactIsSolution) (K' := some) (f := un_laws_FnExactIsSolution) n_laws_FnExactIsSolution (fun _ => rfl)] at hn
      obtain ⟨o, h1, h2⟩ := Option.bind_eq_some_iff.1 hn
      rw [un_laws_FnExactIsSolution_ok h2] at h1
      exact ⟨0, h1⟩
    · cases h
end
end Go.Proofs.Ytafdeomdhkmjmaa

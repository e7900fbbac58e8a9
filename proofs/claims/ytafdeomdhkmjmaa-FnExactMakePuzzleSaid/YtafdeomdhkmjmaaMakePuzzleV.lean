/-
  The walks: what each function of the law answers is what the plain function beside it answers.
-/
import Derived.Test.YtafdeomdhkmjmaaMakePuzzleVa
set_option linter.unusedVariables false
set_option linter.unusedSimpArgs false
namespace Go.Proofs.Ytafdeomdhkmjmaa
open Go.BV
noncomputable section

/-! f47 loop.example.g01239.impl.MakePuzzle -/
noncomputable def b_impl_MakePuzzle : Code := Try.f47.body.getD .skip
def kp_impl_MakePuzzle (g : Nat) : Nat → Option Keep := lk [(6, ⟨[], [3, 8, 12, 48, 49, 50], [4128, 8352], [], [], g⟩)]
def O_impl_MakePuzzle : List (FuncId × Ora) := [(62, o_impl_Puzzle_own), (72, o_impl_graph_isTour), (78, o_impl_tourGraph)]
def E_impl_MakePuzzle : Env := ⟨lk O_impl_MakePuzzle, fun _ => false⟩
noncomputable def D_impl_MakePuzzle_0 {ρ : Type} (g fuel : Nat) (p0_0 : Int) (p0_1 : Int) (p0_2 : List Int) (p1_0 : Int) (p1_1 : Int) (p2 : List Int) (p3 : Int) (n : Nat) (v3 : Int) (v48 : List Int) (v49 : Int) (v50 : Int) (c4128_0 : Int) (c8352_0 : Int) (c8352_1 : Int) (c8352_2 : List Int) (c8352_3 : Int) (c8352_4 : Int) (c8352_5 : List Int) (Kk : Out → Option ρ) : Option ρ :=
  iter (run TT E_impl_MakePuzzle (kp_impl_MakePuzzle g) fuel (cL (cB (cS2 (cS1 (cS2 (cS2 (cS2 (cS2 (b_impl_MakePuzzle)))))))))) (nrmAt (kp_impl_MakePuzzle g) (firstRid (cL (cB (cS2 (cS1 (cS2 (cS2 (cS2 (cS2 (b_impl_MakePuzzle))))))))))) n (⟨[uu, uu, uu, .u (.x (.int .i64 v3)), uu, uu, uu, uu, .u (.x (.ptr 4128 0)), uu, uu, uu, .u (.x (.ptr 8352 0)), uu, uu, uu, uu, uu, uu, uu, uu, uu, uu, uu, uu, uu, uu, uu, uu, uu, uu, uu, uu, uu, uu, uu, uu, uu, uu, uu, uu, uu, uu, uu, uu, uu, uu, uu, .u (.x (.ro (.ints .i64 v48))), .u (.x (.int .i64 v49)), .u (.x (.int .i64 v50)), uu, uu, uu, uu, uu, uu, uu, uu, uu, uu, uu, uu, uu, uu, uu, uu], [(4128, [.int .i64 c4128_0, .int .i64 c4128_0, .nil (.ints .i64 []), .int .i64 c4128_0, .int .i64 c4128_0, .nil (.ints .i64 [])]), (8352, [.int .i64 c8352_0, .int .i64 c8352_1, .own 8344 (.ints .i64 c8352_2), .int .i64 c8352_3, .int .i64 c8352_4, .own 8345 (.ints .i64 c8352_5)])], [], []⟩) (blkK 0 (seqK (gateAt (kp_impl_MakePuzzle g) (200000 + firstRid (cS2 (cS2 (cS2 (cS2 (cS2 (b_impl_MakePuzzle)))))))) (run TT E_impl_MakePuzzle (kp_impl_MakePuzzle g) fuel (cS2 (cS2 (cS2 (cS2 (cS2 (b_impl_MakePuzzle))))))) (nrmAt (kp_impl_MakePuzzle g) (200000 + firstRid (cS2 (cS2 (cS2 (cS2 (cS2 (b_impl_MakePuzzle)))))))) (topK TT [.val, .val, .val, .val] false [[], []] [.cell 8 40, .tmp 9] [.agg [.int .i64 p0_0, .int .i64 p0_1, .sl (.ints .i64 p0_2)], .agg [.int .i64 p1_0, .int .i64 p1_1], .x (.sl (.ints .i64 p2)), .x (.int .i64 p3)] Kk)))
def S_impl_MakePuzzle_e {ρ : Type} (p0_0 : Int) (p0_1 : Int) (p0_2 : List Int) (p1_0 : Int) (p1_1 : Int) (p2 : List Int) (p3 : Int)  (k0 : (Int → List Int → Int → Int → Int → Int → Int → List Int → Int → Int → List Int → Option ρ)) (K : Int → Int → List Int → Int → Int → List Int → Bool → Option ρ) : Option ρ :=
  ((sh_impl_tourGraph p0_0 p0_1 p0_2 p1_0 p1_1 (16 : Int)).bind fun r1 => (bif !r1.2.2.2.2.2.2.2.2 then K 0 0 [] 0 0 [] false else ((sh_impl_graph_isTour r1.1 r1.2.1 r1.2.2.1 r1.2.2.2.1 r1.2.2.2.2.1 r1.2.2.2.2.2.1 r1.2.2.2.2.2.2.1 r1.2.2.2.2.2.2.2.1 p2).bind fun r2 => (bif !r2 then K 0 0 [] 0 0 [] false else (bif decide (p3 < (1 : Int)) then K 0 0 [] 0 0 [] false else (bif decide (p3 > (20 : Int)) then K 0 0 [] 0 0 [] false else (bif r1.1 then (if 0 ≤ (r1.2.2.2.2.2.2.2.1.length : Int) then (if (r1.2.2.2.2.2.2.2.1.length : Int) ≤ 1099511627776 then ((sh_impl_Puzzle_own p0_0 p0_1 p0_2 p1_0 p1_1 (List.replicate (r1.2.2.2.2.2.2.2.1.length : Int).toNat (0 : Int))).bind fun r3 => k0 p3 p2 (p2.length : Int) (0 : Int) 0 r3.1 r3.2.1 r3.2.2.1 r3.2.2.2.1 r3.2.2.2.2.1 r3.2.2.2.2.2) else none) else none) else none)))))))
theorem s_impl_MakePuzzle_e {ρ : Type} (g fuel : Nat) (p0_0 : Int) (p0_1 : Int) (p0_2 : List Int) (p1_0 : Int) (p1_1 : Int) (p2 : List Int) (p3 : Int) (Kk : Out → Option ρ) : runFn TT E_impl_MakePuzzle (kp_impl_MakePuzzle g) fuel [.val, .val, .val, .val] 4 false [[], []] 67 [.cell 8 40, .tmp 9] b_impl_MakePuzzle [.agg [.int .i64 p0_0, .int .i64 p0_1, .sl (.ints .i64 p0_2)], .agg [.int .i64 p1_0, .int .i64 p1_1], .x (.sl (.ints .i64 p2)), .x (.int .i64 p3)] Kk = S_impl_MakePuzzle_e p0_0 p0_1 p0_2 p1_0 p1_1 p2 p3  (fun v3 v48 v49 v50 c4128_0 c8352_0 c8352_1 c8352_2 c8352_3 c8352_4 c8352_5 => D_impl_MakePuzzle_0 g fuel p0_0 p0_1 p0_2 p1_0 p1_1 p2 p3 fuel v3 v48 v49 v50 c4128_0 c8352_0 c8352_1 c8352_2 c8352_3 c8352_4 c8352_5 Kk) (fun r1 r2 r3 r4 r5 r6 r7 => Kk ⟨[.agg [.int .i64 r1, .int .i64 r2, .sl (.ints .i64 r3), .int .i64 r4, .int .i64 r5, .sl (.ints .i64 r6)], .x (.bool r7)], []⟩) := by
  kernel_rfl
def S_impl_MakePuzzle_0 {ρ : Type}  (v3 : Int) (v48 : List Int) (v49 : Int) (v50 : Int) (c4128_0 : Int) (c8352_0 : Int) (c8352_1 : Int) (c8352_2 : List Int) (c8352_3 : Int) (c8352_4 : Int) (c8352_5 : List Int) (b0 : (Int → List Int → Int → Int → Int → Int → Int → List Int → Int → Int → List Int → Option ρ)) (K : Int → Int → List Int → Int → Int → List Int → Bool → Option ρ) : Option ρ :=
  (bif decide (v50 < v49) then (if 0 ≤ v50 then (if v50 < (v48.length : Int) then (if v3 = 0 then none else (bif decide ((v50.tmod v3) = (0 : Int)) then (if 0 ≤ (v48.getD v50.toNat 0) then (if (v48.getD v50.toNat 0) < (c8352_5.length : Int) then b0 v3 v48 v49 (IntKind.i64.wrap (v50 + (1 : Int))) c4128_0 c8352_0 c8352_1 c8352_2 c8352_3 c8352_4 (c8352_5.set ((v48.getD v50.toNat 0).toNat) (IntKind.i64.wrap (v50 + (1 : Int)))) else none) else none) else b0 v3 v48 v49 (IntKind.i64.wrap (v50 + (1 : Int))) c4128_0 c8352_0 c8352_1 c8352_2 c8352_3 c8352_4 c8352_5)) else none) else none) else K c8352_0 c8352_1 c8352_2 c8352_3 c8352_4 c8352_5 true)
theorem s_impl_MakePuzzle_0 {ρ : Type} (g fuel : Nat) (p0_0 : Int) (p0_1 : Int) (p0_2 : List Int) (p1_0 : Int) (p1_1 : Int) (p2 : List Int) (p3 : Int) (n : Nat) (v3 : Int) (v48 : List Int) (v49 : Int) (v50 : Int) (c4128_0 : Int) (c8352_0 : Int) (c8352_1 : Int) (c8352_2 : List Int) (c8352_3 : Int) (c8352_4 : Int) (c8352_5 : List Int) (Kk : Out → Option ρ) : D_impl_MakePuzzle_0 g fuel p0_0 p0_1 p0_2 p1_0 p1_1 p2 p3  (n + 1) v3 v48 v49 v50 c4128_0 c8352_0 c8352_1 c8352_2 c8352_3 c8352_4 c8352_5 Kk = S_impl_MakePuzzle_0  v3 v48 v49 v50 c4128_0 c8352_0 c8352_1 c8352_2 c8352_3 c8352_4 c8352_5 (fun v3 v48 v49 v50 c4128_0 c8352_0 c8352_1 c8352_2 c8352_3 c8352_4 c8352_5 => D_impl_MakePuzzle_0 g fuel p0_0 p0_1 p0_2 p1_0 p1_1 p2 p3 n v3 v48 v49 v50 c4128_0 c8352_0 c8352_1 c8352_2 c8352_3 c8352_4 c8352_5 Kk) (fun r1 r2 r3 r4 r5 r6 r7 => Kk ⟨[.agg [.int .i64 r1, .int .i64 r2, .sl (.ints .i64 r3), .int .i64 r4, .int .i64 r5, .sl (.ints .i64 r6)], .x (.bool r7)], []⟩) := by
  kernel_rfl
def F_impl_MakePuzzle_0 {ρ : Type} (fuel : Nat)   (K : Int → Int → List Int → Int → Int → List Int → Bool → Option ρ) : Nat → Int → List Int → Int → Int → Int → Int → Int → List Int → Int → Int → List Int → Option ρ
  | 0, _, _, _, _, _, _, _, _, _, _, _ => none
  | n + 1, v3, v48, v49, v50, c4128_0, c8352_0, c8352_1, c8352_2, c8352_3, c8352_4, c8352_5 => S_impl_MakePuzzle_0  v3 v48 v49 v50 c4128_0 c8352_0 c8352_1 c8352_2 c8352_3 c8352_4 c8352_5 (F_impl_MakePuzzle_0 fuel   K n) K
theorem f_impl_MakePuzzle_0 {ρ : Type} (fuel : Nat) (p0_0 : Int) (p0_1 : Int) (p0_2 : List Int) (p1_0 : Int) (p1_1 : Int) (p2 : List Int) (p3 : Int) (Kk : Out → Option ρ) : ∀ (n : Nat) (v3 : Int) (v48 : List Int) (v49 : Int) (v50 : Int) (c4128_0 : Int) (c8352_0 : Int) (c8352_1 : Int) (c8352_2 : List Int) (c8352_3 : Int) (c8352_4 : Int) (c8352_5 : List Int), D_impl_MakePuzzle_0 1 fuel p0_0 p0_1 p0_2 p1_0 p1_1 p2 p3  n v3 v48 v49 v50 c4128_0 c8352_0 c8352_1 c8352_2 c8352_3 c8352_4 c8352_5 Kk = F_impl_MakePuzzle_0 fuel   (fun r1 r2 r3 r4 r5 r6 r7 => Kk ⟨[.agg [.int .i64 r1, .int .i64 r2, .sl (.ints .i64 r3), .int .i64 r4, .int .i64 r5, .sl (.ints .i64 r6)], .x (.bool r7)], []⟩) n v3 v48 v49 v50 c4128_0 c8352_0 c8352_1 c8352_2 c8352_3 c8352_4 c8352_5 := by
  intro n
  induction n with
  | zero => intros; rfl
  | succ n ih =>
    intro v3 v48 v49 v50 c4128_0 c8352_0 c8352_1 c8352_2 c8352_3 c8352_4 c8352_5
    rw [s_impl_MakePuzzle_0, F_impl_MakePuzzle_0]
    try simp only [ih]
def F_impl_MakePuzzle {ρ : Type} (fuel : Nat) (p0_0 : Int) (p0_1 : Int) (p0_2 : List Int) (p1_0 : Int) (p1_1 : Int) (p2 : List Int) (p3 : Int)  (K : Int → Int → List Int → Int → Int → List Int → Bool → Option ρ) : Option ρ := S_impl_MakePuzzle_e p0_0 p0_1 p0_2 p1_0 p1_1 p2 p3  (F_impl_MakePuzzle_0 fuel   K fuel) K
theorem f_impl_MakePuzzle {ρ : Type} (fuel : Nat) (p0_0 : Int) (p0_1 : Int) (p0_2 : List Int) (p1_0 : Int) (p1_1 : Int) (p2 : List Int) (p3 : Int) (Kk : Out → Option ρ) : runFn TT E_impl_MakePuzzle (kp_impl_MakePuzzle 1) fuel [.val, .val, .val, .val] 4 false [[], []] 67 [.cell 8 40, .tmp 9] b_impl_MakePuzzle [.agg [.int .i64 p0_0, .int .i64 p0_1, .sl (.ints .i64 p0_2)], .agg [.int .i64 p1_0, .int .i64 p1_1], .x (.sl (.ints .i64 p2)), .x (.int .i64 p3)] Kk = F_impl_MakePuzzle fuel p0_0 p0_1 p0_2 p1_0 p1_1 p2 p3 (fun r1 r2 r3 r4 r5 r6 r7 => Kk ⟨[.agg [.int .i64 r1, .int .i64 r2, .sl (.ints .i64 r3), .int .i64 r4, .int .i64 r5, .sl (.ints .i64 r6)], .x (.bool r7)], []⟩) := by
  rw [s_impl_MakePuzzle_e, F_impl_MakePuzzle]
  try simp only [f_impl_MakePuzzle_0]
noncomputable def sh_impl_MakePuzzle (p0_0 : Int) (p0_1 : Int) (p0_2 : List Int) (p1_0 : Int) (p1_1 : Int) (p2 : List Int) (p3 : Int) : Option (Int × Int × List Int × Int × Int × List Int × Bool) := val fun n => F_impl_MakePuzzle n p0_0 p0_1 p0_2 p1_0 p1_1 p2 p3 (fun r1 r2 r3 r4 r5 r6 r7 => some (r1, r2, r3, r4, r5, r6, r7))
noncomputable def G_impl_MakePuzzle {ρ : Type} : List DU → (Out → Option ρ) → Option ρ
  | [.agg [.int .i64 p0_0, .int .i64 p0_1, .sl (.ints .i64 p0_2)], .agg [.int .i64 p1_0, .int .i64 p1_1], .x (.sl (.ints .i64 p2)), .x (.int .i64 p3)], K => (sh_impl_MakePuzzle p0_0 p0_1 p0_2 p1_0 p1_1 p2 p3).bind fun r => K ⟨[.agg [.int .i64 r.1, .int .i64 r.2.1, .sl (.ints .i64 r.2.2.1), .int .i64 r.2.2.2.1, .int .i64 r.2.2.2.2.1, .sl (.ints .i64 r.2.2.2.2.2.1)], .x (.bool r.2.2.2.2.2.2)], []⟩
  | _, _ => none
noncomputable def o_impl_MakePuzzle : Ora := ⟨[.val, .val, .val, .val], 4, false, G_impl_MakePuzzle⟩
def un_impl_MakePuzzle : Out → Option (Int × Int × List Int × Int × Int × List Int × Bool)
  | ⟨[.agg [.int .i64 r1, .int .i64 r2, .sl (.ints .i64 r3), .int .i64 r4, .int .i64 r5, .sl (.ints .i64 r6)], .x (.bool r7)], []⟩ => some (r1, r2, r3, r4, r5, r6, r7)
  | _ => none
theorem un_impl_MakePuzzle_ok {o : Out} {r : Int × Int × List Int × Int × Int × List Int × Bool} (h : un_impl_MakePuzzle o = some r) : o = ⟨[.agg [.int .i64 r.1, .int .i64 r.2.1, .sl (.ints .i64 r.2.2.1), .int .i64 r.2.2.2.1, .int .i64 r.2.2.2.2.1, .sl (.ints .i64 r.2.2.2.2.2.1)], .x (.bool r.2.2.2.2.2.2)], []⟩ := by
  unfold un_impl_MakePuzzle at h
  split at h
  · injection h with h
    subst h
    rfl
  · cases h
theorem n_impl_MakePuzzle : ∀ k o, E_impl_MakePuzzle.fn k = some o → Nat1 o := fun k o h => (ook_list (P := Try.prog) (l := O_impl_MakePuzzle) (fk := E_impl_MakePuzzle.fk) (List.forall_mem_cons.2 ⟨m_impl_Puzzle_own, (List.forall_mem_cons.2 ⟨m_impl_graph_isTour, (List.forall_mem_cons.2 ⟨m_impl_tourGraph, (List.forall_mem_nil _)⟩)⟩)⟩)).nat k o h
theorem u_impl_MakePuzzle (fuel : Nat) (p0_0 : Int) (p0_1 : Int) (p0_2 : List Int) (p1_0 : Int) (p1_1 : Int) (p2 : List Int) (p3 : Int) : runFn TT E_impl_MakePuzzle (kp_impl_MakePuzzle 1) fuel [.val, .val, .val, .val] 4 false [[], []] 67 [.cell 8 40, .tmp 9] b_impl_MakePuzzle [.agg [.int .i64 p0_0, .int .i64 p0_1, .sl (.ints .i64 p0_2)], .agg [.int .i64 p1_0, .int .i64 p1_1], .x (.sl (.ints .i64 p2)), .x (.int .i64 p3)] un_impl_MakePuzzle = F_impl_MakePuzzle fuel p0_0 p0_1 p0_2 p1_0 p1_1 p2 p3 (fun r1 r2 r3 r4 r5 r6 r7 => some (r1, r2, r3, r4, r5, r6, r7)) := f_impl_MakePuzzle fuel p0_0 p0_1 p0_2 p1_0 p1_1 p2 p3 un_impl_MakePuzzle
theorem sh_impl_MakePuzzle_of {n : Nat} {p0_0 : Int} {p0_1 : Int} {p0_2 : List Int} {p1_0 : Int} {p1_1 : Int} {p2 : List Int} {p3 : Int} {r : Int × Int × List Int × Int × Int × List Int × Bool} (h : F_impl_MakePuzzle n p0_0 p0_1 p0_2 p1_0 p1_1 p2 p3 (fun r1 r2 r3 r4 r5 r6 r7 => some (r1, r2, r3, r4, r5, r6, r7)) = some r) : sh_impl_MakePuzzle p0_0 p0_1 p0_2 p1_0 p1_1 p2 p3 = some r := val_of (fun n m r hm h => by rw [← u_impl_MakePuzzle] at h ⊢; exact runFn_mono n_impl_MakePuzzle hm h) h
theorem m_impl_MakePuzzle : MeetsO Try.prog 47 o_impl_MakePuzzle := by
  refine ⟨fun ρ ds K => ?_, ⟨_, meets_run (kp := kp_impl_MakePuzzle 1) (weak := false) (df := [[], []]) tsOk (ook_list (l := O_impl_MakePuzzle) (fk := E_impl_MakePuzzle.fk) (List.forall_mem_cons.2 ⟨m_impl_Puzzle_own, (List.forall_mem_cons.2 ⟨m_impl_graph_isTour, (List.forall_mem_cons.2 ⟨m_impl_tourGraph, (List.forall_mem_nil _)⟩)⟩)⟩)) mixed Try.func47 (body := b_impl_MakePuzzle) (by kernel_rfl) (ntmps := 67) (by kernel_rfl) (rs := [.cell 8 40, .tmp 9]) (by kernel_rfl), fun ds out h => ?_⟩, ⟨_, Try.func47, by kernel_rfl, by kernel_rfl⟩⟩
  · show G_impl_MakePuzzle ds K = (G_impl_MakePuzzle ds some).bind K
    unfold G_impl_MakePuzzle
    split
    · cases sh_impl_MakePuzzle _ _ _ _ _ _ _ <;> rfl
    · rfl
  · replace h : G_impl_MakePuzzle ds some = some out := h
    unfold G_impl_MakePuzzle at h
    split at h
    · obtain ⟨r, hr, h⟩ := Option.bind_eq_some_iff.1 h
      injection h with h
      subst h
      obtain ⟨n, hn⟩ := val_some hr
      replace hn := (u_impl_MakePuzzle n _ _ _ _ _ _ _).trans hn
      rw [runFn_bind (K := un_impl_MakePuzzle) (K' := some) (f := un_impl_MakePuzzle) n_impl_MakePuzzle (fun _ => rfl)] at hn
      obtain ⟨o, h1, h2⟩ := Option.bind_eq_some_iff.1 hn
      rw [un_impl_MakePuzzle_ok h2] at h1
      exact ⟨n, h1⟩
    · cases h
/-! f42 loop.example.g01239.laws.eqIntS -/
noncomputable def b_laws_eqIntS : Code := Try.f42.body.getD .skip
def kp_laws_eqIntS (g : Nat) : Nat → Option Keep := lk [(4, ⟨[], [0, 1, 5], [], [], [], g⟩)]
def O_laws_eqIntS : List (FuncId × Ora) := []
def E_laws_eqIntS : Env := ⟨lk O_laws_eqIntS, fun _ => false⟩
noncomputable def D_laws_eqIntS_0 {ρ : Type} (g fuel : Nat) (p0 : List Int) (p1 : List Int) (n : Nat) (v0 : List Int) (v1 : List Int) (v5 : Int) (Kk : Out → Option ρ) : Option ρ :=
  iter (run TT E_laws_eqIntS (kp_laws_eqIntS g) fuel (cL (cB (cS2 (cS1 (cS2 (cS2 (b_laws_eqIntS)))))))) (nrmAt (kp_laws_eqIntS g) (firstRid (cL (cB (cS2 (cS1 (cS2 (cS2 (b_laws_eqIntS))))))))) n (⟨[.u (.x (.ro (.ints .i64 v0))), .u (.x (.ro (.ints .i64 v1))), uu, uu, uu, .u (.x (.int .i64 v5)), uu, uu, uu, uu, uu, uu, uu, uu, uu, uu, uu, uu, uu, uu, uu, uu, uu, uu, uu, uu], [], [], []⟩) (blkK 0 (seqK (gateAt (kp_laws_eqIntS g) (200000 + firstRid (cS2 (cS2 (cS2 (b_laws_eqIntS)))))) (run TT E_laws_eqIntS (kp_laws_eqIntS g) fuel (cS2 (cS2 (cS2 (b_laws_eqIntS))))) (nrmAt (kp_laws_eqIntS g) (200000 + firstRid (cS2 (cS2 (cS2 (b_laws_eqIntS)))))) (topK TT [.val, .val] false [[]] [.tmp 4] [.x (.sl (.ints .i64 p0)), .x (.sl (.ints .i64 p1))] Kk)))
def S_laws_eqIntS_e {ρ : Type} (p0 : List Int) (p1 : List Int)  (k0 : (List Int → List Int → Int → Option ρ)) (K : Bool → Option ρ) : Option ρ :=
  (bif !decide ((p0.length : Int) = (p1.length : Int)) then K false else k0 p0 p1 (0 : Int))
theorem s_laws_eqIntS_e {ρ : Type} (g fuel : Nat) (p0 : List Int) (p1 : List Int) (Kk : Out → Option ρ) : runFn TT E_laws_eqIntS (kp_laws_eqIntS g) fuel [.val, .val] 2 false [[]] 26 [.tmp 4] b_laws_eqIntS [.x (.sl (.ints .i64 p0)), .x (.sl (.ints .i64 p1))] Kk = S_laws_eqIntS_e p0 p1  (fun v0 v1 v5 => D_laws_eqIntS_0 g fuel p0 p1 fuel v0 v1 v5 Kk) (fun r1 => Kk ⟨[.x (.bool r1)], []⟩) := by
  kernel_rfl
def S_laws_eqIntS_0 {ρ : Type}  (v0 : List Int) (v1 : List Int) (v5 : Int) (b0 : (List Int → List Int → Int → Option ρ)) (K : Bool → Option ρ) : Option ρ :=
  (bif decide (v5 < (v0.length : Int)) then (if 0 ≤ v5 then (if v5 < (v0.length : Int) then (if 0 ≤ v5 then (if v5 < (v1.length : Int) then (bif !decide ((v0.getD v5.toNat 0) = (v1.getD v5.toNat 0)) then K false else b0 v0 v1 (IntKind.i64.wrap (v5 + (1 : Int)))) else none) else none) else none) else none) else K true)
theorem s_laws_eqIntS_0 {ρ : Type} (g fuel : Nat) (p0 : List Int) (p1 : List Int) (n : Nat) (v0 : List Int) (v1 : List Int) (v5 : Int) (Kk : Out → Option ρ) : D_laws_eqIntS_0 g fuel p0 p1  (n + 1) v0 v1 v5 Kk = S_laws_eqIntS_0  v0 v1 v5 (fun v0 v1 v5 => D_laws_eqIntS_0 g fuel p0 p1 n v0 v1 v5 Kk) (fun r1 => Kk ⟨[.x (.bool r1)], []⟩) := by
  kernel_rfl
def F_laws_eqIntS_0 {ρ : Type} (fuel : Nat)   (K : Bool → Option ρ) : Nat → List Int → List Int → Int → Option ρ
  | 0, _, _, _ => none
  | n + 1, v0, v1, v5 => S_laws_eqIntS_0  v0 v1 v5 (F_laws_eqIntS_0 fuel   K n) K
theorem f_laws_eqIntS_0 {ρ : Type} (fuel : Nat) (p0 : List Int) (p1 : List Int) (Kk : Out → Option ρ) : ∀ (n : Nat) (v0 : List Int) (v1 : List Int) (v5 : Int), D_laws_eqIntS_0 1 fuel p0 p1  n v0 v1 v5 Kk = F_laws_eqIntS_0 fuel   (fun r1 => Kk ⟨[.x (.bool r1)], []⟩) n v0 v1 v5 := by
  intro n
  induction n with
  | zero => intros; rfl
  | succ n ih =>
    intro v0 v1 v5
    rw [s_laws_eqIntS_0, F_laws_eqIntS_0]
    try simp only [ih]
def F_laws_eqIntS {ρ : Type} (fuel : Nat) (p0 : List Int) (p1 : List Int)  (K : Bool → Option ρ) : Option ρ := S_laws_eqIntS_e p0 p1  (F_laws_eqIntS_0 fuel   K fuel) K
theorem f_laws_eqIntS {ρ : Type} (fuel : Nat) (p0 : List Int) (p1 : List Int) (Kk : Out → Option ρ) : runFn TT E_laws_eqIntS (kp_laws_eqIntS 1) fuel [.val, .val] 2 false [[]] 26 [.tmp 4] b_laws_eqIntS [.x (.sl (.ints .i64 p0)), .x (.sl (.ints .i64 p1))] Kk = F_laws_eqIntS fuel p0 p1 (fun r1 => Kk ⟨[.x (.bool r1)], []⟩) := by
  rw [s_laws_eqIntS_e, F_laws_eqIntS]
  try simp only [f_laws_eqIntS_0]
noncomputable def sh_laws_eqIntS (p0 : List Int) (p1 : List Int) : Option (Bool) := val fun n => F_laws_eqIntS n p0 p1 (fun r1 => some r1)
noncomputable def G_laws_eqIntS {ρ : Type} : List DU → (Out → Option ρ) → Option ρ
  | [.x (.sl (.ints .i64 p0)), .x (.sl (.ints .i64 p1))], K => (sh_laws_eqIntS p0 p1).bind fun r => K ⟨[.x (.bool r)], []⟩
  | _, _ => none
noncomputable def o_laws_eqIntS : Ora := ⟨[.val, .val], 2, false, G_laws_eqIntS⟩
def un_laws_eqIntS : Out → Option (Bool)
  | ⟨[.x (.bool r1)], []⟩ => some r1
  | _ => none
theorem un_laws_eqIntS_ok {o : Out} {r : Bool} (h : un_laws_eqIntS o = some r) : o = ⟨[.x (.bool r)], []⟩ := by
  unfold un_laws_eqIntS at h
  split at h
  · injection h with h
    subst h
    rfl
  · cases h
theorem n_laws_eqIntS : ∀ k o, E_laws_eqIntS.fn k = some o → Nat1 o := fun k o h => (ook_list (P := Try.prog) (l := O_laws_eqIntS) (fk := E_laws_eqIntS.fk) (List.forall_mem_nil _)).nat k o h
theorem u_laws_eqIntS (fuel : Nat) (p0 : List Int) (p1 : List Int) : runFn TT E_laws_eqIntS (kp_laws_eqIntS 1) fuel [.val, .val] 2 false [[]] 26 [.tmp 4] b_laws_eqIntS [.x (.sl (.ints .i64 p0)), .x (.sl (.ints .i64 p1))] un_laws_eqIntS = F_laws_eqIntS fuel p0 p1 (fun r1 => some r1) := f_laws_eqIntS fuel p0 p1 un_laws_eqIntS
theorem sh_laws_eqIntS_of {n : Nat} {p0 : List Int} {p1 : List Int} {r : Bool} (h : F_laws_eqIntS n p0 p1 (fun r1 => some r1) = some r) : sh_laws_eqIntS p0 p1 = some r := val_of (fun n m r hm h => by rw [← u_laws_eqIntS] at h ⊢; exact runFn_mono n_laws_eqIntS hm h) h
theorem m_laws_eqIntS : MeetsO Try.prog 42 o_laws_eqIntS := by
  refine ⟨fun ρ ds K => ?_, ⟨_, meets_run (kp := kp_laws_eqIntS 1) (weak := false) (df := [[]]) tsOk (ook_list (l := O_laws_eqIntS) (fk := E_laws_eqIntS.fk) (List.forall_mem_nil _)) mixed Try.func42 (body := b_laws_eqIntS) (by kernel_rfl) (ntmps := 26) (by kernel_rfl) (rs := [.tmp 4]) (by kernel_rfl), fun ds out h => ?_⟩, ⟨_, Try.func42, by kernel_rfl, by kernel_rfl⟩⟩
  · show G_laws_eqIntS ds K = (G_laws_eqIntS ds some).bind K
    unfold G_laws_eqIntS
    split
    · cases sh_laws_eqIntS _ _ <;> rfl
    · rfl
  · replace h : G_laws_eqIntS ds some = some out := h
    unfold G_laws_eqIntS at h
    split at h
    · obtain ⟨r, hr, h⟩ := Option.bind_eq_some_iff.1 h
      injection h with h
      subst h
      obtain ⟨n, hn⟩ := val_some hr
      replace hn := (u_laws_eqIntS n _ _).trans hn
      rw [runFn_bind (K := un_laws_eqIntS) (K' := some) (f := un_laws_eqIntS) n_laws_eqIntS (fun _ => rfl)] at hn
      obtain ⟨o, h1, h2⟩ := Option.bind_eq_some_iff.1 hn
      rw [un_laws_eqIntS_ok h2] at h1
      exact ⟨n, h1⟩
    · cases h
/-! f48 loop.example.g01239.laws.eqBoard -/
noncomputable def b_laws_eqBoard : Code := Try.f48.body.getD .skip
def kp_laws_eqBoard (g : Nat) : Nat → Option Keep := lk []
def O_laws_eqBoard : List (FuncId × Ora) := [(42, o_laws_eqIntS)]
def E_laws_eqBoard : Env := ⟨lk O_laws_eqBoard, fun _ => false⟩
def S_laws_eqBoard_e {ρ : Type} (p0_0 : Int) (p0_1 : Int) (p0_2 : List Int) (p1_0 : Int) (p1_1 : Int) (p1_2 : List Int)   (K : Bool → Option ρ) : Option ρ :=
  (bif !decide (p0_0 = p1_0) then K false else (bif !decide (p0_1 = p1_1) then K false else ((sh_laws_eqIntS p0_2 p1_2).bind fun r1 => (bif !r1 then K false else K true))))
theorem s_laws_eqBoard_e {ρ : Type} (g fuel : Nat) (p0_0 : Int) (p0_1 : Int) (p0_2 : List Int) (p1_0 : Int) (p1_1 : Int) (p1_2 : List Int) (Kk : Out → Option ρ) : runFn TT E_laws_eqBoard (kp_laws_eqBoard g) fuel [.val, .val] 2 false [[]] 21 [.tmp 4] b_laws_eqBoard [.agg [.int .i64 p0_0, .int .i64 p0_1, .sl (.ints .i64 p0_2)], .agg [.int .i64 p1_0, .int .i64 p1_1, .sl (.ints .i64 p1_2)]] Kk = S_laws_eqBoard_e p0_0 p0_1 p0_2 p1_0 p1_1 p1_2   (fun r1 => Kk ⟨[.x (.bool r1)], []⟩) := by
  kernel_rfl
def F_laws_eqBoard {ρ : Type} (fuel : Nat) (p0_0 : Int) (p0_1 : Int) (p0_2 : List Int) (p1_0 : Int) (p1_1 : Int) (p1_2 : List Int)  (K : Bool → Option ρ) : Option ρ := S_laws_eqBoard_e p0_0 p0_1 p0_2 p1_0 p1_1 p1_2   K
theorem f_laws_eqBoard {ρ : Type} (fuel : Nat) (p0_0 : Int) (p0_1 : Int) (p0_2 : List Int) (p1_0 : Int) (p1_1 : Int) (p1_2 : List Int) (Kk : Out → Option ρ) : runFn TT E_laws_eqBoard (kp_laws_eqBoard 1) fuel [.val, .val] 2 false [[]] 21 [.tmp 4] b_laws_eqBoard [.agg [.int .i64 p0_0, .int .i64 p0_1, .sl (.ints .i64 p0_2)], .agg [.int .i64 p1_0, .int .i64 p1_1, .sl (.ints .i64 p1_2)]] Kk = F_laws_eqBoard fuel p0_0 p0_1 p0_2 p1_0 p1_1 p1_2 (fun r1 => Kk ⟨[.x (.bool r1)], []⟩) := by
  rw [s_laws_eqBoard_e, F_laws_eqBoard]
noncomputable def sh_laws_eqBoard (p0_0 : Int) (p0_1 : Int) (p0_2 : List Int) (p1_0 : Int) (p1_1 : Int) (p1_2 : List Int) : Option (Bool) := F_laws_eqBoard 0 p0_0 p0_1 p0_2 p1_0 p1_1 p1_2 (fun r1 => some r1)
noncomputable def G_laws_eqBoard {ρ : Type} : List DU → (Out → Option ρ) → Option ρ
  | [.agg [.int .i64 p0_0, .int .i64 p0_1, .sl (.ints .i64 p0_2)], .agg [.int .i64 p1_0, .int .i64 p1_1, .sl (.ints .i64 p1_2)]], K => (sh_laws_eqBoard p0_0 p0_1 p0_2 p1_0 p1_1 p1_2).bind fun r => K ⟨[.x (.bool r)], []⟩
  | _, _ => none
noncomputable def o_laws_eqBoard : Ora := ⟨[.val, .val], 2, false, G_laws_eqBoard⟩
def un_laws_eqBoard : Out → Option (Bool)
  | ⟨[.x (.bool r1)], []⟩ => some r1
  | _ => none
theorem un_laws_eqBoard_ok {o : Out} {r : Bool} (h : un_laws_eqBoard o = some r) : o = ⟨[.x (.bool r)], []⟩ := by
  unfold un_laws_eqBoard at h
  split at h
  · injection h with h
    subst h
    rfl
  · cases h
theorem n_laws_eqBoard : ∀ k o, E_laws_eqBoard.fn k = some o → Nat1 o := fun k o h => (ook_list (P := Try.prog) (l := O_laws_eqBoard) (fk := E_laws_eqBoard.fk) (List.forall_mem_cons.2 ⟨m_laws_eqIntS, (List.forall_mem_nil _)⟩)).nat k o h
theorem u_laws_eqBoard (fuel : Nat) (p0_0 : Int) (p0_1 : Int) (p0_2 : List Int) (p1_0 : Int) (p1_1 : Int) (p1_2 : List Int) : runFn TT E_laws_eqBoard (kp_laws_eqBoard 1) fuel [.val, .val] 2 false [[]] 21 [.tmp 4] b_laws_eqBoard [.agg [.int .i64 p0_0, .int .i64 p0_1, .sl (.ints .i64 p0_2)], .agg [.int .i64 p1_0, .int .i64 p1_1, .sl (.ints .i64 p1_2)]] un_laws_eqBoard = F_laws_eqBoard fuel p0_0 p0_1 p0_2 p1_0 p1_1 p1_2 (fun r1 => some r1) := f_laws_eqBoard fuel p0_0 p0_1 p0_2 p1_0 p1_1 p1_2 un_laws_eqBoard
theorem m_laws_eqBoard : MeetsO Try.prog 48 o_laws_eqBoard := by
  refine ⟨fun ρ ds K => ?_, ⟨_, meets_run (kp := kp_laws_eqBoard 1) (weak := false) (df := [[]]) tsOk (ook_list (l := O_laws_eqBoard) (fk := E_laws_eqBoard.fk) (List.forall_mem_cons.2 ⟨m_laws_eqIntS, (List.forall_mem_nil _)⟩)) mixed Try.func48 (body := b_laws_eqBoard) (by kernel_rfl) (ntmps := 21) (by kernel_rfl) (rs := [.tmp 4]) (by kernel_rfl), fun ds out h => ?_⟩, ⟨_, Try.func48, by kernel_rfl, by kernel_rfl⟩⟩
  · show G_laws_eqBoard ds K = (G_laws_eqBoard ds some).bind K
    unfold G_laws_eqBoard
    split
    · cases sh_laws_eqBoard _ _ _ _ _ _ <;> rfl
    · rfl
  · replace h : G_laws_eqBoard ds some = some out := h
    unfold G_laws_eqBoard at h
    split at h
    · obtain ⟨r, hr, h⟩ := Option.bind_eq_some_iff.1 h
      injection h with h
      subst h
      have hn := (u_laws_eqBoard 0 _ _ _ _ _ _).trans hr
      rw [runFn_bind (K := un_laws_eqBoard) (K' := some) (f := un_laws_eqBoard) n_laws_eqBoard (fun _ => rfl)] at hn
      obtain ⟨o, h1, h2⟩ := Option.bind_eq_some_iff.1 hn
      rw [un_laws_eqBoard_ok h2] at h1
      exact ⟨0, h1⟩
    · cases h
/-! f51 loop.example.g01239.laws.eqLeaper -/
noncomputable def b_laws_eqLeaper : Code := Try.f51.body.getD .skip
def kp_laws_eqLeaper (g : Nat) : Nat → Option Keep := lk []
def O_laws_eqLeaper : List (FuncId × Ora) := []
def E_laws_eqLeaper : Env := ⟨lk O_laws_eqLeaper, fun _ => false⟩
def S_laws_eqLeaper_e {ρ : Type} (p0_0 : Int) (p0_1 : Int) (p1_0 : Int) (p1_1 : Int)   (K : Bool → Option ρ) : Option ρ :=
  (bif !decide (p0_0 = p1_0) then K false else (bif !decide (p0_1 = p1_1) then K false else K true))
theorem s_laws_eqLeaper_e {ρ : Type} (g fuel : Nat) (p0_0 : Int) (p0_1 : Int) (p1_0 : Int) (p1_1 : Int) (Kk : Out → Option ρ) : runFn TT E_laws_eqLeaper (kp_laws_eqLeaper g) fuel [.val, .val] 2 false [[]] 15 [.tmp 4] b_laws_eqLeaper [.agg [.int .i64 p0_0, .int .i64 p0_1], .agg [.int .i64 p1_0, .int .i64 p1_1]] Kk = S_laws_eqLeaper_e p0_0 p0_1 p1_0 p1_1   (fun r1 => Kk ⟨[.x (.bool r1)], []⟩) := by
  kernel_rfl
def F_laws_eqLeaper {ρ : Type} (fuel : Nat) (p0_0 : Int) (p0_1 : Int) (p1_0 : Int) (p1_1 : Int)  (K : Bool → Option ρ) : Option ρ := S_laws_eqLeaper_e p0_0 p0_1 p1_0 p1_1   K
theorem f_laws_eqLeaper {ρ : Type} (fuel : Nat) (p0_0 : Int) (p0_1 : Int) (p1_0 : Int) (p1_1 : Int) (Kk : Out → Option ρ) : runFn TT E_laws_eqLeaper (kp_laws_eqLeaper 1) fuel [.val, .val] 2 false [[]] 15 [.tmp 4] b_laws_eqLeaper [.agg [.int .i64 p0_0, .int .i64 p0_1], .agg [.int .i64 p1_0, .int .i64 p1_1]] Kk = F_laws_eqLeaper fuel p0_0 p0_1 p1_0 p1_1 (fun r1 => Kk ⟨[.x (.bool r1)], []⟩) := by
  rw [s_laws_eqLeaper_e, F_laws_eqLeaper]
noncomputable def sh_laws_eqLeaper (p0_0 : Int) (p0_1 : Int) (p1_0 : Int) (p1_1 : Int) : Option (Bool) := F_laws_eqLeaper 0 p0_0 p0_1 p1_0 p1_1 (fun r1 => some r1)
noncomputable def G_laws_eqLeaper {ρ : Type} : List DU → (Out → Option ρ) → Option ρ
  | [.agg [.int .i64 p0_0, .int .i64 p0_1], .agg [.int .i64 p1_0, .int .i64 p1_1]], K => (sh_laws_eqLeaper p0_0 p0_1 p1_0 p1_1).bind fun r => K ⟨[.x (.bool r)], []⟩
  | _, _ => none
noncomputable def o_laws_eqLeaper : Ora := ⟨[.val, .val], 2, false, G_laws_eqLeaper⟩
def un_laws_eqLeaper : Out → Option (Bool)
  | ⟨[.x (.bool r1)], []⟩ => some r1
  | _ => none
theorem un_laws_eqLeaper_ok {o : Out} {r : Bool} (h : un_laws_eqLeaper o = some r) : o = ⟨[.x (.bool r)], []⟩ := by
  unfold un_laws_eqLeaper at h
  split at h
  · injection h with h
    subst h
    rfl
  · cases h
theorem n_laws_eqLeaper : ∀ k o, E_laws_eqLeaper.fn k = some o → Nat1 o := fun k o h => (ook_list (P := Try.prog) (l := O_laws_eqLeaper) (fk := E_laws_eqLeaper.fk) (List.forall_mem_nil _)).nat k o h
theorem u_laws_eqLeaper (fuel : Nat) (p0_0 : Int) (p0_1 : Int) (p1_0 : Int) (p1_1 : Int) : runFn TT E_laws_eqLeaper (kp_laws_eqLeaper 1) fuel [.val, .val] 2 false [[]] 15 [.tmp 4] b_laws_eqLeaper [.agg [.int .i64 p0_0, .int .i64 p0_1], .agg [.int .i64 p1_0, .int .i64 p1_1]] un_laws_eqLeaper = F_laws_eqLeaper fuel p0_0 p0_1 p1_0 p1_1 (fun r1 => some r1) := f_laws_eqLeaper fuel p0_0 p0_1 p1_0 p1_1 un_laws_eqLeaper
theorem m_laws_eqLeaper : MeetsO Try.prog 51 o_laws_eqLeaper := by
  refine ⟨fun ρ ds K => ?_, ⟨_, meets_run (kp := kp_laws_eqLeaper 1) (weak := false) (df := [[]]) tsOk (ook_list (l := O_laws_eqLeaper) (fk := E_laws_eqLeaper.fk) (List.forall_mem_nil _)) mixed Try.func51 (body := b_laws_eqLeaper) (by kernel_rfl) (ntmps := 15) (by kernel_rfl) (rs := [.tmp 4]) (by kernel_rfl), fun ds out h => ?_⟩, ⟨_, Try.func51, by kernel_rfl, by kernel_rfl⟩⟩
  · show G_laws_eqLeaper ds K = (G_laws_eqLeaper ds some).bind K
    unfold G_laws_eqLeaper
    split
    · cases sh_laws_eqLeaper _ _ _ _ <;> rfl
    · rfl
  · replace h : G_laws_eqLeaper ds some = some out := h
    unfold G_laws_eqLeaper at h
    split at h
    · obtain ⟨r, hr, h⟩ := Option.bind_eq_some_iff.1 h
      injection h with h
      subst h
      have hn := (u_laws_eqLeaper 0 _ _ _ _).trans hr
      rw [runFn_bind (K := un_laws_eqLeaper) (K' := some) (f := un_laws_eqLeaper) n_laws_eqLeaper (fun _ => rfl)] at hn
      obtain ⟨o, h1, h2⟩ := Option.bind_eq_some_iff.1 hn
      rw [un_laws_eqLeaper_ok h2] at h1
      exact ⟨0, h1⟩
    · cases h
/-! f22 loop.example.g01239.laws.eqPuzzle -/
noncomputable def b_laws_eqPuzzle : Code := Try.f22.body.getD .skip
def kp_laws_eqPuzzle (g : Nat) : Nat → Option Keep := lk []
def O_laws_eqPuzzle : List (FuncId × Ora) := [(42, o_laws_eqIntS), (48, o_laws_eqBoard), (51, o_laws_eqLeaper)]
def E_laws_eqPuzzle : Env := ⟨lk O_laws_eqPuzzle, fun _ => false⟩
def S_laws_eqPuzzle_e {ρ : Type} (p0_0 : Int) (p0_1 : Int) (p0_2 : List Int) (p0_3 : Int) (p0_4 : Int) (p0_5 : List Int) (p1_0 : Int) (p1_1 : Int) (p1_2 : List Int) (p1_3 : Int) (p1_4 : Int) (p1_5 : List Int)   (K : Bool → Option ρ) : Option ρ :=
  ((sh_laws_eqBoard p0_0 p0_1 p0_2 p1_0 p1_1 p1_2).bind fun r1 => (bif !r1 then K false else ((sh_laws_eqLeaper p0_3 p0_4 p1_3 p1_4).bind fun r2 => (bif !r2 then K false else ((sh_laws_eqIntS p0_5 p1_5).bind fun r3 => (bif !r3 then K false else K true))))))
theorem s_laws_eqPuzzle_e {ρ : Type} (g fuel : Nat) (p0_0 : Int) (p0_1 : Int) (p0_2 : List Int) (p0_3 : Int) (p0_4 : Int) (p0_5 : List Int) (p1_0 : Int) (p1_1 : Int) (p1_2 : List Int) (p1_3 : Int) (p1_4 : Int) (p1_5 : List Int) (Kk : Out → Option ρ) : runFn TT E_laws_eqPuzzle (kp_laws_eqPuzzle g) fuel [.val, .val] 2 false [[]] 23 [.tmp 4] b_laws_eqPuzzle [.agg [.int .i64 p0_0, .int .i64 p0_1, .sl (.ints .i64 p0_2), .int .i64 p0_3, .int .i64 p0_4, .sl (.ints .i64 p0_5)], .agg [.int .i64 p1_0, .int .i64 p1_1, .sl (.ints .i64 p1_2), .int .i64 p1_3, .int .i64 p1_4, .sl (.ints .i64 p1_5)]] Kk = S_laws_eqPuzzle_e p0_0 p0_1 p0_2 p0_3 p0_4 p0_5 p1_0 p1_1 p1_2 p1_3 p1_4 p1_5   (fun r1 => Kk ⟨[.x (.bool r1)], []⟩) := by
  kernel_rfl
def F_laws_eqPuzzle {ρ : Type} (fuel : Nat) (p0_0 : Int) (p0_1 : Int) (p0_2 : List Int) (p0_3 : Int) (p0_4 : Int) (p0_5 : List Int) (p1_0 : Int) (p1_1 : Int) (p1_2 : List Int) (p1_3 : Int) (p1_4 : Int) (p1_5 : List Int)  (K : Bool → Option ρ) : Option ρ := S_laws_eqPuzzle_e p0_0 p0_1 p0_2 p0_3 p0_4 p0_5 p1_0 p1_1 p1_2 p1_3 p1_4 p1_5   K
theorem f_laws_eqPuzzle {ρ : Type} (fuel : Nat) (p0_0 : Int) (p0_1 : Int) (p0_2 : List Int) (p0_3 : Int) (p0_4 : Int) (p0_5 : List Int) (p1_0 : Int) (p1_1 : Int) (p1_2 : List Int) (p1_3 : Int) (p1_4 : Int) (p1_5 : List Int) (Kk : Out → Option ρ) : runFn TT E_laws_eqPuzzle (kp_laws_eqPuzzle 1) fuel [.val, .val] 2 false [[]] 23 [.tmp 4] b_laws_eqPuzzle [.agg [.int .i64 p0_0, .int .i64 p0_1, .sl (.ints .i64 p0_2), .int .i64 p0_3, .int .i64 p0_4, .sl (.ints .i64 p0_5)], .agg [.int .i64 p1_0, .int .i64 p1_1, .sl (.ints .i64 p1_2), .int .i64 p1_3, .int .i64 p1_4, .sl (.ints .i64 p1_5)]] Kk = F_laws_eqPuzzle fuel p0_0 p0_1 p0_2 p0_3 p0_4 p0_5 p1_0 p1_1 p1_2 p1_3 p1_4 p1_5 (fun r1 => Kk ⟨[.x (.bool r1)], []⟩) := by
  rw [s_laws_eqPuzzle_e, F_laws_eqPuzzle]
noncomputable def sh_laws_eqPuzzle (p0_0 : Int) (p0_1 : Int) (p0_2 : List Int) (p0_3 : Int) (p0_4 : Int) (p0_5 : List Int) (p1_0 : Int) (p1_1 : Int) (p1_2 : List Int) (p1_3 : Int) (p1_4 : Int) (p1_5 : List Int) : Option (Bool) := F_laws_eqPuzzle 0 p0_0 p0_1 p0_2 p0_3 p0_4 p0_5 p1_0 p1_1 p1_2 p1_3 p1_4 p1_5 (fun r1 => some r1)
noncomputable def G_laws_eqPuzzle {ρ : Type} : List DU → (Out → Option ρ) → Option ρ
  | [.agg [.int .i64 p0_0, .int .i64 p0_1, .sl (.ints .i64 p0_2), .int .i64 p0_3, .int .i64 p0_4, .sl (.ints .i64 p0_5)], .agg [.int .i64 p1_0, .int .i64 p1_1, .sl (.ints .i64 p1_2), .int .i64 p1_3, .int .i64 p1_4, .sl (.ints .i64 p1_5)]], K => (sh_laws_eqPuzzle p0_0 p0_1 p0_2 p0_3 p0_4 p0_5 p1_0 p1_1 p1_2 p1_3 p1_4 p1_5).bind fun r => K ⟨[.x (.bool r)], []⟩
  | _, _ => none
noncomputable def o_laws_eqPuzzle : Ora := ⟨[.val, .val], 2, false, G_laws_eqPuzzle⟩
def un_laws_eqPuzzle : Out → Option (Bool)
  | ⟨[.x (.bool r1)], []⟩ => some r1
  | _ => none
theorem un_laws_eqPuzzle_ok {o : Out} {r : Bool} (h : un_laws_eqPuzzle o = some r) : o = ⟨[.x (.bool r)], []⟩ := by
  unfold un_laws_eqPuzzle at h
  split at h
  · injection h with h
    subst h
    rfl
  · cases h
theorem n_laws_eqPuzzle : ∀ k o, E_laws_eqPuzzle.fn k = some o → Nat1 o := fun k o h => (ook_list (P := Try.prog) (l := O_laws_eqPuzzle) (fk := E_laws_eqPuzzle.fk) (List.forall_mem_cons.2 ⟨m_laws_eqIntS, (List.forall_mem_cons.2 ⟨m_laws_eqBoard, (List.forall_mem_cons.2 ⟨m_laws_eqLeaper, (List.forall_mem_nil _)⟩)⟩)⟩)).nat k o h
theorem u_laws_eqPuzzle (fuel : Nat) (p0_0 : Int) (p0_1 : Int) (p0_2 : List Int) (p0_3 : Int) (p0_4 : Int) (p0_5 : List Int) (p1_0 : Int) (p1_1 : Int) (p1_2 : List Int) (p1_3 : Int) (p1_4 : Int) (p1_5 : List Int) : runFn TT E_laws_eqPuzzle (kp_laws_eqPuzzle 1) fuel [.val, .val] 2 false [[]] 23 [.tmp 4] b_laws_eqPuzzle [.agg [.int .i64 p0_0, .int .i64 p0_1, .sl (.ints .i64 p0_2), .int .i64 p0_3, .int .i64 p0_4, .sl (.ints .i64 p0_5)], .agg [.int .i64 p1_0, .int .i64 p1_1, .sl (.ints .i64 p1_2), .int .i64 p1_3, .int .i64 p1_4, .sl (.ints .i64 p1_5)]] un_laws_eqPuzzle = F_laws_eqPuzzle fuel p0_0 p0_1 p0_2 p0_3 p0_4 p0_5 p1_0 p1_1 p1_2 p1_3 p1_4 p1_5 (fun r1 => some r1) := f_laws_eqPuzzle fuel p0_0 p0_1 p0_2 p0_3 p0_4 p0_5 p1_0 p1_1 p1_2 p1_3 p1_4 p1_5 un_laws_eqPuzzle
theorem m_laws_eqPuzzle : MeetsO Try.prog 22 o_laws_eqPuzzle := by
  refine ⟨fun ρ ds K => ?_, ⟨_, meets_run (kp := kp_laws_eqPuzzle 1) (weak := false) (df := [[]]) tsOk (ook_list (l := O_laws_eqPuzzle) (fk := E_laws_eqPuzzle.fk) (List.forall_mem_cons.2 ⟨m_laws_eqIntS, (List.forall_mem_cons.2 ⟨m_laws_eqBoard, (List.forall_mem_cons.2 ⟨m_laws_eqLeaper, (List.forall_mem_nil _)⟩)⟩)⟩)) mixed Try.func22 (body := b_laws_eqPuzzle) (by kernel_rfl) (ntmps := 23) (by kernel_rfl) (rs := [.tmp 4]) (by kernel_rfl), fun ds out h => ?_⟩, ⟨_, Try.func22, by kernel_rfl, by kernel_rfl⟩⟩
  · show G_laws_eqPuzzle ds K = (G_laws_eqPuzzle ds some).bind K
    unfold G_laws_eqPuzzle
    split
    · cases sh_laws_eqPuzzle _ _ _ _ _ _ _ _ _ _ _ _ <;> rfl
    · rfl
  · replace h : G_laws_eqPuzzle ds some = some out := h
    unfold G_laws_eqPuzzle at h
    split at h
    · obtain ⟨r, hr, h⟩ := Option.bind_eq_some_iff.1 h
      injection h with h
      subst h
      have hn := (u_laws_eqPuzzle 0 _ _ _ _ _ _ _ _ _ _ _ _).trans hr
      rw [runFn_bind (K := un_laws_eqPuzzle) (K' := some) (f := un_laws_eqPuzzle) n_laws_eqPuzzle (fun _ => rfl)] at hn
      obtain ⟨o, h1, h2⟩ := Option.bind_eq_some_iff.1 hn
      rw [un_laws_eqPuzzle_ok h2] at h1
      exact ⟨0, h1⟩
    · cases h
/-! f50 loop.example.g01239.laws.markIntS -/
noncomputable def b_laws_markIntS : Code := Try.f50.body.getD .skip
def kp_laws_markIntS (g : Nat) : Nat → Option Keep := lk [(2, ⟨[], [0, 1, 5], [], [], [], g⟩)]
def O_laws_markIntS : List (FuncId × Ora) := []
def E_laws_markIntS : Env := ⟨lk O_laws_markIntS, fun _ => false⟩
noncomputable def D_laws_markIntS_0 {ρ : Type} (g fuel : Nat) (p0 : List Int) (p1 : Int) (n : Nat) (v0 : List Int) (v1 : Int) (v5 : Int) (Kk : Out → Option ρ) : Option ρ :=
  iter (run TT E_laws_markIntS (kp_laws_markIntS g) fuel (cL (cB (cS2 (cS1 (cS2 (b_laws_markIntS))))))) (nrmAt (kp_laws_markIntS g) (firstRid (cL (cB (cS2 (cS1 (cS2 (b_laws_markIntS)))))))) n (⟨[.u (.x (.own 0 (.ints .i64 v0))), .u (.x (.int .i64 v1)), uu, uu, uu, .u (.x (.int .i64 v5)), uu, uu, uu, uu, uu, uu, uu, uu, uu, uu, uu, uu, uu], [], [(0, .ints .i64 v0)], []⟩) (blkK 0 (seqK (gateAt (kp_laws_markIntS g) (200000 + firstRid (cS2 (cS2 (b_laws_markIntS))))) (run TT E_laws_markIntS (kp_laws_markIntS g) fuel (cS2 (cS2 (b_laws_markIntS)))) (nrmAt (kp_laws_markIntS g) (200000 + firstRid (cS2 (cS2 (b_laws_markIntS))))) (topK TT [.wr, .val] false [[]] [.tmp 4] [.x (.sl (.ints .i64 p0)), .x (.int .i64 p1)] Kk)))
def S_laws_markIntS_e {ρ : Type} (p0 : List Int) (p1 : Int)  (k0 : (List Int → Int → Int → Option ρ)) : Option ρ :=
  k0 p0 p1 (0 : Int)
theorem s_laws_markIntS_e {ρ : Type} (g fuel : Nat) (p0 : List Int) (p1 : Int) (Kk : Out → Option ρ) : runFn TT E_laws_markIntS (kp_laws_markIntS g) fuel [.wr, .val] 2 false [[]] 19 [.tmp 4] b_laws_markIntS [.x (.sl (.ints .i64 p0)), .x (.int .i64 p1)] Kk = S_laws_markIntS_e p0 p1  (fun v0 v1 v5 => D_laws_markIntS_0 g fuel p0 p1 fuel v0 v1 v5 Kk) := by
  kernel_rfl
def S_laws_markIntS_0 {ρ : Type}  (v0 : List Int) (v1 : Int) (v5 : Int) (b0 : (List Int → Int → Int → Option ρ)) (K : Int → List Int → Option ρ) : Option ρ :=
  (bif decide (v5 < (v0.length : Int)) then (if 0 ≤ v5 then (if v5 < (v0.length : Int) then b0 (v0.set v5.toNat v1) (IntKind.i64.wrap (v1 + (1 : Int))) (IntKind.i64.wrap (v5 + (1 : Int))) else none) else none) else K v1 v0)
theorem s_laws_markIntS_0 {ρ : Type} (g fuel : Nat) (p0 : List Int) (p1 : Int) (n : Nat) (v0 : List Int) (v1 : Int) (v5 : Int) (Kk : Out → Option ρ) : D_laws_markIntS_0 g fuel p0 p1  (n + 1) v0 v1 v5 Kk = S_laws_markIntS_0  v0 v1 v5 (fun v0 v1 v5 => D_laws_markIntS_0 g fuel p0 p1 n v0 v1 v5 Kk) (fun r1 r2 => Kk ⟨[.x (.int .i64 r1)], [.x (.sl (.ints .i64 r2))]⟩) := by
  kernel_rfl
def F_laws_markIntS_0 {ρ : Type} (fuel : Nat)   (K : Int → List Int → Option ρ) : Nat → List Int → Int → Int → Option ρ
  | 0, _, _, _ => none
  | n + 1, v0, v1, v5 => S_laws_markIntS_0  v0 v1 v5 (F_laws_markIntS_0 fuel   K n) K
theorem f_laws_markIntS_0 {ρ : Type} (fuel : Nat) (p0 : List Int) (p1 : Int) (Kk : Out → Option ρ) : ∀ (n : Nat) (v0 : List Int) (v1 : Int) (v5 : Int), D_laws_markIntS_0 1 fuel p0 p1  n v0 v1 v5 Kk = F_laws_markIntS_0 fuel   (fun r1 r2 => Kk ⟨[.x (.int .i64 r1)], [.x (.sl (.ints .i64 r2))]⟩) n v0 v1 v5 := by
  intro n
  induction n with
  | zero => intros; rfl
  | succ n ih =>
    intro v0 v1 v5
    rw [s_laws_markIntS_0, F_laws_markIntS_0]
    try simp only [ih]
def F_laws_markIntS {ρ : Type} (fuel : Nat) (p0 : List Int) (p1 : Int)  (K : Int → List Int → Option ρ) : Option ρ := S_laws_markIntS_e p0 p1  (F_laws_markIntS_0 fuel   K fuel)
theorem f_laws_markIntS {ρ : Type} (fuel : Nat) (p0 : List Int) (p1 : Int) (Kk : Out → Option ρ) : runFn TT E_laws_markIntS (kp_laws_markIntS 1) fuel [.wr, .val] 2 false [[]] 19 [.tmp 4] b_laws_markIntS [.x (.sl (.ints .i64 p0)), .x (.int .i64 p1)] Kk = F_laws_markIntS fuel p0 p1 (fun r1 r2 => Kk ⟨[.x (.int .i64 r1)], [.x (.sl (.ints .i64 r2))]⟩) := by
  rw [s_laws_markIntS_e, F_laws_markIntS]
  try simp only [f_laws_markIntS_0]
noncomputable def sh_laws_markIntS (p0 : List Int) (p1 : Int) : Option (Int × List Int) := val fun n => F_laws_markIntS n p0 p1 (fun r1 r2 => some (r1, r2))
noncomputable def G_laws_markIntS {ρ : Type} : List DU → (Out → Option ρ) → Option ρ
  | [.x (.sl (.ints .i64 p0)), .x (.int .i64 p1)], K => (sh_laws_markIntS p0 p1).bind fun r => K ⟨[.x (.int .i64 r.1)], [.x (.sl (.ints .i64 r.2))]⟩
  | _, _ => none
noncomputable def o_laws_markIntS : Ora := ⟨[.wr, .val], 2, false, G_laws_markIntS⟩
def un_laws_markIntS : Out → Option (Int × List Int)
  | ⟨[.x (.int .i64 r1)], [.x (.sl (.ints .i64 r2))]⟩ => some (r1, r2)
  | _ => none
theorem un_laws_markIntS_ok {o : Out} {r : Int × List Int} (h : un_laws_markIntS o = some r) : o = ⟨[.x (.int .i64 r.1)], [.x (.sl (.ints .i64 r.2))]⟩ := by
  unfold un_laws_markIntS at h
  split at h
  · injection h with h
    subst h
    rfl
  · cases h
theorem n_laws_markIntS : ∀ k o, E_laws_markIntS.fn k = some o → Nat1 o := fun k o h => (ook_list (P := Try.prog) (l := O_laws_markIntS) (fk := E_laws_markIntS.fk) (List.forall_mem_nil _)).nat k o h
theorem u_laws_markIntS (fuel : Nat) (p0 : List Int) (p1 : Int) : runFn TT E_laws_markIntS (kp_laws_markIntS 1) fuel [.wr, .val] 2 false [[]] 19 [.tmp 4] b_laws_markIntS [.x (.sl (.ints .i64 p0)), .x (.int .i64 p1)] un_laws_markIntS = F_laws_markIntS fuel p0 p1 (fun r1 r2 => some (r1, r2)) := f_laws_markIntS fuel p0 p1 un_laws_markIntS
theorem sh_laws_markIntS_of {n : Nat} {p0 : List Int} {p1 : Int} {r : Int × List Int} (h : F_laws_markIntS n p0 p1 (fun r1 r2 => some (r1, r2)) = some r) : sh_laws_markIntS p0 p1 = some r := val_of (fun n m r hm h => by rw [← u_laws_markIntS] at h ⊢; exact runFn_mono n_laws_markIntS hm h) h
theorem m_laws_markIntS : MeetsO Try.prog 50 o_laws_markIntS := by
  refine ⟨fun ρ ds K => ?_, ⟨_, meets_run (kp := kp_laws_markIntS 1) (weak := false) (df := [[]]) tsOk (ook_list (l := O_laws_markIntS) (fk := E_laws_markIntS.fk) (List.forall_mem_nil _)) mixed Try.func50 (body := b_laws_markIntS) (by kernel_rfl) (ntmps := 19) (by kernel_rfl) (rs := [.tmp 4]) (by kernel_rfl), fun ds out h => ?_⟩, ⟨_, Try.func50, by kernel_rfl, by kernel_rfl⟩⟩
  · show G_laws_markIntS ds K = (G_laws_markIntS ds some).bind K
    unfold G_laws_markIntS
    split
    · cases sh_laws_markIntS _ _ <;> rfl
    · rfl
  · replace h : G_laws_markIntS ds some = some out := h
    unfold G_laws_markIntS at h
    split at h
    · obtain ⟨r, hr, h⟩ := Option.bind_eq_some_iff.1 h
      injection h with h
      subst h
      obtain ⟨n, hn⟩ := val_some hr
      replace hn := (u_laws_markIntS n _ _).trans hn
      rw [runFn_bind (K := un_laws_markIntS) (K' := some) (f := un_laws_markIntS) n_laws_markIntS (fun _ => rfl)] at hn
      obtain ⟨o, h1, h2⟩ := Option.bind_eq_some_iff.1 hn
      rw [un_laws_markIntS_ok h2] at h1
      exact ⟨n, h1⟩
    · cases h
/-! f49 loop.example.g01239.laws.markBoard -/
noncomputable def b_laws_markBoard : Code := Try.f49.body.getD .skip
def kp_laws_markBoard (g : Nat) : Nat → Option Keep := lk []
def O_laws_markBoard : List (FuncId × Ora) := [(50, o_laws_markIntS)]
def E_laws_markBoard : Env := ⟨lk O_laws_markBoard, fun _ => false⟩
def S_laws_markBoard_e {ρ : Type} (p0_0 : Int) (p0_1 : Int) (p0_2 : List Int) (p1 : Int)   (K : Int → Int → Int → List Int → Option ρ) : Option ρ :=
  ((sh_laws_markIntS p0_2 p1).bind fun r1 => K r1.1 p0_0 p0_1 r1.2)
theorem s_laws_markBoard_e {ρ : Type} (g fuel : Nat) (p0_0 : Int) (p0_1 : Int) (p0_2 : List Int) (p1 : Int) (Kk : Out → Option ρ) : runFn TT E_laws_markBoard (kp_laws_markBoard g) fuel [.wr, .val] 2 false [[]] 10 [.tmp 4] b_laws_markBoard [.agg [.int .i64 p0_0, .int .i64 p0_1, .sl (.ints .i64 p0_2)], .x (.int .i64 p1)] Kk = S_laws_markBoard_e p0_0 p0_1 p0_2 p1   (fun r1 r2 r3 r4 => Kk ⟨[.x (.int .i64 r1)], [.agg [.int .i64 r2, .int .i64 r3, .sl (.ints .i64 r4)]]⟩) := by
  kernel_rfl
def F_laws_markBoard {ρ : Type} (fuel : Nat) (p0_0 : Int) (p0_1 : Int) (p0_2 : List Int) (p1 : Int)  (K : Int → Int → Int → List Int → Option ρ) : Option ρ := S_laws_markBoard_e p0_0 p0_1 p0_2 p1   K
theorem f_laws_markBoard {ρ : Type} (fuel : Nat) (p0_0 : Int) (p0_1 : Int) (p0_2 : List Int) (p1 : Int) (Kk : Out → Option ρ) : runFn TT E_laws_markBoard (kp_laws_markBoard 1) fuel [.wr, .val] 2 false [[]] 10 [.tmp 4] b_laws_markBoard [.agg [.int .i64 p0_0, .int .i64 p0_1, .sl (.ints .i64 p0_2)], .x (.int .i64 p1)] Kk = F_laws_markBoard fuel p0_0 p0_1 p0_2 p1 (fun r1 r2 r3 r4 => Kk ⟨[.x (.int .i64 r1)], [.agg [.int .i64 r2, .int .i64 r3, .sl (.ints .i64 r4)]]⟩) := by
  rw [s_laws_markBoard_e, F_laws_markBoard]
noncomputable def sh_laws_markBoard (p0_0 : Int) (p0_1 : Int) (p0_2 : List Int) (p1 : Int) : Option (Int × Int × Int × List Int) := F_laws_markBoard 0 p0_0 p0_1 p0_2 p1 (fun r1 r2 r3 r4 => some (r1, r2, r3, r4))
noncomputable def G_laws_markBoard {ρ : Type} : List DU → (Out → Option ρ) → Option ρ
  | [.agg [.int .i64 p0_0, .int .i64 p0_1, .sl (.ints .i64 p0_2)], .x (.int .i64 p1)], K => (sh_laws_markBoard p0_0 p0_1 p0_2 p1).bind fun r => K ⟨[.x (.int .i64 r.1)], [.agg [.int .i64 r.2.1, .int .i64 r.2.2.1, .sl (.ints .i64 r.2.2.2)]]⟩
  | _, _ => none
noncomputable def o_laws_markBoard : Ora := ⟨[.wr, .val], 2, false, G_laws_markBoard⟩
def un_laws_markBoard : Out → Option (Int × Int × Int × List Int)
  | ⟨[.x (.int .i64 r1)], [.agg [.int .i64 r2, .int .i64 r3, .sl (.ints .i64 r4)]]⟩ => some (r1, r2, r3, r4)
  | _ => none
theorem un_laws_markBoard_ok {o : Out} {r : Int × Int × Int × List Int} (h : un_laws_markBoard o = some r) : o = ⟨[.x (.int .i64 r.1)], [.agg [.int .i64 r.2.1, .int .i64 r.2.2.1, .sl (.ints .i64 r.2.2.2)]]⟩ := by
  unfold un_laws_markBoard at h
  split at h
  · injection h with h
    subst h
    rfl
  · cases h
theorem n_laws_markBoard : ∀ k o, E_laws_markBoard.fn k = some o → Nat1 o := fun k o h => (ook_list (P := Try.prog) (l := O_laws_markBoard) (fk := E_laws_markBoard.fk) (List.forall_mem_cons.2 ⟨m_laws_markIntS, (List.forall_mem_nil _)⟩)).nat k o h
theorem u_laws_markBoard (fuel : Nat) (p0_0 : Int) (p0_1 : Int) (p0_2 : List Int) (p1 : Int) : runFn TT E_laws_markBoard (kp_laws_markBoard 1) fuel [.wr, .val] 2 false [[]] 10 [.tmp 4] b_laws_markBoard [.agg [.int .i64 p0_0, .int .i64 p0_1, .sl (.ints .i64 p0_2)], .x (.int .i64 p1)] un_laws_markBoard = F_laws_markBoard fuel p0_0 p0_1 p0_2 p1 (fun r1 r2 r3 r4 => some (r1, r2, r3, r4)) := f_laws_markBoard fuel p0_0 p0_1 p0_2 p1 un_laws_markBoard
theorem m_laws_markBoard : MeetsO Try.prog 49 o_laws_markBoard := by
  refine ⟨fun ρ ds K => ?_, ⟨_, meets_run (kp := kp_laws_markBoard 1) (weak := false) (df := [[]]) tsOk (ook_list (l := O_laws_markBoard) (fk := E_laws_markBoard.fk) (List.forall_mem_cons.2 ⟨m_laws_markIntS, (List.forall_mem_nil _)⟩)) mixed Try.func49 (body := b_laws_markBoard) (by kernel_rfl) (ntmps := 10) (by kernel_rfl) (rs := [.tmp 4]) (by kernel_rfl), fun ds out h => ?_⟩, ⟨_, Try.func49, by kernel_rfl, by kernel_rfl⟩⟩
  · show G_laws_markBoard ds K = (G_laws_markBoard ds some).bind K
    unfold G_laws_markBoard
    split
    · cases sh_laws_markBoard _ _ _ _ <;> rfl
    · rfl
  · replace h : G_laws_markBoard ds some = some out := h
    unfold G_laws_markBoard at h
    split at h
    · obtain ⟨r, hr, h⟩ := Option.bind_eq_some_iff.1 h
      injection h with h
      subst h
      have hn := (u_laws_markBoard 0 _ _ _ _).trans hr
      rw [runFn_bind (K := un_laws_markBoard) (K' := some) (f := un_laws_markBoard) n_laws_markBoard (fun _ => rfl)] at hn
      obtain ⟨o, h1, h2⟩ := Option.bind_eq_some_iff.1 hn
      rw [un_laws_markBoard_ok h2] at h1
      exact ⟨0, h1⟩
    · cases h
/-! f27 loop.example.g01239.laws.markPuzzle -/
noncomputable def b_laws_markPuzzle : Code := Try.f27.body.getD .skip
def kp_laws_markPuzzle (g : Nat) : Nat → Option Keep := lk []
def O_laws_markPuzzle : List (FuncId × Ora) := [(49, o_laws_markBoard), (50, o_laws_markIntS)]
def E_laws_markPuzzle : Env := ⟨lk O_laws_markPuzzle, fun _ => false⟩
def S_laws_markPuzzle_e {ρ : Type} (p0_0 : Int) (p0_1 : Int) (p0_2 : List Int) (p0_3 : Int) (p0_4 : Int) (p0_5 : List Int) (p1 : Int)   (K : Int → Int → Int → List Int → Int → Int → List Int → Option ρ) : Option ρ :=
  ((sh_laws_markBoard p0_0 p0_1 p0_2 p1).bind fun r1 => ((sh_laws_markIntS p0_5 r1.1).bind fun r2 => K r2.1 p0_0 p0_1 r1.2.2.2 p0_3 p0_4 r2.2))
theorem s_laws_markPuzzle_e {ρ : Type} (g fuel : Nat) (p0_0 : Int) (p0_1 : Int) (p0_2 : List Int) (p0_3 : Int) (p0_4 : Int) (p0_5 : List Int) (p1 : Int) (Kk : Out → Option ρ) : runFn TT E_laws_markPuzzle (kp_laws_markPuzzle g) fuel [.wr, .val] 2 false [[]] 14 [.tmp 4] b_laws_markPuzzle [.agg [.int .i64 p0_0, .int .i64 p0_1, .sl (.ints .i64 p0_2), .int .i64 p0_3, .int .i64 p0_4, .sl (.ints .i64 p0_5)], .x (.int .i64 p1)] Kk = S_laws_markPuzzle_e p0_0 p0_1 p0_2 p0_3 p0_4 p0_5 p1   (fun r1 r2 r3 r4 r5 r6 r7 => Kk ⟨[.x (.int .i64 r1)], [.agg [.int .i64 r2, .int .i64 r3, .sl (.ints .i64 r4), .int .i64 r5, .int .i64 r6, .sl (.ints .i64 r7)]]⟩) := by
  kernel_rfl
def F_laws_markPuzzle {ρ : Type} (fuel : Nat) (p0_0 : Int) (p0_1 : Int) (p0_2 : List Int) (p0_3 : Int) (p0_4 : Int) (p0_5 : List Int) (p1 : Int)  (K : Int → Int → Int → List Int → Int → Int → List Int → Option ρ) : Option ρ := S_laws_markPuzzle_e p0_0 p0_1 p0_2 p0_3 p0_4 p0_5 p1   K
theorem f_laws_markPuzzle {ρ : Type} (fuel : Nat) (p0_0 : Int) (p0_1 : Int) (p0_2 : List Int) (p0_3 : Int) (p0_4 : Int) (p0_5 : List Int) (p1 : Int) (Kk : Out → Option ρ) : runFn TT E_laws_markPuzzle (kp_laws_markPuzzle 1) fuel [.wr, .val] 2 false [[]] 14 [.tmp 4] b_laws_markPuzzle [.agg [.int .i64 p0_0, .int .i64 p0_1, .sl (.ints .i64 p0_2), .int .i64 p0_3, .int .i64 p0_4, .sl (.ints .i64 p0_5)], .x (.int .i64 p1)] Kk = F_laws_markPuzzle fuel p0_0 p0_1 p0_2 p0_3 p0_4 p0_5 p1 (fun r1 r2 r3 r4 r5 r6 r7 => Kk ⟨[.x (.int .i64 r1)], [.agg [.int .i64 r2, .int .i64 r3, .sl (.ints .i64 r4), .int .i64 r5, .int .i64 r6, .sl (.ints .i64 r7)]]⟩) := by
  rw [s_laws_markPuzzle_e, F_laws_markPuzzle]
noncomputable def sh_laws_markPuzzle (p0_0 : Int) (p0_1 : Int) (p0_2 : List Int) (p0_3 : Int) (p0_4 : Int) (p0_5 : List Int) (p1 : Int) : Option (Int × Int × Int × List Int × Int × Int × List Int) := F_laws_markPuzzle 0 p0_0 p0_1 p0_2 p0_3 p0_4 p0_5 p1 (fun r1 r2 r3 r4 r5 r6 r7 => some (r1, r2, r3, r4, r5, r6, r7))
noncomputable def G_laws_markPuzzle {ρ : Type} : List DU → (Out → Option ρ) → Option ρ
  | [.agg [.int .i64 p0_0, .int .i64 p0_1, .sl (.ints .i64 p0_2), .int .i64 p0_3, .int .i64 p0_4, .sl (.ints .i64 p0_5)], .x (.int .i64 p1)], K => (sh_laws_markPuzzle p0_0 p0_1 p0_2 p0_3 p0_4 p0_5 p1).bind fun r => K ⟨[.x (.int .i64 r.1)], [.agg [.int .i64 r.2.1, .int .i64 r.2.2.1, .sl (.ints .i64 r.2.2.2.1), .int .i64 r.2.2.2.2.1, .int .i64 r.2.2.2.2.2.1, .sl (.ints .i64 r.2.2.2.2.2.2)]]⟩
  | _, _ => none
noncomputable def o_laws_markPuzzle : Ora := ⟨[.wr, .val], 2, false, G_laws_markPuzzle⟩
def un_laws_markPuzzle : Out → Option (Int × Int × Int × List Int × Int × Int × List Int)
  | ⟨[.x (.int .i64 r1)], [.agg [.int .i64 r2, .int .i64 r3, .sl (.ints .i64 r4), .int .i64 r5, .int .i64 r6, .sl (.ints .i64 r7)]]⟩ => some (r1, r2, r3, r4, r5, r6, r7)
  | _ => none
theorem un_laws_markPuzzle_ok {o : Out} {r : Int × Int × Int × List Int × Int × Int × List Int} (h : un_laws_markPuzzle o = some r) : o = ⟨[.x (.int .i64 r.1)], [.agg [.int .i64 r.2.1, .int .i64 r.2.2.1, .sl (.ints .i64 r.2.2.2.1), .int .i64 r.2.2.2.2.1, .int .i64 r.2.2.2.2.2.1, .sl (.ints .i64 r.2.2.2.2.2.2)]]⟩ := by
  unfold un_laws_markPuzzle at h
  split at h
  · injection h with h
    subst h
    rfl
  · cases h
theorem n_laws_markPuzzle : ∀ k o, E_laws_markPuzzle.fn k = some o → Nat1 o := fun k o h => (ook_list (P := Try.prog) (l := O_laws_markPuzzle) (fk := E_laws_markPuzzle.fk) (List.forall_mem_cons.2 ⟨m_laws_markBoard, (List.forall_mem_cons.2 ⟨m_laws_markIntS, (List.forall_mem_nil _)⟩)⟩)).nat k o h
theorem u_laws_markPuzzle (fuel : Nat) (p0_0 : Int) (p0_1 : Int) (p0_2 : List Int) (p0_3 : Int) (p0_4 : Int) (p0_5 : List Int) (p1 : Int) : runFn TT E_laws_markPuzzle (kp_laws_markPuzzle 1) fuel [.wr, .val] 2 false [[]] 14 [.tmp 4] b_laws_markPuzzle [.agg [.int .i64 p0_0, .int .i64 p0_1, .sl (.ints .i64 p0_2), .int .i64 p0_3, .int .i64 p0_4, .sl (.ints .i64 p0_5)], .x (.int .i64 p1)] un_laws_markPuzzle = F_laws_markPuzzle fuel p0_0 p0_1 p0_2 p0_3 p0_4 p0_5 p1 (fun r1 r2 r3 r4 r5 r6 r7 => some (r1, r2, r3, r4, r5, r6, r7)) := f_laws_markPuzzle fuel p0_0 p0_1 p0_2 p0_3 p0_4 p0_5 p1 un_laws_markPuzzle
theorem m_laws_markPuzzle : MeetsO Try.prog 27 o_laws_markPuzzle := by
  refine ⟨fun ρ ds K => ?_, ⟨_, meets_run (kp := kp_laws_markPuzzle 1) (weak := false) (df := [[]]) tsOk (ook_list (l := O_laws_markPuzzle) (fk := E_laws_markPuzzle.fk) (List.forall_mem_cons.2 ⟨m_laws_markBoard, (List.forall_mem_cons.2 ⟨m_laws_markIntS, (List.forall_mem_nil _)⟩)⟩)) mixed Try.func27 (body := b_laws_markPuzzle) (by kernel_rfl) (ntmps := 14) (by kernel_rfl) (rs := [.tmp 4]) (by kernel_rfl), fun ds out h => ?_⟩, ⟨_, Try.func27, by kernel_rfl, by kernel_rfl⟩⟩
  · show G_laws_markPuzzle ds K = (G_laws_markPuzzle ds some).bind K
    unfold G_laws_markPuzzle
    split
    · cases sh_laws_markPuzzle _ _ _ _ _ _ _ <;> rfl
    · rfl
  · replace h : G_laws_markPuzzle ds some = some out := h
    unfold G_laws_markPuzzle at h
    split at h
    · obtain ⟨r, hr, h⟩ := Option.bind_eq_some_iff.1 h
      injection h with h
      subst h
      have hn := (u_laws_markPuzzle 0 _ _ _ _ _ _ _).trans hr
      rw [runFn_bind (K := un_laws_markPuzzle) (K' := some) (f := un_laws_markPuzzle) n_laws_markPuzzle (fun _ => rfl)] at hn
      obtain ⟨o, h1, h2⟩ := Option.bind_eq_some_iff.1 hn
      rw [un_laws_markPuzzle_ok h2] at h1
      exact ⟨0, h1⟩
    · cases h
/-! f53 loop.example.g01239.laws.heldIntS -/
noncomputable def b_laws_heldIntS : Code := Try.f53.body.getD .skip
def kp_laws_heldIntS (g : Nat) : Nat → Option Keep := lk [(2, ⟨[], [0, 1, 5], [], [], [], g⟩)]
def O_laws_heldIntS : List (FuncId × Ora) := []
def E_laws_heldIntS : Env := ⟨lk O_laws_heldIntS, fun _ => false⟩
noncomputable def D_laws_heldIntS_0 {ρ : Type} (g fuel : Nat) (p0 : List Int) (p1 : Int) (n : Nat) (v0 : List Int) (v1 : Int) (v5 : Int) (Kk : Out → Option ρ) : Option ρ :=
  iter (run TT E_laws_heldIntS (kp_laws_heldIntS g) fuel (cL (cB (cS2 (cS1 (cS2 (b_laws_heldIntS))))))) (nrmAt (kp_laws_heldIntS g) (firstRid (cL (cB (cS2 (cS1 (cS2 (b_laws_heldIntS)))))))) n (⟨[.u (.x (.ro (.ints .i64 v0))), .u (.x (.int .i64 v1)), uu, uu, uu, .u (.x (.int .i64 v5)), uu, uu, uu, uu, uu, uu, uu, uu, uu, uu, uu, uu, uu, uu, uu], [], [], []⟩) (blkK 0 (seqK (gateAt (kp_laws_heldIntS g) (200000 + firstRid (cS2 (cS2 (b_laws_heldIntS))))) (run TT E_laws_heldIntS (kp_laws_heldIntS g) fuel (cS2 (cS2 (b_laws_heldIntS)))) (nrmAt (kp_laws_heldIntS g) (200000 + firstRid (cS2 (cS2 (b_laws_heldIntS))))) (topK TT [.val, .val] false [[]] [.tmp 4] [.x (.sl (.ints .i64 p0)), .x (.int .i64 p1)] Kk)))
def S_laws_heldIntS_e {ρ : Type} (p0 : List Int) (p1 : Int)  (k0 : (List Int → Int → Int → Option ρ)) : Option ρ :=
  k0 p0 p1 (0 : Int)
theorem s_laws_heldIntS_e {ρ : Type} (g fuel : Nat) (p0 : List Int) (p1 : Int) (Kk : Out → Option ρ) : runFn TT E_laws_heldIntS (kp_laws_heldIntS g) fuel [.val, .val] 2 false [[]] 21 [.tmp 4] b_laws_heldIntS [.x (.sl (.ints .i64 p0)), .x (.int .i64 p1)] Kk = S_laws_heldIntS_e p0 p1  (fun v0 v1 v5 => D_laws_heldIntS_0 g fuel p0 p1 fuel v0 v1 v5 Kk) := by
  kernel_rfl
def S_laws_heldIntS_0 {ρ : Type}  (v0 : List Int) (v1 : Int) (v5 : Int) (b0 : (List Int → Int → Int → Option ρ)) (K : Int → Option ρ) : Option ρ :=
  (bif decide (v5 < (v0.length : Int)) then (if 0 ≤ v5 then (if v5 < (v0.length : Int) then (bif !decide ((v0.getD v5.toNat 0) = v1) then K (-1 : Int) else b0 v0 (IntKind.i64.wrap (v1 + (1 : Int))) (IntKind.i64.wrap (v5 + (1 : Int)))) else none) else none) else K v1)
theorem s_laws_heldIntS_0 {ρ : Type} (g fuel : Nat) (p0 : List Int) (p1 : Int) (n : Nat) (v0 : List Int) (v1 : Int) (v5 : Int) (Kk : Out → Option ρ) : D_laws_heldIntS_0 g fuel p0 p1  (n + 1) v0 v1 v5 Kk = S_laws_heldIntS_0  v0 v1 v5 (fun v0 v1 v5 => D_laws_heldIntS_0 g fuel p0 p1 n v0 v1 v5 Kk) (fun r1 => Kk ⟨[.x (.int .i64 r1)], []⟩) := by
  kernel_rfl
def F_laws_heldIntS_0 {ρ : Type} (fuel : Nat)   (K : Int → Option ρ) : Nat → List Int → Int → Int → Option ρ
  | 0, _, _, _ => none
  | n + 1, v0, v1, v5 => S_laws_heldIntS_0  v0 v1 v5 (F_laws_heldIntS_0 fuel   K n) K
theorem f_laws_heldIntS_0 {ρ : Type} (fuel : Nat) (p0 : List Int) (p1 : Int) (Kk : Out → Option ρ) : ∀ (n : Nat) (v0 : List Int) (v1 : Int) (v5 : Int), D_laws_heldIntS_0 1 fuel p0 p1  n v0 v1 v5 Kk = F_laws_heldIntS_0 fuel   (fun r1 => Kk ⟨[.x (.int .i64 r1)], []⟩) n v0 v1 v5 := by
  intro n
  induction n with
  | zero => intros; rfl
  | succ n ih =>
    intro v0 v1 v5
    rw [s_laws_heldIntS_0, F_laws_heldIntS_0]
    try simp only [ih]
def F_laws_heldIntS {ρ : Type} (fuel : Nat) (p0 : List Int) (p1 : Int)  (K : Int → Option ρ) : Option ρ := S_laws_heldIntS_e p0 p1  (F_laws_heldIntS_0 fuel   K fuel)
theorem f_laws_heldIntS {ρ : Type} (fuel : Nat) (p0 : List Int) (p1 : Int) (Kk : Out → Option ρ) : runFn TT E_laws_heldIntS (kp_laws_heldIntS 1) fuel [.val, .val] 2 false [[]] 21 [.tmp 4] b_laws_heldIntS [.x (.sl (.ints .i64 p0)), .x (.int .i64 p1)] Kk = F_laws_heldIntS fuel p0 p1 (fun r1 => Kk ⟨[.x (.int .i64 r1)], []⟩) := by
  rw [s_laws_heldIntS_e, F_laws_heldIntS]
  try simp only [f_laws_heldIntS_0]
noncomputable def sh_laws_heldIntS (p0 : List Int) (p1 : Int) : Option (Int) := val fun n => F_laws_heldIntS n p0 p1 (fun r1 => some r1)
noncomputable def G_laws_heldIntS {ρ : Type} : List DU → (Out → Option ρ) → Option ρ
  | [.x (.sl (.ints .i64 p0)), .x (.int .i64 p1)], K => (sh_laws_heldIntS p0 p1).bind fun r => K ⟨[.x (.int .i64 r)], []⟩
  | _, _ => none
noncomputable def o_laws_heldIntS : Ora := ⟨[.val, .val], 2, false, G_laws_heldIntS⟩
def un_laws_heldIntS : Out → Option (Int)
  | ⟨[.x (.int .i64 r1)], []⟩ => some r1
  | _ => none
theorem un_laws_heldIntS_ok {o : Out} {r : Int} (h : un_laws_heldIntS o = some r) : o = ⟨[.x (.int .i64 r)], []⟩ := by
  unfold un_laws_heldIntS at h
  split at h
  · injection h with h
    subst h
    rfl
  · cases h
theorem n_laws_heldIntS : ∀ k o, E_laws_heldIntS.fn k = some o → Nat1 o := fun k o h => (ook_list (P := Try.prog) (l := O_laws_heldIntS) (fk := E_laws_heldIntS.fk) (List.forall_mem_nil _)).nat k o h
theorem u_laws_heldIntS (fuel : Nat) (p0 : List Int) (p1 : Int) : runFn TT E_laws_heldIntS (kp_laws_heldIntS 1) fuel [.val, .val] 2 false [[]] 21 [.tmp 4] b_laws_heldIntS [.x (.sl (.ints .i64 p0)), .x (.int .i64 p1)] un_laws_heldIntS = F_laws_heldIntS fuel p0 p1 (fun r1 => some r1) := f_laws_heldIntS fuel p0 p1 un_laws_heldIntS
theorem sh_laws_heldIntS_of {n : Nat} {p0 : List Int} {p1 : Int} {r : Int} (h : F_laws_heldIntS n p0 p1 (fun r1 => some r1) = some r) : sh_laws_heldIntS p0 p1 = some r := val_of (fun n m r hm h => by rw [← u_laws_heldIntS] at h ⊢; exact runFn_mono n_laws_heldIntS hm h) h
theorem m_laws_heldIntS : MeetsO Try.prog 53 o_laws_heldIntS := by
  refine ⟨fun ρ ds K => ?_, ⟨_, meets_run (kp := kp_laws_heldIntS 1) (weak := false) (df := [[]]) tsOk (ook_list (l := O_laws_heldIntS) (fk := E_laws_heldIntS.fk) (List.forall_mem_nil _)) mixed Try.func53 (body := b_laws_heldIntS) (by kernel_rfl) (ntmps := 21) (by kernel_rfl) (rs := [.tmp 4]) (by kernel_rfl), fun ds out h => ?_⟩, ⟨_, Try.func53, by kernel_rfl, by kernel_rfl⟩⟩
  · show G_laws_heldIntS ds K = (G_laws_heldIntS ds some).bind K
    unfold G_laws_heldIntS
    split
    · cases sh_laws_heldIntS _ _ <;> rfl
    · rfl
  · replace h : G_laws_heldIntS ds some = some out := h
    unfold G_laws_heldIntS at h
    split at h
    · obtain ⟨r, hr, h⟩ := Option.bind_eq_some_iff.1 h
      injection h with h
      subst h
      obtain ⟨n, hn⟩ := val_some hr
      replace hn := (u_laws_heldIntS n _ _).trans hn
      rw [runFn_bind (K := un_laws_heldIntS) (K' := some) (f := un_laws_heldIntS) n_laws_heldIntS (fun _ => rfl)] at hn
      obtain ⟨o, h1, h2⟩ := Option.bind_eq_some_iff.1 hn
      rw [un_laws_heldIntS_ok h2] at h1
      exact ⟨n, h1⟩
    · cases h
/-! f52 loop.example.g01239.laws.heldBoard -/
noncomputable def b_laws_heldBoard : Code := Try.f52.body.getD .skip
def kp_laws_heldBoard (g : Nat) : Nat → Option Keep := lk []
def O_laws_heldBoard : List (FuncId × Ora) := [(53, o_laws_heldIntS)]
def E_laws_heldBoard : Env := ⟨lk O_laws_heldBoard, fun _ => false⟩
def S_laws_heldBoard_e {ρ : Type} (p0_0 : Int) (p0_1 : Int) (p0_2 : List Int) (p1 : Int)   (K : Int → Option ρ) : Option ρ :=
  ((sh_laws_heldIntS p0_2 p1).bind fun r1 => (bif decide (r1 < (0 : Int)) then K (-1 : Int) else K r1))
theorem s_laws_heldBoard_e {ρ : Type} (g fuel : Nat) (p0_0 : Int) (p0_1 : Int) (p0_2 : List Int) (p1 : Int) (Kk : Out → Option ρ) : runFn TT E_laws_heldBoard (kp_laws_heldBoard g) fuel [.val, .val] 2 false [[]] 12 [.tmp 4] b_laws_heldBoard [.agg [.int .i64 p0_0, .int .i64 p0_1, .sl (.ints .i64 p0_2)], .x (.int .i64 p1)] Kk = S_laws_heldBoard_e p0_0 p0_1 p0_2 p1   (fun r1 => Kk ⟨[.x (.int .i64 r1)], []⟩) := by
  kernel_rfl
def F_laws_heldBoard {ρ : Type} (fuel : Nat) (p0_0 : Int) (p0_1 : Int) (p0_2 : List Int) (p1 : Int)  (K : Int → Option ρ) : Option ρ := S_laws_heldBoard_e p0_0 p0_1 p0_2 p1   K
theorem f_laws_heldBoard {ρ : Type} (fuel : Nat) (p0_0 : Int) (p0_1 : Int) (p0_2 : List Int) (p1 : Int) (Kk : Out → Option ρ) : runFn TT E_laws_heldBoard (kp_laws_heldBoard 1) fuel [.val, .val] 2 false [[]] 12 [.tmp 4] b_laws_heldBoard [.agg [.int .i64 p0_0, .int .i64 p0_1, .sl (.ints .i64 p0_2)], .x (.int .i64 p1)] Kk = F_laws_heldBoard fuel p0_0 p0_1 p0_2 p1 (fun r1 => Kk ⟨[.x (.int .i64 r1)], []⟩) := by
  rw [s_laws_heldBoard_e, F_laws_heldBoard]
noncomputable def sh_laws_heldBoard (p0_0 : Int) (p0_1 : Int) (p0_2 : List Int) (p1 : Int) : Option (Int) := F_laws_heldBoard 0 p0_0 p0_1 p0_2 p1 (fun r1 => some r1)
noncomputable def G_laws_heldBoard {ρ : Type} : List DU → (Out → Option ρ) → Option ρ
  | [.agg [.int .i64 p0_0, .int .i64 p0_1, .sl (.ints .i64 p0_2)], .x (.int .i64 p1)], K => (sh_laws_heldBoard p0_0 p0_1 p0_2 p1).bind fun r => K ⟨[.x (.int .i64 r)], []⟩
  | _, _ => none
noncomputable def o_laws_heldBoard : Ora := ⟨[.val, .val], 2, false, G_laws_heldBoard⟩
def un_laws_heldBoard : Out → Option (Int)
  | ⟨[.x (.int .i64 r1)], []⟩ => some r1
  | _ => none
theorem un_laws_heldBoard_ok {o : Out} {r : Int} (h : un_laws_heldBoard o = some r) : o = ⟨[.x (.int .i64 r)], []⟩ := by
  unfold un_laws_heldBoard at h
  split at h
  · injection h with h
    subst h
    rfl
  · cases h
theorem n_laws_heldBoard : ∀ k o, E_laws_heldBoard.fn k = some o → Nat1 o := fun k o h => (ook_list (P := Try.prog) (l := O_laws_heldBoard) (fk := E_laws_heldBoard.fk) (List.forall_mem_cons.2 ⟨m_laws_heldIntS, (List.forall_mem_nil _)⟩)).nat k o h
theorem u_laws_heldBoard (fuel : Nat) (p0_0 : Int) (p0_1 : Int) (p0_2 : List Int) (p1 : Int) : runFn TT E_laws_heldBoard (kp_laws_heldBoard 1) fuel [.val, .val] 2 false [[]] 12 [.tmp 4] b_laws_heldBoard [.agg [.int .i64 p0_0, .int .i64 p0_1, .sl (.ints .i64 p0_2)], .x (.int .i64 p1)] un_laws_heldBoard = F_laws_heldBoard fuel p0_0 p0_1 p0_2 p1 (fun r1 => some r1) := f_laws_heldBoard fuel p0_0 p0_1 p0_2 p1 un_laws_heldBoard
theorem m_laws_heldBoard : MeetsO Try.prog 52 o_laws_heldBoard := by
  refine ⟨fun ρ ds K => ?_, ⟨_, meets_run (kp := kp_laws_heldBoard 1) (weak := false) (df := [[]]) tsOk (ook_list (l := O_laws_heldBoard) (fk := E_laws_heldBoard.fk) (List.forall_mem_cons.2 ⟨m_laws_heldIntS, (List.forall_mem_nil _)⟩)) mixed Try.func52 (body := b_laws_heldBoard) (by kernel_rfl) (ntmps := 12) (by kernel_rfl) (rs := [.tmp 4]) (by kernel_rfl), fun ds out h => ?_⟩, ⟨_, Try.func52, by kernel_rfl, by kernel_rfl⟩⟩
  · show G_laws_heldBoard ds K = (G_laws_heldBoard ds some).bind K
    unfold G_laws_heldBoard
    split
    · cases sh_laws_heldBoard _ _ _ _ <;> rfl
    · rfl
  · replace h : G_laws_heldBoard ds some = some out := h
    unfold G_laws_heldBoard at h
    split at h
    · obtain ⟨r, hr, h⟩ := Option.bind_eq_some_iff.1 h
      injection h with h
      subst h
      have hn := (u_laws_heldBoard 0 _ _ _ _).trans hr
      rw [runFn_bind (K := un_laws_heldBoard) (K' := some) (f := un_laws_heldBoard) n_laws_heldBoard (fun _ => rfl)] at hn
      obtain ⟨o, h1, h2⟩ := Option.bind_eq_some_iff.1 hn
      rw [un_laws_heldBoard_ok h2] at h1
      exact ⟨0, h1⟩
    · cases h
/-! f28 loop.example.g01239.laws.heldPuzzle -/
noncomputable def b_laws_heldPuzzle : Code := Try.f28.body.getD .skip
def kp_laws_heldPuzzle (g : Nat) : Nat → Option Keep := lk []
def O_laws_heldPuzzle : List (FuncId × Ora) := [(52, o_laws_heldBoard), (53, o_laws_heldIntS)]
def E_laws_heldPuzzle : Env := ⟨lk O_laws_heldPuzzle, fun _ => false⟩
def S_laws_heldPuzzle_e {ρ : Type} (p0_0 : Int) (p0_1 : Int) (p0_2 : List Int) (p0_3 : Int) (p0_4 : Int) (p0_5 : List Int) (p1 : Int)   (K : Int → Option ρ) : Option ρ :=
  ((sh_laws_heldBoard p0_0 p0_1 p0_2 p1).bind fun r1 => (bif decide (r1 < (0 : Int)) then K (-1 : Int) else ((sh_laws_heldIntS p0_5 r1).bind fun r2 => (bif decide (r2 < (0 : Int)) then K (-1 : Int) else K r2))))
theorem s_laws_heldPuzzle_e {ρ : Type} (g fuel : Nat) (p0_0 : Int) (p0_1 : Int) (p0_2 : List Int) (p0_3 : Int) (p0_4 : Int) (p0_5 : List Int) (p1 : Int) (Kk : Out → Option ρ) : runFn TT E_laws_heldPuzzle (kp_laws_heldPuzzle g) fuel [.val, .val] 2 false [[]] 18 [.tmp 4] b_laws_heldPuzzle [.agg [.int .i64 p0_0, .int .i64 p0_1, .sl (.ints .i64 p0_2), .int .i64 p0_3, .int .i64 p0_4, .sl (.ints .i64 p0_5)], .x (.int .i64 p1)] Kk = S_laws_heldPuzzle_e p0_0 p0_1 p0_2 p0_3 p0_4 p0_5 p1   (fun r1 => Kk ⟨[.x (.int .i64 r1)], []⟩) := by
  kernel_rfl
def F_laws_heldPuzzle {ρ : Type} (fuel : Nat) (p0_0 : Int) (p0_1 : Int) (p0_2 : List Int) (p0_3 : Int) (p0_4 : Int) (p0_5 : List Int) (p1 : Int)  (K : Int → Option ρ) : Option ρ := S_laws_heldPuzzle_e p0_0 p0_1 p0_2 p0_3 p0_4 p0_5 p1   K
theorem f_laws_heldPuzzle {ρ : Type} (fuel : Nat) (p0_0 : Int) (p0_1 : Int) (p0_2 : List Int) (p0_3 : Int) (p0_4 : Int) (p0_5 : List Int) (p1 : Int) (Kk : Out → Option ρ) : runFn TT E_laws_heldPuzzle (kp_laws_heldPuzzle 1) fuel [.val, .val] 2 false [[]] 18 [.tmp 4] b_laws_heldPuzzle [.agg [.int .i64 p0_0, .int .i64 p0_1, .sl (.ints .i64 p0_2), .int .i64 p0_3, .int .i64 p0_4, .sl (.ints .i64 p0_5)], .x (.int .i64 p1)] Kk = F_laws_heldPuzzle fuel p0_0 p0_1 p0_2 p0_3 p0_4 p0_5 p1 (fun r1 => Kk ⟨[.x (.int .i64 r1)], []⟩) := by
  rw [s_laws_heldPuzzle_e, F_laws_heldPuzzle]
noncomputable def sh_laws_heldPuzzle (p0_0 : Int) (p0_1 : Int) (p0_2 : List Int) (p0_3 : Int) (p0_4 : Int) (p0_5 : List Int) (p1 : Int) : Option (Int) := F_laws_heldPuzzle 0 p0_0 p0_1 p0_2 p0_3 p0_4 p0_5 p1 (fun r1 => some r1)
noncomputable def G_laws_heldPuzzle {ρ : Type} : List DU → (Out → Option ρ) → Option ρ
  | [.agg [.int .i64 p0_0, .int .i64 p0_1, .sl (.ints .i64 p0_2), .int .i64 p0_3, .int .i64 p0_4, .sl (.ints .i64 p0_5)], .x (.int .i64 p1)], K => (sh_laws_heldPuzzle p0_0 p0_1 p0_2 p0_3 p0_4 p0_5 p1).bind fun r => K ⟨[.x (.int .i64 r)], []⟩
  | _, _ => none
noncomputable def o_laws_heldPuzzle : Ora := ⟨[.val, .val], 2, false, G_laws_heldPuzzle⟩
def un_laws_heldPuzzle : Out → Option (Int)
  | ⟨[.x (.int .i64 r1)], []⟩ => some r1
  | _ => none
theorem un_laws_heldPuzzle_ok {o : Out} {r : Int} (h : un_laws_heldPuzzle o = some r) : o = ⟨[.x (.int .i64 r)], []⟩ := by
  unfold un_laws_heldPuzzle at h
  split at h
  · injection h with h
    subst h
    rfl
  · cases h
theorem n_laws_heldPuzzle : ∀ k o, E_laws_heldPuzzle.fn k = some o → Nat1 o := fun k o h => (ook_list (P := Try.prog) (l := O_laws_heldPuzzle) (fk := E_laws_heldPuzzle.fk) (List.forall_mem_cons.2 ⟨m_laws_heldBoard, (List.forall_mem_cons.2 ⟨m_laws_heldIntS, (List.forall_mem_nil _)⟩)⟩)).nat k o h
theorem u_laws_heldPuzzle (fuel : Nat) (p0_0 : Int) (p0_1 : Int) (p0_2 : List Int) (p0_3 : Int) (p0_4 : Int) (p0_5 : List Int) (p1 : Int) : runFn TT E_laws_heldPuzzle (kp_laws_heldPuzzle 1) fuel [.val, .val] 2 false [[]] 18 [.tmp 4] b_laws_heldPuzzle [.agg [.int .i64 p0_0, .int .i64 p0_1, .sl (.ints .i64 p0_2), .int .i64 p0_3, .int .i64 p0_4, .sl (.ints .i64 p0_5)], .x (.int .i64 p1)] un_laws_heldPuzzle = F_laws_heldPuzzle fuel p0_0 p0_1 p0_2 p0_3 p0_4 p0_5 p1 (fun r1 => some r1) := f_laws_heldPuzzle fuel p0_0 p0_1 p0_2 p0_3 p0_4 p0_5 p1 un_laws_heldPuzzle
theorem m_laws_heldPuzzle : MeetsO Try.prog 28 o_laws_heldPuzzle := by
  refine ⟨fun ρ ds K => ?_, ⟨_, meets_run (kp := kp_laws_heldPuzzle 1) (weak := false) (df := [[]]) tsOk (ook_list (l := O_laws_heldPuzzle) (fk := E_laws_heldPuzzle.fk) (List.forall_mem_cons.2 ⟨m_laws_heldBoard, (List.forall_mem_cons.2 ⟨m_laws_heldIntS, (List.forall_mem_nil _)⟩)⟩)) mixed Try.func28 (body := b_laws_heldPuzzle) (by kernel_rfl) (ntmps := 18) (by kernel_rfl) (rs := [.tmp 4]) (by kernel_rfl), fun ds out h => ?_⟩, ⟨_, Try.func28, by kernel_rfl, by kernel_rfl⟩⟩
  · show G_laws_heldPuzzle ds K = (G_laws_heldPuzzle ds some).bind K
    unfold G_laws_heldPuzzle
    split
    · cases sh_laws_heldPuzzle _ _ _ _ _ _ _ <;> rfl
    · rfl
  · replace h : G_laws_heldPuzzle ds some = some out := h
    unfold G_laws_heldPuzzle at h
    split at h
    · obtain ⟨r, hr, h⟩ := Option.bind_eq_some_iff.1 h
      injection h with h
      subst h
      have hn := (u_laws_heldPuzzle 0 _ _ _ _ _ _ _).trans hr
      rw [runFn_bind (K := un_laws_heldPuzzle) (K' := some) (f := un_laws_heldPuzzle) n_laws_heldPuzzle (fun _ => rfl)] at hn
      obtain ⟨o, h1, h2⟩ := Option.bind_eq_some_iff.1 hn
      rw [un_laws_heldPuzzle_ok h2] at h1
      exact ⟨0, h1⟩
    · cases h
/-! f12 loop.example.g01239.laws.FnExactMakePuzzle -/
noncomputable def b_laws_FnExactMakePuzzle : Code := Try.f12.body.getD .skip
def kp_laws_FnExactMakePuzzle (g : Nat) : Nat → Option Keep := lk []
def O_laws_FnExactMakePuzzle : List (FuncId × Ora) := [(22, o_laws_eqPuzzle), (27, o_laws_markPuzzle), (28, o_laws_heldPuzzle), (40, o_laws_toIntS), (42, o_laws_eqIntS), (43, o_laws_szBoard), (44, o_spec_MakePuzzle), (45, o_laws_toBoard), (46, o_laws_toLeaper), (47, o_impl_MakePuzzle), (48, o_laws_eqBoard), (49, o_laws_markBoard), (50, o_laws_markIntS)]
def E_laws_FnExactMakePuzzle : Env := ⟨lk O_laws_FnExactMakePuzzle, fun _ => false⟩
def S_laws_FnExactMakePuzzle_e {ρ : Type} (p0_0 : Int) (p0_1 : Int) (p0_2 : List Int) (p1_0 : Int) (p1_1 : Int) (p2 : List Int) (p3 : Int)   (K : Bool → Option ρ) : Option ρ :=
  (bif decide ((p2.length : Int) > (1048576 : Int)) then K true else ((sh_laws_szBoard p0_0 p0_1 p0_2 (1048576 : Int)).bind fun r1 => (bif decide (r1 < (0 : Int)) then K true else ((sh_laws_toBoard p0_0 p0_1 p0_2).bind fun r2 => ((sh_laws_toLeaper p1_0 p1_1).bind fun r3 => ((sh_laws_toIntS p2).bind fun r4 => ((sh_spec_MakePuzzle r2.1 r2.2.1 r2.2.2 r3.1 r3.2 r4 p3).bind fun r5 => ((sh_laws_toBoard p0_0 p0_1 p0_2).bind fun r6 => ((sh_laws_toIntS p2).bind fun r7 => ((sh_laws_toLeaper p1_0 p1_1).bind fun r8 => ((sh_impl_MakePuzzle r6.1 r6.2.1 r6.2.2 r8.1 r8.2 r7 p3).bind fun r9 => ((sh_laws_eqPuzzle r9.1 r9.2.1 r9.2.2.1 r9.2.2.2.1 r9.2.2.2.2.1 r9.2.2.2.2.2.1 r5.1 r5.2.1 r5.2.2.1 r5.2.2.2.1 r5.2.2.2.2.1 r5.2.2.2.2.2.1).bind fun r10 => (bif !r10 then K false else (bif !(r9.2.2.2.2.2.2 == r5.2.2.2.2.2.2) then K false else ((sh_laws_toBoard p0_0 p0_1 p0_2).bind fun r11 => ((sh_laws_eqBoard r6.1 r6.2.1 r6.2.2 r11.1 r11.2.1 r11.2.2).bind fun r12 => (bif !r12 then K false else ((sh_laws_toIntS p2).bind fun r13 => ((sh_laws_eqIntS r7 r13).bind fun r14 => (bif !r14 then K false else ((sh_laws_markBoard r6.1 r6.2.1 r6.2.2 (1 : Int)).bind fun r15 => ((sh_laws_markIntS r7 r15.1).bind fun r16 => (bif decide (r16.1 < (0 : Int)) then K false else ((sh_laws_eqPuzzle r9.1 r9.2.1 r9.2.2.1 r9.2.2.2.1 r9.2.2.2.2.1 r9.2.2.2.2.2.1 r5.1 r5.2.1 r5.2.2.1 r5.2.2.2.1 r5.2.2.2.2.1 r5.2.2.2.2.2.1).bind fun r17 => (bif !r17 then K false else (bif !(r9.2.2.2.2.2.2 == r5.2.2.2.2.2.2) then K false else ((sh_laws_markPuzzle r9.1 r9.2.1 r9.2.2.1 r9.2.2.2.1 r9.2.2.2.2.1 r9.2.2.2.2.2.1 (1 : Int)).bind fun r18 => ((sh_laws_heldPuzzle r9.1 r9.2.1 r18.2.2.2.1 r9.2.2.2.1 r9.2.2.2.2.1 r18.2.2.2.2.2.2 (1 : Int)).bind fun r19 => (bif decide (r19 < (0 : Int)) then K false else (bif !decide (r19 = r18.1) then K false else ((sh_laws_toBoard p0_0 p0_1 p0_2).bind fun r20 => ((sh_laws_toLeaper p1_0 p1_1).bind fun r21 => ((sh_laws_toIntS p2).bind fun r22 => ((sh_impl_MakePuzzle r20.1 r20.2.1 r20.2.2 r21.1 r21.2 r22 p3).bind fun r23 => ((sh_laws_eqPuzzle r23.1 r23.2.1 r23.2.2.1 r23.2.2.2.1 r23.2.2.2.2.1 r23.2.2.2.2.2.1 r5.1 r5.2.1 r5.2.2.1 r5.2.2.2.1 r5.2.2.2.2.1 r5.2.2.2.2.2.1).bind fun r24 => (bif !r24 then K false else (bif !(r23.2.2.2.2.2.2 == r5.2.2.2.2.2.2) then K false else ((sh_laws_heldPuzzle r9.1 r9.2.1 r18.2.2.2.1 r9.2.2.2.1 r9.2.2.2.2.1 r18.2.2.2.2.2.2 (1 : Int)).bind fun r25 => (bif decide (r25 < (0 : Int)) then K false else (bif !decide (r25 = r18.1) then K false else K true))))))))))))))))))))))))))))))))))))))))
theorem s_laws_FnExactMakePuzzle_e {ρ : Type} (g fuel : Nat) (p0_0 : Int) (p0_1 : Int) (p0_2 : List Int) (p1_0 : Int) (p1_1 : Int) (p2 : List Int) (p3 : Int) (Kk : Out → Option ρ) : runFn TT E_laws_FnExactMakePuzzle (kp_laws_FnExactMakePuzzle g) fuel [.val, .val, .val, .val] 4 false [[]] 130 [.tmp 8] b_laws_FnExactMakePuzzle [.agg [.int .i64 p0_0, .int .i64 p0_1, .sl (.ints .i64 p0_2)], .agg [.int .i64 p1_0, .int .i64 p1_1], .x (.sl (.ints .i64 p2)), .x (.int .i64 p3)] Kk = S_laws_FnExactMakePuzzle_e p0_0 p0_1 p0_2 p1_0 p1_1 p2 p3   (fun r1 => Kk ⟨[.x (.bool r1)], []⟩) := by
  kernel_rfl
def F_laws_FnExactMakePuzzle {ρ : Type} (fuel : Nat) (p0_0 : Int) (p0_1 : Int) (p0_2 : List Int) (p1_0 : Int) (p1_1 : Int) (p2 : List Int) (p3 : Int)  (K : Bool → Option ρ) : Option ρ := S_laws_FnExactMakePuzzle_e p0_0 p0_1 p0_2 p1_0 p1_1 p2 p3   K
theorem f_laws_FnExactMakePuzzle {ρ : Type} (fuel : Nat) (p0_0 : Int) (p0_1 : Int) (p0_2 : List Int) (p1_0 : Int) (p1_1 : Int) (p2 : List Int) (p3 : Int) (Kk : Out → Option ρ) : runFn TT E_laws_FnExactMakePuzzle (kp_laws_FnExactMakePuzzle 1) fuel [.val, .val, .val, .val] 4 false [[]] 130 [.tmp 8] b_laws_FnExactMakePuzzle [.agg [.int .i64 p0_0, .int .i64 p0_1, .sl (.ints .i64 p0_2)], .agg [.int .i64 p1_0, .int .i64 p1_1], .x (.sl (.ints .i64 p2)), .x (.int .i64 p3)] Kk = F_laws_FnExactMakePuzzle fuel p0_0 p0_1 p0_2 p1_0 p1_1 p2 p3 (fun r1 => Kk ⟨[.x (.bool r1)], []⟩) := by
  rw [s_laws_FnExactMakePuzzle_e, F_laws_FnExactMakePuzzle]
noncomputable def sh_laws_FnExactMakePuzzle (p0_0 : Int) (p0_1 : Int) (p0_2 : List Int) (p1_0 : Int) (p1_1 : Int) (p2 : List Int) (p3 : Int) : Option (Bool) := F_laws_FnExactMakePuzzle 0 p0_0 p0_1 p0_2 p1_0 p1_1 p2 p3 (fun r1 => some r1)
noncomputable def G_laws_FnExactMakePuzzle {ρ : Type} : List DU → (Out → Option ρ) → Option ρ
  | [.agg [.int .i64 p0_0, .int .i64 p0_1, .sl (.ints .i64 p0_2)], .agg [.int .i64 p1_0, .int .i64 p1_1], .x (.sl (.ints .i64 p2)), .x (.int .i64 p3)], K => (sh_laws_FnExactMakePuzzle p0_0 p0_1 p0_2 p1_0 p1_1 p2 p3).bind fun r => K ⟨[.x (.bool r)], []⟩
  | _, _ => none
noncomputable def o_laws_FnExactMakePuzzle : Ora := ⟨[.val, .val, .val, .val], 4, false, G_laws_FnExactMakePuzzle⟩
def un_laws_FnExactMakePuzzle : Out → Option (Bool)
  | ⟨[.x (.bool r1)], []⟩ => some r1
  | _ => none
theorem un_laws_FnExactMakePuzzle_ok {o : Out} {r : Bool} (h : un_laws_FnExactMakePuzzle o = some r) : o = ⟨[.x (.bool r)], []⟩ := by
  unfold un_laws_FnExactMakePuzzle at h
  split at h
  · injection h with h
    subst h
    rfl
  · cases h
theorem n_laws_FnExactMakePuzzle : ∀ k o, E_laws_FnExactMakePuzzle.fn k = some o → Nat1 o := fun k o h => (ook_list (P := Try.prog) (l := O_laws_FnExactMakePuzzle) (fk := E_laws_FnExactMakePuzzle.fk) (List.forall_mem_cons.2 ⟨m_laws_eqPuzzle, (List.forall_mem_cons.2 ⟨m_laws_markPuzzle, (List.forall_mem_cons.2 ⟨m_laws_heldPuzzle, (List.forall_mem_cons.2 ⟨m_laws_toIntS, (List.forall_mem_cons.2 ⟨m_laws_eqIntS, (List.forall_mem_cons.2 ⟨m_laws_szBoard, (List.forall_mem_cons.2 ⟨m_spec_MakePuzzle, (List.forall_mem_cons.2 ⟨m_laws_toBoard, (List.forall_mem_cons.2 ⟨m_laws_toLeaper, (List.forall_mem_cons.2 ⟨m_impl_MakePuzzle, (List.forall_mem_cons.2 ⟨m_laws_eqBoard, (List.forall_mem_cons.2 ⟨m_laws_markBoard, (List.forall_mem_cons.2 ⟨m_laws_markIntS, (List.forall_mem_nil _)⟩)⟩)⟩)⟩)⟩)⟩)⟩)⟩)⟩)⟩)⟩)⟩)⟩)).nat k o h
theorem u_laws_FnExactMakePuzzle (fuel : Nat) (p0_0 : Int) (p0_1 : Int) (p0_2 : List Int) (p1_0 : Int) (p1_1 : Int) (p2 : List Int) (p3 : Int) : runFn TT E_laws_FnExactMakePuzzle (kp_laws_FnExactMakePuzzle 1) fuel [.val, .val, .val, .val] 4 false [[]] 130 [.tmp 8] b_laws_FnExactMakePuzzle [.agg [.int .i64 p0_0, .int .i64 p0_1, .sl (.ints .i64 p0_2)], .agg [.int .i64 p1_0, .int .i64 p1_1], .x (.sl (.ints .i64 p2)), .x (.int .i64 p3)] un_laws_FnExactMakePuzzle = F_laws_FnExactMakePuzzle fuel p0_0 p0_1 p0_2 p1_0 p1_1 p2 p3 (fun r1 => some r1) := f_laws_FnExactMakePuzzle fuel p0_0 p0_1 p0_2 p1_0 p1_1 p2 p3 un_laws_FnExactMakePuzzle
theorem m_laws_FnExactMakePuzzle : MeetsO Try.prog 12 o_laws_FnExactMakePuzzle := by
  refine ⟨fun ρ ds K => ?_, ⟨_, meets_run (kp := kp_laws_FnExactMakePuzzle 1) (weak := false) (df := [[]]) tsOk (ook_list (l := O_laws_FnExactMakePuzzle) (fk := E_laws_FnExactMakePuzzle.fk) (List.forall_mem_cons.2 ⟨m_laws_eqPuzzle, (List.forall_mem_cons.2 ⟨m_laws_markPuzzle, (List.forall_mem_cons.2 ⟨m_laws_heldPuzzle, (List.forall_mem_cons.2 ⟨m_laws_toIntS, (List.forall_mem_cons.2 ⟨m_laws_eqIntS, (List.forall_mem_cons.2 ⟨m_laws_szBoard, (List.forall_mem_cons.2 ⟨m_spec_MakePuzzle, (List.forall_mem_cons.2 ⟨m_laws_toBoard, (List.forall_mem_cons.2 ⟨m_laws_toLeaper, (List.forall_mem_cons.2 ⟨m_impl_MakePuzzle, (List.forall_mem_cons.2 ⟨m_laws_eqBoard, (List.forall_mem_cons.2 ⟨m_laws_markBoard, (List.forall_mem_cons.2 ⟨m_laws_markIntS, (List.forall_mem_nil _)⟩)⟩)⟩)⟩)⟩)⟩)⟩)⟩)⟩)⟩)⟩)⟩)⟩)) mixed Try.func12 (body := b_laws_FnExactMakePuzzle) (by kernel_rfl) (ntmps := 130) (by kernel_rfl) (rs := [.tmp 8]) (by kernel_rfl), fun ds out h => ?_⟩, ⟨_, Try.func12, by kernel_rfl, by kernel_rfl⟩⟩
  · show G_laws_FnExactMakePuzzle ds K = (G_laws_FnExactMakePuzzle ds some).bind K
    unfold G_laws_FnExactMakePuzzle
    split
    · cases sh_laws_FnExactMakePuzzle _ _ _ _ _ _ _ <;> rfl
    · rfl
  · replace h : G_laws_FnExactMakePuzzle ds some = some out := h
    unfold G_laws_FnExactMakePuzzle at h
    split at h
    · obtain ⟨r, hr, h⟩ := Option.bind_eq_some_iff.1 h
      injection h with h
      subst h
      have hn := (u_laws_FnExactMakePuzzle 0 _ _ _ _ _ _ _).trans hr
      rw [runFn_bind (K := un_laws_FnExactMakePuzzle) (K' := some) (f := un_laws_FnExactMakePuzzle) n_laws_FnExactMakePuzzle (fun _ => rfl)] at hn
      obtain ⟨o, h1, h2⟩ := Option.bind_eq_some_iff.1 hn
      rw [un_laws_FnExactMakePuzzle_ok h2] at h1
      exact ⟨0, h1⟩
    · cases h
end
end Go.Proofs.Ytafdeomdhkmjmaa

/-
  The walks: what each function of the law answers is what the plain function beside it answers.
-/
import Derived.Test.YtdodbbhpdoiicaaHarderPuzzleVa
set_option linter.unusedVariables false
set_option linter.unusedSimpArgs false
namespace Go.Proofs.Ytdodbbhpdoiicaa
open Go.BV
noncomputable section

/-! f70 loop.example.g01239.impl.graphOf -/
noncomputable def b_impl_graphOf : Code := Try.f70.body.getD .skip
def kp_impl_graphOf (g : Nat) : Nat → Option Keep := lk [(5, ⟨[], [2, 3, 6, 36, 37, 38], [4096, 4112, 7344], [], [], g⟩), (8, ⟨[], [2, 3, 6, 8, 36, 37, 38, 43, 44, 45], [4096, 4112, 7344], [], [], g⟩)]
def O_impl_graphOf : List (FuncId × Ora) := [(72, o_impl_Board_has), (73, o_impl_IsBoard), (74, o_impl_IsLeaper), (87, o_impl_Board_present), (88, o_impl_Leaper_steps), (89, o_slices_Sort_int_int)]
def E_impl_graphOf : Env := ⟨lk O_impl_graphOf, fun _ => false⟩
noncomputable def D_impl_graphOf_0 {ρ : Type} (g fuel : Nat) (p0_0 : Int) (p0_1 : Int) (p0_2 : List Int) (p1_0 : Int) (p1_1 : Int) (n : Nat) (v36 : List Int) (v37 : Int) (v38 : Int) (c4096_0 : Int) (c4096_1 : Int) (c4096_2 : List Int) (c4112_0 : Int) (c4112_1 : Int) (c7344_6 : List (List Int)) (Kk : Out → Option ρ) : Option ρ :=
  iter (run TT E_impl_graphOf (kp_impl_graphOf g) fuel (cL (cB (cS2 (cS1 (cS2 (cS2 (cS2 (b_impl_graphOf))))))))) (nrmAt (kp_impl_graphOf g) (firstRid (cL (cB (cS2 (cS1 (cS2 (cS2 (cS2 (b_impl_graphOf)))))))))) n (⟨[uu, uu, .u (.x (.ptr 4096 0)), .u (.x (.ptr 4112 0)), uu, uu, .u (.x (.ptr 7344 0)), uu, uu, uu, uu, uu, uu, uu, uu, uu, uu, uu, uu, uu, uu, uu, uu, uu, uu, uu, uu, uu, uu, uu, uu, uu, uu, uu, uu, uu, .u (.x (.own 7224 (.ints .i64 v36))), .u (.x (.int .i64 v37)), .u (.x (.int .i64 v38)), uu, uu, uu, uu, uu, uu, uu, uu, uu, uu, uu, uu, uu, uu, uu, uu, uu, uu, uu, uu, uu, uu, uu, uu, uu, uu, uu, uu, uu, uu, uu, uu, uu, uu, uu, uu, uu, uu, uu, uu, uu, uu, uu, uu, uu, uu, uu, uu, uu, uu, uu, uu, uu, uu, uu, uu, uu, uu, uu, uu, uu, uu, uu, uu, uu, uu, uu, uu, uu, uu, uu, uu, uu, uu, uu, uu, uu, uu, uu, uu, uu, uu, uu, uu, uu, uu], [(4096, [.int .i64 c4096_0, .int .i64 c4096_1, .ro (.ints .i64 c4096_2)]), (4112, [.int .i64 c4112_0, .int .i64 c4112_1]), (7344, [.int .i64 c4096_0, .int .i64 c4096_1, .ro (.ints .i64 c4096_2), .int .i64 c4112_0, .int .i64 c4112_1, .own 7224 (.ints .i64 v36), .own 7312 (.orows c7344_6)])], [], []⟩) (blkK 0 (seqK (gateAt (kp_impl_graphOf g) (200000 + firstRid (cS2 (cS2 (cS2 (cS2 (b_impl_graphOf))))))) (run TT E_impl_graphOf (kp_impl_graphOf g) fuel (cS2 (cS2 (cS2 (cS2 (b_impl_graphOf)))))) (nrmAt (kp_impl_graphOf g) (200000 + firstRid (cS2 (cS2 (cS2 (cS2 (b_impl_graphOf))))))) (topK TT [.val, .val] true [[.int .i64 0, .int .i64 0, .sl (.ints .i64 []), .int .i64 0, .int .i64 0, .sl (.ints .i64 []), .sl (.rows [])], []] [.tmp 4, .tmp 5] [.agg [.int .i64 p0_0, .int .i64 p0_1, .sl (.ints .i64 p0_2)], .agg [.int .i64 p1_0, .int .i64 p1_1]] Kk)))
noncomputable def D_impl_graphOf_1 {ρ : Type} (g fuel : Nat) (p0_0 : Int) (p0_1 : Int) (p0_2 : List Int) (p1_0 : Int) (p1_1 : Int) (n0 : Nat) (n : Nat) (v8 : Int) (v36 : List Int) (v37 : Int) (v38 : Int) (v43 : List (List Int)) (v44 : Int) (v45 : Int) (c4096_0 : Int) (c4096_1 : Int) (c4096_2 : List Int) (c4112_0 : Int) (c4112_1 : Int) (c7344_6 : List (List Int)) (Kk : Out → Option ρ) : Option ρ :=
  iter (run TT E_impl_graphOf (kp_impl_graphOf g) fuel (cL (cB (cS2 (cS1 (cS2 (cB (cS1 (cS2 (cS2 (cL (cB (cS2 (cS1 (cS2 (cS2 (cS2 (b_impl_graphOf)))))))))))))))))) (nrmAt (kp_impl_graphOf g) (firstRid (cL (cB (cS2 (cS1 (cS2 (cB (cS1 (cS2 (cS2 (cL (cB (cS2 (cS1 (cS2 (cS2 (cS2 (b_impl_graphOf))))))))))))))))))) n (⟨[uu, uu, .u (.x (.ptr 4096 0)), .u (.x (.ptr 4112 0)), uu, uu, .u (.x (.ptr 7344 0)), uu, .u (.x (.int .i64 v8)), uu, uu, uu, uu, uu, uu, uu, uu, uu, uu, uu, uu, uu, uu, uu, uu, uu, uu, uu, uu, uu, uu, uu, uu, uu, uu, uu, .u (.x (.own 7224 (.ints .i64 v36))), .u (.x (.int .i64 v37)), .u (.x (.int .i64 v38)), uu, uu, uu, uu, .u (.x (.ro (.rows v43))), .u (.x (.int .i64 v44)), .u (.x (.int .i64 v45)), uu, uu, uu, uu, uu, uu, uu, uu, uu, uu, uu, uu, uu, uu, uu, uu, uu, uu, uu, uu, uu, uu, uu, uu, uu, uu, uu, uu, uu, uu, uu, uu, uu, uu, uu, uu, uu, uu, uu, uu, uu, uu, uu, uu, uu, uu, uu, uu, uu, uu, uu, uu, uu, uu, uu, uu, uu, uu, uu, uu, uu, uu, uu, uu, uu, uu, uu, uu, uu, uu, uu, uu, uu, uu, uu, uu, uu, uu, uu], [(4096, [.int .i64 c4096_0, .int .i64 c4096_1, .ro (.ints .i64 c4096_2)]), (4112, [.int .i64 c4112_0, .int .i64 c4112_1]), (7344, [.int .i64 c4096_0, .int .i64 c4096_1, .ro (.ints .i64 c4096_2), .int .i64 c4112_0, .int .i64 c4112_1, .own 7224 (.ints .i64 v36), .own 7312 (.orows c7344_6)])], [], []⟩) (blkK 2 (seqK (gateAt (kp_impl_graphOf g) (200000 + firstRid (cS2 (cS2 (cB (cS1 (cS2 (cS2 (cL (cB (cS2 (cS1 (cS2 (cS2 (cS2 (b_impl_graphOf)))))))))))))))) (run TT E_impl_graphOf (kp_impl_graphOf g) fuel (cS2 (cS2 (cB (cS1 (cS2 (cS2 (cL (cB (cS2 (cS1 (cS2 (cS2 (cS2 (b_impl_graphOf))))))))))))))) (nrmAt (kp_impl_graphOf g) (200000 + firstRid (cS2 (cS2 (cB (cS1 (cS2 (cS2 (cL (cB (cS2 (cS1 (cS2 (cS2 (cS2 (b_impl_graphOf)))))))))))))))) (blkK 1 (seqK (gateAt (kp_impl_graphOf g) (200000 + firstRid (cS2 (cS2 (cS2 (cL (cB (cS2 (cS1 (cS2 (cS2 (cS2 (b_impl_graphOf))))))))))))) (run TT E_impl_graphOf (kp_impl_graphOf g) fuel (cS2 (cS2 (cS2 (cL (cB (cS2 (cS1 (cS2 (cS2 (cS2 (b_impl_graphOf)))))))))))) (nrmAt (kp_impl_graphOf g) (200000 + firstRid (cS2 (cS2 (cS2 (cL (cB (cS2 (cS1 (cS2 (cS2 (cS2 (b_impl_graphOf))))))))))))) (itK (run TT E_impl_graphOf (kp_impl_graphOf g) fuel (cL (cB (cS2 (cS1 (cS2 (cS2 (cS2 (b_impl_graphOf))))))))) (nrmAt (kp_impl_graphOf g) (firstRid (cL (cB (cS2 (cS1 (cS2 (cS2 (cS2 (b_impl_graphOf)))))))))) n0 (blkK 0 (seqK (gateAt (kp_impl_graphOf g) (200000 + firstRid (cS2 (cS2 (cS2 (cS2 (b_impl_graphOf))))))) (run TT E_impl_graphOf (kp_impl_graphOf g) fuel (cS2 (cS2 (cS2 (cS2 (b_impl_graphOf)))))) (nrmAt (kp_impl_graphOf g) (200000 + firstRid (cS2 (cS2 (cS2 (cS2 (b_impl_graphOf))))))) (topK TT [.val, .val] true [[.int .i64 0, .int .i64 0, .sl (.ints .i64 []), .int .i64 0, .int .i64 0, .sl (.ints .i64 []), .sl (.rows [])], []] [.tmp 4, .tmp 5] [.agg [.int .i64 p0_0, .int .i64 p0_1, .sl (.ints .i64 p0_2)], .agg [.int .i64 p1_0, .int .i64 p1_1]] Kk))))))))
def S_impl_graphOf_e {ρ : Type} (p0_0 : Int) (p0_1 : Int) (p0_2 : List Int) (p1_0 : Int) (p1_1 : Int)  (k0 : (List Int → Int → Int → Int → Int → List Int → Int → Int → List (List Int) → Option ρ)) (K : Bool → Int → Int → List Int → Int → Int → List Int → List (List Int) → Bool → Option ρ) : Option ρ :=
  ((sh_impl_IsBoard p0_0 p0_1 p0_2).bind fun r1 => (bif !r1 then K false 0 0 [] 0 0 [] [] false else ((sh_impl_IsLeaper p1_0 p1_1).bind fun r2 => (bif !r2 then K false 0 0 [] 0 0 [] [] false else ((sh_impl_Board_present p0_0 p0_1 p0_2).bind fun r3 => (if 0 ≤ (IntKind.i64.wrap (p0_0 * p0_1)) then (if (IntKind.i64.wrap (p0_0 * p0_1)) ≤ 1099511627776 then k0 r3 (r3.length : Int) (0 : Int) p0_0 p0_1 p0_2 p1_0 p1_1 (List.replicate (IntKind.i64.wrap (p0_0 * p0_1)).toNat ([] : List Int)) else none) else none))))))
theorem s_impl_graphOf_e {ρ : Type} (g fuel : Nat) (p0_0 : Int) (p0_1 : Int) (p0_2 : List Int) (p1_0 : Int) (p1_1 : Int) (Kk : Out → Option ρ) : runFn TT E_impl_graphOf (kp_impl_graphOf g) fuel [.val, .val] 2 true [[.int .i64 0, .int .i64 0, .sl (.ints .i64 []), .int .i64 0, .int .i64 0, .sl (.ints .i64 []), .sl (.rows [])], []] 125 [.tmp 4, .tmp 5] b_impl_graphOf [.agg [.int .i64 p0_0, .int .i64 p0_1, .sl (.ints .i64 p0_2)], .agg [.int .i64 p1_0, .int .i64 p1_1]] Kk = S_impl_graphOf_e p0_0 p0_1 p0_2 p1_0 p1_1  (fun v36 v37 v38 c4096_0 c4096_1 c4096_2 c4112_0 c4112_1 c7344_6 => D_impl_graphOf_0 g fuel p0_0 p0_1 p0_2 p1_0 p1_1 fuel v36 v37 v38 c4096_0 c4096_1 c4096_2 c4112_0 c4112_1 c7344_6 Kk) (fun r1 r2 r3 r4 r5 r6 r7 r8 r9 => Kk ⟨[.x (.rp r1 [.int .i64 r2, .int .i64 r3, .sl (.ints .i64 r4), .int .i64 r5, .int .i64 r6, .sl (.ints .i64 r7), .sl (.rows r8)]), .x (.bool r9)], []⟩) := by
  kernel_rfl
def S_impl_graphOf_0 {ρ : Type}  (v36 : List Int) (v37 : Int) (v38 : Int) (c4096_0 : Int) (c4096_1 : Int) (c4096_2 : List Int) (c4112_0 : Int) (c4112_1 : Int) (c7344_6 : List (List Int)) (k1 : (Int → List Int → Int → Int → List (List Int) → Int → Int → Int → Int → List Int → Int → Int → List (List Int) → Option ρ)) (K : Bool → Int → Int → List Int → Int → Int → List Int → List (List Int) → Bool → Option ρ) : Option ρ :=
  (bif decide (v38 < v37) then (if 0 ≤ v38 then (if v38 < (v36.length : Int) then ((sh_impl_Leaper_steps c4112_0 c4112_1).bind fun r1 => k1 (v36.getD v38.toNat 0) v36 v37 v38 r1 (r1.length : Int) (0 : Int) c4096_0 c4096_1 c4096_2 c4112_0 c4112_1 c7344_6) else none) else none) else K true c4096_0 c4096_1 c4096_2 c4112_0 c4112_1 v36 c7344_6 true)
theorem s_impl_graphOf_0 {ρ : Type} (g fuel : Nat) (p0_0 : Int) (p0_1 : Int) (p0_2 : List Int) (p1_0 : Int) (p1_1 : Int) (n : Nat) (v36 : List Int) (v37 : Int) (v38 : Int) (c4096_0 : Int) (c4096_1 : Int) (c4096_2 : List Int) (c4112_0 : Int) (c4112_1 : Int) (c7344_6 : List (List Int)) (Kk : Out → Option ρ) : D_impl_graphOf_0 g fuel p0_0 p0_1 p0_2 p1_0 p1_1  (n + 1) v36 v37 v38 c4096_0 c4096_1 c4096_2 c4112_0 c4112_1 c7344_6 Kk = S_impl_graphOf_0  v36 v37 v38 c4096_0 c4096_1 c4096_2 c4112_0 c4112_1 c7344_6 (fun v8 v36 v37 v38 v43 v44 v45 c4096_0 c4096_1 c4096_2 c4112_0 c4112_1 c7344_6 => D_impl_graphOf_1 g fuel p0_0 p0_1 p0_2 p1_0 p1_1 n fuel v8 v36 v37 v38 v43 v44 v45 c4096_0 c4096_1 c4096_2 c4112_0 c4112_1 c7344_6 Kk) (fun r1 r2 r3 r4 r5 r6 r7 r8 r9 => Kk ⟨[.x (.rp r1 [.int .i64 r2, .int .i64 r3, .sl (.ints .i64 r4), .int .i64 r5, .int .i64 r6, .sl (.ints .i64 r7), .sl (.rows r8)]), .x (.bool r9)], []⟩) := by
  kernel_rfl
def S_impl_graphOf_1 {ρ : Type}  (v8 : Int) (v36 : List Int) (v37 : Int) (v38 : Int) (v43 : List (List Int)) (v44 : Int) (v45 : Int) (c4096_0 : Int) (c4096_1 : Int) (c4096_2 : List Int) (c4112_0 : Int) (c4112_1 : Int) (c7344_6 : List (List Int)) (b1 : (Int → List Int → Int → Int → List (List Int) → Int → Int → Int → Int → List Int → Int → Int → List (List Int) → Option ρ)) (b0 : (List Int → Int → Int → Int → Int → List Int → Int → Int → List (List Int) → Option ρ)) : Option ρ :=
  (bif decide (v45 < v44) then (if 0 ≤ v45 then (if v45 < (v43.length : Int) then (if c4096_0 = 0 then none else (if 0 ≤ (0 : Int) then (if (0 : Int) < ((v43.getD v45.toNat []).length : Int) then (if c4096_0 = 0 then none else (if 0 ≤ (1 : Int) then (if (1 : Int) < ((v43.getD v45.toNat []).length : Int) then (bif decide ((IntKind.i64.wrap ((v8.tmod c4096_0) + ((v43.getD v45.toNat []).getD ((0 : Int).toNat) 0))) ≥ (0 : Int)) then (bif decide ((IntKind.i64.wrap ((v8.tmod c4096_0) + ((v43.getD v45.toNat []).getD ((0 : Int).toNat) 0))) < c4096_0) then (bif decide ((IntKind.i64.wrap ((IntKind.i64.wrap (v8.tdiv c4096_0)) + ((v43.getD v45.toNat []).getD ((1 : Int).toNat) 0))) ≥ (0 : Int)) then (bif decide ((IntKind.i64.wrap ((IntKind.i64.wrap (v8.tdiv c4096_0)) + ((v43.getD v45.toNat []).getD ((1 : Int).toNat) 0))) < c4096_1) then ((sh_impl_Board_has c4096_0 c4096_1 c4096_2 (IntKind.i64.wrap ((IntKind.i64.wrap ((IntKind.i64.wrap ((IntKind.i64.wrap (v8.tdiv c4096_0)) + ((v43.getD v45.toNat []).getD ((1 : Int).toNat) 0))) * c4096_0)) + (IntKind.i64.wrap ((v8.tmod c4096_0) + ((v43.getD v45.toNat []).getD ((0 : Int).toNat) 0)))))).bind fun r1 => (bif r1 then (if 0 ≤ v8 then (if v8 < (c7344_6.length : Int) then (if ((c7344_6.getD v8.toNat []) ++ ([IntKind.i64.wrap ((IntKind.i64.wrap ((IntKind.i64.wrap ((IntKind.i64.wrap (v8.tdiv c4096_0)) + ((v43.getD v45.toNat []).getD ((1 : Int).toNat) 0))) * c4096_0)) + (IntKind.i64.wrap ((v8.tmod c4096_0) + ((v43.getD v45.toNat []).getD ((0 : Int).toNat) 0))))])).length ≤ 1099511627776 then (if 0 ≤ v8 then (if v8 < (c7344_6.length : Int) then (if v8.toNat = v8.toNat then b1 v8 v36 v37 v38 v43 v44 (IntKind.i64.wrap (v45 + (1 : Int))) c4096_0 c4096_1 c4096_2 c4112_0 c4112_1 (c7344_6.set v8.toNat ((c7344_6.getD v8.toNat []) ++ ([IntKind.i64.wrap ((IntKind.i64.wrap ((IntKind.i64.wrap ((IntKind.i64.wrap (v8.tdiv c4096_0)) + ((v43.getD v45.toNat []).getD ((1 : Int).toNat) 0))) * c4096_0)) + (IntKind.i64.wrap ((v8.tmod c4096_0) + ((v43.getD v45.toNat []).getD ((0 : Int).toNat) 0))))]))) else none) else none) else none) else none) else none) else none) else b1 v8 v36 v37 v38 v43 v44 (IntKind.i64.wrap (v45 + (1 : Int))) c4096_0 c4096_1 c4096_2 c4112_0 c4112_1 c7344_6)) else b1 v8 v36 v37 v38 v43 v44 (IntKind.i64.wrap (v45 + (1 : Int))) c4096_0 c4096_1 c4096_2 c4112_0 c4112_1 c7344_6) else b1 v8 v36 v37 v38 v43 v44 (IntKind.i64.wrap (v45 + (1 : Int))) c4096_0 c4096_1 c4096_2 c4112_0 c4112_1 c7344_6) else b1 v8 v36 v37 v38 v43 v44 (IntKind.i64.wrap (v45 + (1 : Int))) c4096_0 c4096_1 c4096_2 c4112_0 c4112_1 c7344_6) else b1 v8 v36 v37 v38 v43 v44 (IntKind.i64.wrap (v45 + (1 : Int))) c4096_0 c4096_1 c4096_2 c4112_0 c4112_1 c7344_6) else none) else none)) else none) else none)) else none) else none) else (if 0 ≤ v8 then (if v8 < (c7344_6.length : Int) then ((sh_slices_Sort_int_int (c7344_6.getD v8.toNat [])).bind fun r2 => b0 v36 v37 (IntKind.i64.wrap (v38 + (1 : Int))) c4096_0 c4096_1 c4096_2 c4112_0 c4112_1 (c7344_6.set v8.toNat r2)) else none) else none))
theorem s_impl_graphOf_1 {ρ : Type} (g fuel : Nat) (p0_0 : Int) (p0_1 : Int) (p0_2 : List Int) (p1_0 : Int) (p1_1 : Int) (n0 : Nat) (n : Nat) (v8 : Int) (v36 : List Int) (v37 : Int) (v38 : Int) (v43 : List (List Int)) (v44 : Int) (v45 : Int) (c4096_0 : Int) (c4096_1 : Int) (c4096_2 : List Int) (c4112_0 : Int) (c4112_1 : Int) (c7344_6 : List (List Int)) (Kk : Out → Option ρ) : D_impl_graphOf_1 g fuel p0_0 p0_1 p0_2 p1_0 p1_1 n0 (n + 1) v8 v36 v37 v38 v43 v44 v45 c4096_0 c4096_1 c4096_2 c4112_0 c4112_1 c7344_6 Kk = S_impl_graphOf_1  v8 v36 v37 v38 v43 v44 v45 c4096_0 c4096_1 c4096_2 c4112_0 c4112_1 c7344_6 (fun v8 v36 v37 v38 v43 v44 v45 c4096_0 c4096_1 c4096_2 c4112_0 c4112_1 c7344_6 => D_impl_graphOf_1 g fuel p0_0 p0_1 p0_2 p1_0 p1_1 n0 n v8 v36 v37 v38 v43 v44 v45 c4096_0 c4096_1 c4096_2 c4112_0 c4112_1 c7344_6 Kk) (fun v36 v37 v38 c4096_0 c4096_1 c4096_2 c4112_0 c4112_1 c7344_6 => D_impl_graphOf_0 g fuel p0_0 p0_1 p0_2 p1_0 p1_1 n0 v36 v37 v38 c4096_0 c4096_1 c4096_2 c4112_0 c4112_1 c7344_6 Kk) := by
  kernel_rfl
def F_impl_graphOf_1 {ρ : Type} (fuel : Nat)  (b0 : (List Int → Int → Int → Int → Int → List Int → Int → Int → List (List Int) → Option ρ)) (K : Bool → Int → Int → List Int → Int → Int → List Int → List (List Int) → Bool → Option ρ) : Nat → Int → List Int → Int → Int → List (List Int) → Int → Int → Int → Int → List Int → Int → Int → List (List Int) → Option ρ
  | 0, _, _, _, _, _, _, _, _, _, _, _, _, _ => none
  | n + 1, v8, v36, v37, v38, v43, v44, v45, c4096_0, c4096_1, c4096_2, c4112_0, c4112_1, c7344_6 => S_impl_graphOf_1  v8 v36 v37 v38 v43 v44 v45 c4096_0 c4096_1 c4096_2 c4112_0 c4112_1 c7344_6 (F_impl_graphOf_1 fuel  b0 K n) b0
theorem f_impl_graphOf_1 {ρ : Type} (fuel : Nat) (p0_0 : Int) (p0_1 : Int) (p0_2 : List Int) (p1_0 : Int) (p1_1 : Int) (n0 : Nat) (Kk : Out → Option ρ) : ∀ (n : Nat) (v8 : Int) (v36 : List Int) (v37 : Int) (v38 : Int) (v43 : List (List Int)) (v44 : Int) (v45 : Int) (c4096_0 : Int) (c4096_1 : Int) (c4096_2 : List Int) (c4112_0 : Int) (c4112_1 : Int) (c7344_6 : List (List Int)), D_impl_graphOf_1 1 fuel p0_0 p0_1 p0_2 p1_0 p1_1 n0 n v8 v36 v37 v38 v43 v44 v45 c4096_0 c4096_1 c4096_2 c4112_0 c4112_1 c7344_6 Kk = F_impl_graphOf_1 fuel  (fun v36 v37 v38 c4096_0 c4096_1 c4096_2 c4112_0 c4112_1 c7344_6 => D_impl_graphOf_0 1 fuel p0_0 p0_1 p0_2 p1_0 p1_1 n0 v36 v37 v38 c4096_0 c4096_1 c4096_2 c4112_0 c4112_1 c7344_6 Kk) (fun r1 r2 r3 r4 r5 r6 r7 r8 r9 => Kk ⟨[.x (.rp r1 [.int .i64 r2, .int .i64 r3, .sl (.ints .i64 r4), .int .i64 r5, .int .i64 r6, .sl (.ints .i64 r7), .sl (.rows r8)]), .x (.bool r9)], []⟩) n v8 v36 v37 v38 v43 v44 v45 c4096_0 c4096_1 c4096_2 c4112_0 c4112_1 c7344_6 := by
  intro n
  induction n with
  | zero => intros; rfl
  | succ n ih =>
    intro v8 v36 v37 v38 v43 v44 v45 c4096_0 c4096_1 c4096_2 c4112_0 c4112_1 c7344_6
    rw [s_impl_graphOf_1, F_impl_graphOf_1]
    try simp only [ih]
def F_impl_graphOf_0 {ρ : Type} (fuel : Nat)   (K : Bool → Int → Int → List Int → Int → Int → List Int → List (List Int) → Bool → Option ρ) : Nat → List Int → Int → Int → Int → Int → List Int → Int → Int → List (List Int) → Option ρ
  | 0, _, _, _, _, _, _, _, _, _ => none
  | n + 1, v36, v37, v38, c4096_0, c4096_1, c4096_2, c4112_0, c4112_1, c7344_6 => S_impl_graphOf_0  v36 v37 v38 c4096_0 c4096_1 c4096_2 c4112_0 c4112_1 c7344_6 (F_impl_graphOf_1 fuel  (F_impl_graphOf_0 fuel   K n) K fuel) K
theorem f_impl_graphOf_0 {ρ : Type} (fuel : Nat) (p0_0 : Int) (p0_1 : Int) (p0_2 : List Int) (p1_0 : Int) (p1_1 : Int) (Kk : Out → Option ρ) : ∀ (n : Nat) (v36 : List Int) (v37 : Int) (v38 : Int) (c4096_0 : Int) (c4096_1 : Int) (c4096_2 : List Int) (c4112_0 : Int) (c4112_1 : Int) (c7344_6 : List (List Int)), D_impl_graphOf_0 1 fuel p0_0 p0_1 p0_2 p1_0 p1_1  n v36 v37 v38 c4096_0 c4096_1 c4096_2 c4112_0 c4112_1 c7344_6 Kk = F_impl_graphOf_0 fuel   (fun r1 r2 r3 r4 r5 r6 r7 r8 r9 => Kk ⟨[.x (.rp r1 [.int .i64 r2, .int .i64 r3, .sl (.ints .i64 r4), .int .i64 r5, .int .i64 r6, .sl (.ints .i64 r7), .sl (.rows r8)]), .x (.bool r9)], []⟩) n v36 v37 v38 c4096_0 c4096_1 c4096_2 c4112_0 c4112_1 c7344_6 := by
  intro n
  induction n with
  | zero => intros; rfl
  | succ n ih =>
    intro v36 v37 v38 c4096_0 c4096_1 c4096_2 c4112_0 c4112_1 c7344_6
    rw [s_impl_graphOf_0, F_impl_graphOf_0]
    try simp only [ih, f_impl_graphOf_1]
def F_impl_graphOf {ρ : Type} (fuel : Nat) (p0_0 : Int) (p0_1 : Int) (p0_2 : List Int) (p1_0 : Int) (p1_1 : Int)  (K : Bool → Int → Int → List Int → Int → Int → List Int → List (List Int) → Bool → Option ρ) : Option ρ := S_impl_graphOf_e p0_0 p0_1 p0_2 p1_0 p1_1  (F_impl_graphOf_0 fuel   K fuel) K
theorem f_impl_graphOf {ρ : Type} (fuel : Nat) (p0_0 : Int) (p0_1 : Int) (p0_2 : List Int) (p1_0 : Int) (p1_1 : Int) (Kk : Out → Option ρ) : runFn TT E_impl_graphOf (kp_impl_graphOf 1) fuel [.val, .val] 2 true [[.int .i64 0, .int .i64 0, .sl (.ints .i64 []), .int .i64 0, .int .i64 0, .sl (.ints .i64 []), .sl (.rows [])], []] 125 [.tmp 4, .tmp 5] b_impl_graphOf [.agg [.int .i64 p0_0, .int .i64 p0_1, .sl (.ints .i64 p0_2)], .agg [.int .i64 p1_0, .int .i64 p1_1]] Kk = F_impl_graphOf fuel p0_0 p0_1 p0_2 p1_0 p1_1 (fun r1 r2 r3 r4 r5 r6 r7 r8 r9 => Kk ⟨[.x (.rp r1 [.int .i64 r2, .int .i64 r3, .sl (.ints .i64 r4), .int .i64 r5, .int .i64 r6, .sl (.ints .i64 r7), .sl (.rows r8)]), .x (.bool r9)], []⟩) := by
  rw [s_impl_graphOf_e, F_impl_graphOf]
  try simp only [f_impl_graphOf_1, f_impl_graphOf_0]
noncomputable def sh_impl_graphOf (p0_0 : Int) (p0_1 : Int) (p0_2 : List Int) (p1_0 : Int) (p1_1 : Int) : Option (Bool × Int × Int × List Int × Int × Int × List Int × List (List Int) × Bool) := val fun n => F_impl_graphOf n p0_0 p0_1 p0_2 p1_0 p1_1 (fun r1 r2 r3 r4 r5 r6 r7 r8 r9 => some (r1, r2, r3, r4, r5, r6, r7, r8, r9))
noncomputable def G_impl_graphOf {ρ : Type} : List DU → (Out → Option ρ) → Option ρ
  | [.agg [.int .i64 p0_0, .int .i64 p0_1, .sl (.ints .i64 p0_2)], .agg [.int .i64 p1_0, .int .i64 p1_1]], K => (sh_impl_graphOf p0_0 p0_1 p0_2 p1_0 p1_1).bind fun r => K ⟨[.x (.rp r.1 [.int .i64 r.2.1, .int .i64 r.2.2.1, .sl (.ints .i64 r.2.2.2.1), .int .i64 r.2.2.2.2.1, .int .i64 r.2.2.2.2.2.1, .sl (.ints .i64 r.2.2.2.2.2.2.1), .sl (.rows r.2.2.2.2.2.2.2.1)]), .x (.bool r.2.2.2.2.2.2.2.2)], []⟩
  | _, _ => none
noncomputable def o_impl_graphOf : Ora := ⟨[.val, .val], 2, true, G_impl_graphOf⟩
def un_impl_graphOf : Out → Option (Bool × Int × Int × List Int × Int × Int × List Int × List (List Int) × Bool)
  | ⟨[.x (.rp r1 [.int .i64 r2, .int .i64 r3, .sl (.ints .i64 r4), .int .i64 r5, .int .i64 r6, .sl (.ints .i64 r7), .sl (.rows r8)]), .x (.bool r9)], []⟩ => some (r1, r2, r3, r4, r5, r6, r7, r8, r9)
  | _ => none
theorem un_impl_graphOf_ok {o : Out} {r : Bool × Int × Int × List Int × Int × Int × List Int × List (List Int) × Bool} (h : un_impl_graphOf o = some r) : o = ⟨[.x (.rp r.1 [.int .i64 r.2.1, .int .i64 r.2.2.1, .sl (.ints .i64 r.2.2.2.1), .int .i64 r.2.2.2.2.1, .int .i64 r.2.2.2.2.2.1, .sl (.ints .i64 r.2.2.2.2.2.2.1), .sl (.rows r.2.2.2.2.2.2.2.1)]), .x (.bool r.2.2.2.2.2.2.2.2)], []⟩ := by
  unfold un_impl_graphOf at h
  split at h
  · injection h with h
    subst h
    rfl
  · cases h
theorem n_impl_graphOf : ∀ k o, E_impl_graphOf.fn k = some o → Nat1 o := fun k o h => (ook_list (P := Try.prog) (l := O_impl_graphOf) (fk := E_impl_graphOf.fk) (List.forall_mem_cons.2 ⟨m_impl_Board_has, (List.forall_mem_cons.2 ⟨m_impl_IsBoard, (List.forall_mem_cons.2 ⟨m_impl_IsLeaper, (List.forall_mem_cons.2 ⟨m_impl_Board_present, (List.forall_mem_cons.2 ⟨m_impl_Leaper_steps, (List.forall_mem_cons.2 ⟨m_slices_Sort_int_int, (List.forall_mem_nil _)⟩)⟩)⟩)⟩)⟩)⟩)).nat k o h
theorem u_impl_graphOf (fuel : Nat) (p0_0 : Int) (p0_1 : Int) (p0_2 : List Int) (p1_0 : Int) (p1_1 : Int) : runFn TT E_impl_graphOf (kp_impl_graphOf 1) fuel [.val, .val] 2 true [[.int .i64 0, .int .i64 0, .sl (.ints .i64 []), .int .i64 0, .int .i64 0, .sl (.ints .i64 []), .sl (.rows [])], []] 125 [.tmp 4, .tmp 5] b_impl_graphOf [.agg [.int .i64 p0_0, .int .i64 p0_1, .sl (.ints .i64 p0_2)], .agg [.int .i64 p1_0, .int .i64 p1_1]] un_impl_graphOf = F_impl_graphOf fuel p0_0 p0_1 p0_2 p1_0 p1_1 (fun r1 r2 r3 r4 r5 r6 r7 r8 r9 => some (r1, r2, r3, r4, r5, r6, r7, r8, r9)) := f_impl_graphOf fuel p0_0 p0_1 p0_2 p1_0 p1_1 un_impl_graphOf
theorem sh_impl_graphOf_of {n : Nat} {p0_0 : Int} {p0_1 : Int} {p0_2 : List Int} {p1_0 : Int} {p1_1 : Int} {r : Bool × Int × Int × List Int × Int × Int × List Int × List (List Int) × Bool} (h : F_impl_graphOf n p0_0 p0_1 p0_2 p1_0 p1_1 (fun r1 r2 r3 r4 r5 r6 r7 r8 r9 => some (r1, r2, r3, r4, r5, r6, r7, r8, r9)) = some r) : sh_impl_graphOf p0_0 p0_1 p0_2 p1_0 p1_1 = some r := val_of (fun n m r hm h => by rw [← u_impl_graphOf] at h ⊢; exact runFn_mono n_impl_graphOf hm h) h
theorem m_impl_graphOf : MeetsO Try.prog 70 o_impl_graphOf := by
  refine ⟨fun ρ ds K => ?_, ⟨_, meets_run (kp := kp_impl_graphOf 1) (weak := true) (df := [[.int .i64 0, .int .i64 0, .sl (.ints .i64 []), .int .i64 0, .int .i64 0, .sl (.ints .i64 []), .sl (.rows [])], []]) tsOk (ook_list (l := O_impl_graphOf) (fk := E_impl_graphOf.fk) (List.forall_mem_cons.2 ⟨m_impl_Board_has, (List.forall_mem_cons.2 ⟨m_impl_IsBoard, (List.forall_mem_cons.2 ⟨m_impl_IsLeaper, (List.forall_mem_cons.2 ⟨m_impl_Board_present, (List.forall_mem_cons.2 ⟨m_impl_Leaper_steps, (List.forall_mem_cons.2 ⟨m_slices_Sort_int_int, (List.forall_mem_nil _)⟩)⟩)⟩)⟩)⟩)⟩)) mixed Try.func70 (body := b_impl_graphOf) (by kernel_rfl) (ntmps := 125) (by kernel_rfl) (rs := [.tmp 4, .tmp 5]) (by kernel_rfl), fun ds out h => ?_⟩, ⟨_, Try.func70, by kernel_rfl, by kernel_rfl⟩⟩
  · show G_impl_graphOf ds K = (G_impl_graphOf ds some).bind K
    unfold G_impl_graphOf
    split
    · cases sh_impl_graphOf _ _ _ _ _ <;> rfl
    · rfl
  · replace h : G_impl_graphOf ds some = some out := h
    unfold G_impl_graphOf at h
    split at h
    · obtain ⟨r, hr, h⟩ := Option.bind_eq_some_iff.1 h
      injection h with h
      subst h
      obtain ⟨n, hn⟩ := val_some hr
      replace hn := (u_impl_graphOf n _ _ _ _ _).trans hn
      rw [runFn_bind (K := un_impl_graphOf) (K' := some) (f := un_impl_graphOf) n_impl_graphOf (fun _ => rfl)] at hn
      obtain ⟨o, h1, h2⟩ := Option.bind_eq_some_iff.1 hn
      rw [un_impl_graphOf_ok h2] at h1
      exact ⟨n, h1⟩
    · cases h
/-! f94 (*loop.example.g01239.impl.graph).far -/
noncomputable def b_impl_graph_far : Code := Try.f94.body.getD .skip
def kp_impl_graph_far (g : Nat) : Nat → Option Keep := lk [(3, ⟨[], [0, 1, 5, 23, 24], [], [], [], g⟩), (9, ⟨[], [0, 5, 7], [], [(7, 16400064)], [], g⟩), (12, ⟨[], [0, 5, 7, 49, 50, 51], [], [(7, 16400128)], [], g⟩)]
def O_impl_graph_far : List (FuncId × Ora) := []
def E_impl_graph_far : Env := ⟨lk O_impl_graph_far, fun _ => false⟩
noncomputable def D_impl_graph_far_0 {ρ : Type} (g fuel : Nat) (p0_0 : Bool) (p0_1 : Int) (p0_2 : Int) (p0_3 : List Int) (p0_4 : Int) (p0_5 : Int) (p0_6 : List Int) (p0_7 : List (List Int)) (p1 : Int) (n : Nat) (v0 : Bool) (v0_1 : Int) (v0_2 : Int) (v0_3 : List Int) (v0_4 : Int) (v0_5 : Int) (v0_6 : List Int) (v0_7 : List (List Int)) (v1 : Int) (v5 : List Int) (v23 : Int) (v24 : Int) (Kk : Out → Option ρ) : Option ρ :=
  iter (run TT E_impl_graph_far (kp_impl_graph_far g) fuel (cL (cB (cS2 (cS1 (cS2 (cS2 (b_impl_graph_far)))))))) (nrmAt (kp_impl_graph_far g) (firstRid (cL (cB (cS2 (cS1 (cS2 (cS2 (b_impl_graph_far))))))))) n (⟨[.u (.x (.rop v0 [.int .i64 v0_1, .int .i64 v0_2, .sl (.ints .i64 v0_3), .int .i64 v0_4, .int .i64 v0_5, .sl (.ints .i64 v0_6), .sl (.rows v0_7)] 0)), .u (.x (.int .i64 v1)), uu, uu, uu, .u (.x (.own 5296 (.ints .i64 v5))), uu, uu, uu, uu, uu, uu, uu, uu, uu, uu, uu, uu, uu, uu, uu, uu, uu, .u (.x (.int .i64 v23)), .u (.x (.int .i64 v24)), uu, uu, uu, uu, uu, uu, uu, uu, uu, uu, uu, uu, uu, uu, uu, uu, uu, uu, uu, uu, uu, uu, uu, uu, uu, uu, uu, uu, uu, uu, uu, uu, uu, uu, uu, uu, uu, uu, uu, uu, uu, uu, uu, uu, uu, uu, uu, uu, uu, uu, uu], [], [], []⟩) (blkK 0 (seqK (gateAt (kp_impl_graph_far g) (200000 + firstRid (cS2 (cS2 (cS2 (b_impl_graph_far)))))) (run TT E_impl_graph_far (kp_impl_graph_far g) fuel (cS2 (cS2 (cS2 (b_impl_graph_far))))) (nrmAt (kp_impl_graph_far g) (200000 + firstRid (cS2 (cS2 (cS2 (b_impl_graph_far)))))) (topK TT [.val, .val] false [[]] [.tmp 4] [.x (.rp p0_0 [.int .i64 p0_1, .int .i64 p0_2, .sl (.ints .i64 p0_3), .int .i64 p0_4, .int .i64 p0_5, .sl (.ints .i64 p0_6), .sl (.rows p0_7)]), .x (.int .i64 p1)] Kk)))
noncomputable def D_impl_graph_far_1 {ρ : Type} (g fuel : Nat) (p0_0 : Bool) (p0_1 : Int) (p0_2 : Int) (p0_3 : List Int) (p0_4 : Int) (p0_5 : Int) (p0_6 : List Int) (p0_7 : List (List Int)) (p1 : Int) (n : Nat) (v0 : Bool) (v0_1 : Int) (v0_2 : Int) (v0_3 : List Int) (v0_4 : Int) (v0_5 : Int) (v0_6 : List Int) (v0_7 : List (List Int)) (v5 : List Int) (v7 : List Int) (Kk : Out → Option ρ) : Option ρ :=
  iter (run TT E_impl_graph_far (kp_impl_graph_far g) fuel (cL (cB (cS2 (cS1 (cS2 (cS2 (cS2 (cS2 (b_impl_graph_far)))))))))) (nrmAt (kp_impl_graph_far g) (firstRid (cL (cB (cS2 (cS1 (cS2 (cS2 (cS2 (cS2 (b_impl_graph_far))))))))))) n (⟨[.u (.x (.rop v0 [.int .i64 v0_1, .int .i64 v0_2, .sl (.ints .i64 v0_3), .int .i64 v0_4, .int .i64 v0_5, .sl (.ints .i64 v0_6), .sl (.rows v0_7)] 0)), uu, uu, uu, uu, .u (.x (.own 5296 (.ints .i64 v5))), uu, .u (.x (.own 16400064 (.ints .i64 v7))), uu, uu, uu, uu, uu, uu, uu, uu, uu, uu, uu, uu, uu, uu, uu, uu, uu, uu, uu, uu, uu, uu, uu, uu, uu, uu, uu, uu, uu, uu, uu, uu, uu, uu, uu, uu, uu, uu, uu, uu, uu, uu, uu, uu, uu, uu, uu, uu, uu, uu, uu, uu, uu, uu, uu, uu, uu, uu, uu, uu, uu, uu, uu, uu, uu, uu, uu, uu], [], [], []⟩) (blkK 2 (seqK (gateAt (kp_impl_graph_far g) (200000 + firstRid (cS2 (cS2 (cS2 (cS2 (cS2 (b_impl_graph_far)))))))) (run TT E_impl_graph_far (kp_impl_graph_far g) fuel (cS2 (cS2 (cS2 (cS2 (cS2 (b_impl_graph_far))))))) (nrmAt (kp_impl_graph_far g) (200000 + firstRid (cS2 (cS2 (cS2 (cS2 (cS2 (b_impl_graph_far)))))))) (topK TT [.val, .val] false [[]] [.tmp 4] [.x (.rp p0_0 [.int .i64 p0_1, .int .i64 p0_2, .sl (.ints .i64 p0_3), .int .i64 p0_4, .int .i64 p0_5, .sl (.ints .i64 p0_6), .sl (.rows p0_7)]), .x (.int .i64 p1)] Kk)))
noncomputable def D_impl_graph_far_2 {ρ : Type} (g fuel : Nat) (p0_0 : Bool) (p0_1 : Int) (p0_2 : Int) (p0_3 : List Int) (p0_4 : Int) (p0_5 : Int) (p0_6 : List Int) (p0_7 : List (List Int)) (p1 : Int) (n1 : Nat) (n : Nat) (v0 : Bool) (v0_1 : Int) (v0_2 : Int) (v0_3 : List Int) (v0_4 : Int) (v0_5 : Int) (v0_6 : List Int) (v0_7 : List (List Int)) (v5 : List Int) (v7 : List Int) (v49 : List Int) (v50 : Int) (v51 : Int) (Kk : Out → Option ρ) : Option ρ :=
  iter (run TT E_impl_graph_far (kp_impl_graph_far g) fuel (cL (cB (cS2 (cB (cS1 (cS2 (cL (cB (cS2 (cS1 (cS2 (cS2 (cS2 (cS2 (b_impl_graph_far)))))))))))))))) (nrmAt (kp_impl_graph_far g) (firstRid (cL (cB (cS2 (cB (cS1 (cS2 (cL (cB (cS2 (cS1 (cS2 (cS2 (cS2 (cS2 (b_impl_graph_far))))))))))))))))) n (⟨[.u (.x (.rop v0 [.int .i64 v0_1, .int .i64 v0_2, .sl (.ints .i64 v0_3), .int .i64 v0_4, .int .i64 v0_5, .sl (.ints .i64 v0_6), .sl (.rows v0_7)] 0)), uu, uu, uu, uu, .u (.x (.own 5296 (.ints .i64 v5))), uu, .u (.x (.own 16400128 (.ints .i64 v7))), uu, uu, uu, uu, uu, uu, uu, uu, uu, uu, uu, uu, uu, uu, uu, uu, uu, uu, uu, uu, uu, uu, uu, uu, uu, uu, uu, uu, uu, uu, uu, uu, uu, uu, uu, uu, uu, uu, uu, uu, uu, .u (.x (.ro (.ints .i64 v49))), .u (.x (.int .i64 v50)), .u (.x (.int .i64 v51)), uu, uu, uu, uu, uu, uu, uu, uu, uu, uu, uu, uu, uu, uu, uu, uu, uu, uu, uu, uu, uu, uu, uu, uu], [], [], []⟩) (blkK 4 (blkK 3 (seqK (gateAt (kp_impl_graph_far g) (200000 + firstRid (cS2 (cS2 (cL (cB (cS2 (cS1 (cS2 (cS2 (cS2 (cS2 (b_impl_graph_far))))))))))))) (run TT E_impl_graph_far (kp_impl_graph_far g) fuel (cS2 (cS2 (cL (cB (cS2 (cS1 (cS2 (cS2 (cS2 (cS2 (b_impl_graph_far)))))))))))) (nrmAt (kp_impl_graph_far g) (200000 + firstRid (cS2 (cS2 (cL (cB (cS2 (cS1 (cS2 (cS2 (cS2 (cS2 (b_impl_graph_far))))))))))))) (itK (run TT E_impl_graph_far (kp_impl_graph_far g) fuel (cL (cB (cS2 (cS1 (cS2 (cS2 (cS2 (cS2 (b_impl_graph_far)))))))))) (nrmAt (kp_impl_graph_far g) (firstRid (cL (cB (cS2 (cS1 (cS2 (cS2 (cS2 (cS2 (b_impl_graph_far))))))))))) n1 (blkK 2 (seqK (gateAt (kp_impl_graph_far g) (200000 + firstRid (cS2 (cS2 (cS2 (cS2 (cS2 (b_impl_graph_far)))))))) (run TT E_impl_graph_far (kp_impl_graph_far g) fuel (cS2 (cS2 (cS2 (cS2 (cS2 (b_impl_graph_far))))))) (nrmAt (kp_impl_graph_far g) (200000 + firstRid (cS2 (cS2 (cS2 (cS2 (cS2 (b_impl_graph_far)))))))) (topK TT [.val, .val] false [[]] [.tmp 4] [.x (.rp p0_0 [.int .i64 p0_1, .int .i64 p0_2, .sl (.ints .i64 p0_3), .int .i64 p0_4, .int .i64 p0_5, .sl (.ints .i64 p0_6), .sl (.rows p0_7)]), .x (.int .i64 p1)] Kk)))))))
def S_impl_graph_far_e {ρ : Type} (p0_0 : Bool) (p0_1 : Int) (p0_2 : Int) (p0_3 : List Int) (p0_4 : Int) (p0_5 : Int) (p0_6 : List Int) (p0_7 : List (List Int)) (p1 : Int)  (k0 : (Bool → Int → Int → List Int → Int → Int → List Int → List (List Int) → Int → List Int → Int → Int → Option ρ)) : Option ρ :=
  (bif p0_0 then (bif p0_0 then (if 0 ≤ (IntKind.i64.wrap (p0_1 * p0_2)) then (if (IntKind.i64.wrap (p0_1 * p0_2)) ≤ 1099511627776 then k0 p0_0 p0_1 p0_2 p0_3 p0_4 p0_5 p0_6 p0_7 p1 (List.replicate (IntKind.i64.wrap (p0_1 * p0_2)).toNat (0 : Int)) ((List.replicate (IntKind.i64.wrap (p0_1 * p0_2)).toNat (0 : Int)).length : Int) (0 : Int) else none) else none) else none) else none)
theorem s_impl_graph_far_e {ρ : Type} (g fuel : Nat) (p0_0 : Bool) (p0_1 : Int) (p0_2 : Int) (p0_3 : List Int) (p0_4 : Int) (p0_5 : Int) (p0_6 : List Int) (p0_7 : List (List Int)) (p1 : Int) (Kk : Out → Option ρ) : runFn TT E_impl_graph_far (kp_impl_graph_far g) fuel [.val, .val] 2 false [[]] 76 [.tmp 4] b_impl_graph_far [.x (.rp p0_0 [.int .i64 p0_1, .int .i64 p0_2, .sl (.ints .i64 p0_3), .int .i64 p0_4, .int .i64 p0_5, .sl (.ints .i64 p0_6), .sl (.rows p0_7)]), .x (.int .i64 p1)] Kk = S_impl_graph_far_e p0_0 p0_1 p0_2 p0_3 p0_4 p0_5 p0_6 p0_7 p1  (fun v0 v0_1 v0_2 v0_3 v0_4 v0_5 v0_6 v0_7 v1 v5 v23 v24 => D_impl_graph_far_0 g fuel p0_0 p0_1 p0_2 p0_3 p0_4 p0_5 p0_6 p0_7 p1 fuel v0 v0_1 v0_2 v0_3 v0_4 v0_5 v0_6 v0_7 v1 v5 v23 v24 Kk) := by
  kernel_rfl
def S_impl_graph_far_0 {ρ : Type}  (v0 : Bool) (v0_1 : Int) (v0_2 : Int) (v0_3 : List Int) (v0_4 : Int) (v0_5 : Int) (v0_6 : List Int) (v0_7 : List (List Int)) (v1 : Int) (v5 : List Int) (v23 : Int) (v24 : Int) (b0 : (Bool → Int → Int → List Int → Int → Int → List Int → List (List Int) → Int → List Int → Int → Int → Option ρ)) (k1 : (Bool → Int → Int → List Int → Int → Int → List Int → List (List Int) → List Int → List Int → Option ρ)) : Option ρ :=
  (bif decide (v24 < v23) then (if 0 ≤ v24 then (if v24 < (v5.length : Int) then b0 v0 v0_1 v0_2 v0_3 v0_4 v0_5 v0_6 v0_7 v1 (v5.set v24.toNat (-1 : Int)) v23 (IntKind.i64.wrap (v24 + (1 : Int))) else none) else none) else (if 0 ≤ v1 then (if v1 < (v5.length : Int) then k1 v0 v0_1 v0_2 v0_3 v0_4 v0_5 v0_6 v0_7 (v5.set v1.toNat (0 : Int)) [v1] else none) else none))
theorem s_impl_graph_far_0 {ρ : Type} (g fuel : Nat) (p0_0 : Bool) (p0_1 : Int) (p0_2 : Int) (p0_3 : List Int) (p0_4 : Int) (p0_5 : Int) (p0_6 : List Int) (p0_7 : List (List Int)) (p1 : Int) (n : Nat) (v0 : Bool) (v0_1 : Int) (v0_2 : Int) (v0_3 : List Int) (v0_4 : Int) (v0_5 : Int) (v0_6 : List Int) (v0_7 : List (List Int)) (v1 : Int) (v5 : List Int) (v23 : Int) (v24 : Int) (Kk : Out → Option ρ) : D_impl_graph_far_0 g fuel p0_0 p0_1 p0_2 p0_3 p0_4 p0_5 p0_6 p0_7 p1  (n + 1) v0 v0_1 v0_2 v0_3 v0_4 v0_5 v0_6 v0_7 v1 v5 v23 v24 Kk = S_impl_graph_far_0  v0 v0_1 v0_2 v0_3 v0_4 v0_5 v0_6 v0_7 v1 v5 v23 v24 (fun v0 v0_1 v0_2 v0_3 v0_4 v0_5 v0_6 v0_7 v1 v5 v23 v24 => D_impl_graph_far_0 g fuel p0_0 p0_1 p0_2 p0_3 p0_4 p0_5 p0_6 p0_7 p1 n v0 v0_1 v0_2 v0_3 v0_4 v0_5 v0_6 v0_7 v1 v5 v23 v24 Kk) (fun v0 v0_1 v0_2 v0_3 v0_4 v0_5 v0_6 v0_7 v5 v7 => D_impl_graph_far_1 g fuel p0_0 p0_1 p0_2 p0_3 p0_4 p0_5 p0_6 p0_7 p1 fuel v0 v0_1 v0_2 v0_3 v0_4 v0_5 v0_6 v0_7 v5 v7 Kk) := by
  kernel_rfl
def S_impl_graph_far_1 {ρ : Type}  (v0 : Bool) (v0_1 : Int) (v0_2 : Int) (v0_3 : List Int) (v0_4 : Int) (v0_5 : Int) (v0_6 : List Int) (v0_7 : List (List Int)) (v5 : List Int) (v7 : List Int) (k2 : (Bool → Int → Int → List Int → Int → Int → List Int → List (List Int) → List Int → List Int → List Int → Int → Int → Option ρ)) (K : List Int → Option ρ) : Option ρ :=
  (bif decide ((v7.length : Int) > (0 : Int)) then (bif v0 then (if 0 ≤ (0 : Int) then (if (0 : Int) < (v7.length : Int) then (if 0 ≤ (v7.getD ((0 : Int).toNat) 0) then (if (v7.getD ((0 : Int).toNat) 0) < (v0_7.length : Int) then k2 v0 v0_1 v0_2 v0_3 v0_4 v0_5 v0_6 v0_7 v5 v7 (v0_7.getD ((v7.getD ((0 : Int).toNat) 0).toNat) []) ((v0_7.getD ((v7.getD ((0 : Int).toNat) 0).toNat) []).length : Int) (0 : Int) else none) else none) else none) else none) else none) else K v5)
theorem s_impl_graph_far_1 {ρ : Type} (g fuel : Nat) (p0_0 : Bool) (p0_1 : Int) (p0_2 : Int) (p0_3 : List Int) (p0_4 : Int) (p0_5 : Int) (p0_6 : List Int) (p0_7 : List (List Int)) (p1 : Int) (n : Nat) (v0 : Bool) (v0_1 : Int) (v0_2 : Int) (v0_3 : List Int) (v0_4 : Int) (v0_5 : Int) (v0_6 : List Int) (v0_7 : List (List Int)) (v5 : List Int) (v7 : List Int) (Kk : Out → Option ρ) : D_impl_graph_far_1 g fuel p0_0 p0_1 p0_2 p0_3 p0_4 p0_5 p0_6 p0_7 p1  (n + 1) v0 v0_1 v0_2 v0_3 v0_4 v0_5 v0_6 v0_7 v5 v7 Kk = S_impl_graph_far_1  v0 v0_1 v0_2 v0_3 v0_4 v0_5 v0_6 v0_7 v5 v7 (fun v0 v0_1 v0_2 v0_3 v0_4 v0_5 v0_6 v0_7 v5 v7 v49 v50 v51 => D_impl_graph_far_2 g fuel p0_0 p0_1 p0_2 p0_3 p0_4 p0_5 p0_6 p0_7 p1 n fuel v0 v0_1 v0_2 v0_3 v0_4 v0_5 v0_6 v0_7 v5 v7 v49 v50 v51 Kk) (fun r1 => Kk ⟨[.x (.sl (.ints .i64 r1))], []⟩) := by
  kernel_rfl
def S_impl_graph_far_2 {ρ : Type}  (v0 : Bool) (v0_1 : Int) (v0_2 : Int) (v0_3 : List Int) (v0_4 : Int) (v0_5 : Int) (v0_6 : List Int) (v0_7 : List (List Int)) (v5 : List Int) (v7 : List Int) (v49 : List Int) (v50 : Int) (v51 : Int) (b2 : (Bool → Int → Int → List Int → Int → Int → List Int → List (List Int) → List Int → List Int → List Int → Int → Int → Option ρ)) (b1 : (Bool → Int → Int → List Int → Int → Int → List Int → List (List Int) → List Int → List Int → Option ρ)) : Option ρ :=
  (bif decide (v51 < v50) then (if 0 ≤ v51 then (if v51 < (v49.length : Int) then (if 0 ≤ (v49.getD v51.toNat 0) then (if (v49.getD v51.toNat 0) < (v5.length : Int) then (bif decide ((v5.getD ((v49.getD v51.toNat 0).toNat) 0) < (0 : Int)) then (if 0 ≤ (0 : Int) then (if (0 : Int) < (v7.length : Int) then (if 0 ≤ (v7.getD ((0 : Int).toNat) 0) then (if (v7.getD ((0 : Int).toNat) 0) < (v5.length : Int) then (if 0 ≤ (v49.getD v51.toNat 0) then (if (v49.getD v51.toNat 0) < (v5.length : Int) then (if (v7 ++ [v49.getD v51.toNat 0]).length ≤ 1099511627776 then b2 v0 v0_1 v0_2 v0_3 v0_4 v0_5 v0_6 v0_7 (v5.set ((v49.getD v51.toNat 0).toNat) (IntKind.i64.wrap ((v5.getD ((v7.getD ((0 : Int).toNat) 0).toNat) 0) + (1 : Int)))) (v7 ++ [v49.getD v51.toNat 0]) v49 v50 (IntKind.i64.wrap (v51 + (1 : Int))) else none) else none) else none) else none) else none) else none) else none) else b2 v0 v0_1 v0_2 v0_3 v0_4 v0_5 v0_6 v0_7 v5 v7 v49 v50 (IntKind.i64.wrap (v51 + (1 : Int)))) else none) else none) else none) else none) else (if 0 ≤ (1 : Int) then (if (1 : Int) ≤ (v7.length : Int) then b1 v0 v0_1 v0_2 v0_3 v0_4 v0_5 v0_6 v0_7 v5 ((v7.take v7.length).drop ((1 : Int).toNat)) else none) else none))
theorem s_impl_graph_far_2 {ρ : Type} (g fuel : Nat) (p0_0 : Bool) (p0_1 : Int) (p0_2 : Int) (p0_3 : List Int) (p0_4 : Int) (p0_5 : Int) (p0_6 : List Int) (p0_7 : List (List Int)) (p1 : Int) (n1 : Nat) (n : Nat) (v0 : Bool) (v0_1 : Int) (v0_2 : Int) (v0_3 : List Int) (v0_4 : Int) (v0_5 : Int) (v0_6 : List Int) (v0_7 : List (List Int)) (v5 : List Int) (v7 : List Int) (v49 : List Int) (v50 : Int) (v51 : Int) (Kk : Out → Option ρ) : D_impl_graph_far_2 g fuel p0_0 p0_1 p0_2 p0_3 p0_4 p0_5 p0_6 p0_7 p1 n1 (n + 1) v0 v0_1 v0_2 v0_3 v0_4 v0_5 v0_6 v0_7 v5 v7 v49 v50 v51 Kk = S_impl_graph_far_2  v0 v0_1 v0_2 v0_3 v0_4 v0_5 v0_6 v0_7 v5 v7 v49 v50 v51 (fun v0 v0_1 v0_2 v0_3 v0_4 v0_5 v0_6 v0_7 v5 v7 v49 v50 v51 => D_impl_graph_far_2 g fuel p0_0 p0_1 p0_2 p0_3 p0_4 p0_5 p0_6 p0_7 p1 n1 n v0 v0_1 v0_2 v0_3 v0_4 v0_5 v0_6 v0_7 v5 v7 v49 v50 v51 Kk) (fun v0 v0_1 v0_2 v0_3 v0_4 v0_5 v0_6 v0_7 v5 v7 => D_impl_graph_far_1 g fuel p0_0 p0_1 p0_2 p0_3 p0_4 p0_5 p0_6 p0_7 p1 n1 v0 v0_1 v0_2 v0_3 v0_4 v0_5 v0_6 v0_7 v5 v7 Kk) := by
  kernel_rfl
def F_impl_graph_far_2 {ρ : Type} (fuel : Nat)  (b1 : (Bool → Int → Int → List Int → Int → Int → List Int → List (List Int) → List Int → List Int → Option ρ)) (K : List Int → Option ρ) : Nat → Bool → Int → Int → List Int → Int → Int → List Int → List (List Int) → List Int → List Int → List Int → Int → Int → Option ρ
  | 0, _, _, _, _, _, _, _, _, _, _, _, _, _ => none
  | n + 1, v0, v0_1, v0_2, v0_3, v0_4, v0_5, v0_6, v0_7, v5, v7, v49, v50, v51 => S_impl_graph_far_2  v0 v0_1 v0_2 v0_3 v0_4 v0_5 v0_6 v0_7 v5 v7 v49 v50 v51 (F_impl_graph_far_2 fuel  b1 K n) b1
theorem f_impl_graph_far_2 {ρ : Type} (fuel : Nat) (p0_0 : Bool) (p0_1 : Int) (p0_2 : Int) (p0_3 : List Int) (p0_4 : Int) (p0_5 : Int) (p0_6 : List Int) (p0_7 : List (List Int)) (p1 : Int) (n1 : Nat) (Kk : Out → Option ρ) : ∀ (n : Nat) (v0 : Bool) (v0_1 : Int) (v0_2 : Int) (v0_3 : List Int) (v0_4 : Int) (v0_5 : Int) (v0_6 : List Int) (v0_7 : List (List Int)) (v5 : List Int) (v7 : List Int) (v49 : List Int) (v50 : Int) (v51 : Int), D_impl_graph_far_2 1 fuel p0_0 p0_1 p0_2 p0_3 p0_4 p0_5 p0_6 p0_7 p1 n1 n v0 v0_1 v0_2 v0_3 v0_4 v0_5 v0_6 v0_7 v5 v7 v49 v50 v51 Kk = F_impl_graph_far_2 fuel  (fun v0 v0_1 v0_2 v0_3 v0_4 v0_5 v0_6 v0_7 v5 v7 => D_impl_graph_far_1 1 fuel p0_0 p0_1 p0_2 p0_3 p0_4 p0_5 p0_6 p0_7 p1 n1 v0 v0_1 v0_2 v0_3 v0_4 v0_5 v0_6 v0_7 v5 v7 Kk) (fun r1 => Kk ⟨[.x (.sl (.ints .i64 r1))], []⟩) n v0 v0_1 v0_2 v0_3 v0_4 v0_5 v0_6 v0_7 v5 v7 v49 v50 v51 := by
  intro n
  induction n with
  | zero => intros; rfl
  | succ n ih =>
    intro v0 v0_1 v0_2 v0_3 v0_4 v0_5 v0_6 v0_7 v5 v7 v49 v50 v51
    rw [s_impl_graph_far_2, F_impl_graph_far_2]
    try simp only [ih]
def F_impl_graph_far_1 {ρ : Type} (fuel : Nat)   (K : List Int → Option ρ) : Nat → Bool → Int → Int → List Int → Int → Int → List Int → List (List Int) → List Int → List Int → Option ρ
  | 0, _, _, _, _, _, _, _, _, _, _ => none
  | n + 1, v0, v0_1, v0_2, v0_3, v0_4, v0_5, v0_6, v0_7, v5, v7 => S_impl_graph_far_1  v0 v0_1 v0_2 v0_3 v0_4 v0_5 v0_6 v0_7 v5 v7 (F_impl_graph_far_2 fuel  (F_impl_graph_far_1 fuel   K n) K fuel) K
theorem f_impl_graph_far_1 {ρ : Type} (fuel : Nat) (p0_0 : Bool) (p0_1 : Int) (p0_2 : Int) (p0_3 : List Int) (p0_4 : Int) (p0_5 : Int) (p0_6 : List Int) (p0_7 : List (List Int)) (p1 : Int) (Kk : Out → Option ρ) : ∀ (n : Nat) (v0 : Bool) (v0_1 : Int) (v0_2 : Int) (v0_3 : List Int) (v0_4 : Int) (v0_5 : Int) (v0_6 : List Int) (v0_7 : List (List Int)) (v5 : List Int) (v7 : List Int), D_impl_graph_far_1 1 fuel p0_0 p0_1 p0_2 p0_3 p0_4 p0_5 p0_6 p0_7 p1  n v0 v0_1 v0_2 v0_3 v0_4 v0_5 v0_6 v0_7 v5 v7 Kk = F_impl_graph_far_1 fuel   (fun r1 => Kk ⟨[.x (.sl (.ints .i64 r1))], []⟩) n v0 v0_1 v0_2 v0_3 v0_4 v0_5 v0_6 v0_7 v5 v7 := by
  intro n
  induction n with
  | zero => intros; rfl
  | succ n ih =>
    intro v0 v0_1 v0_2 v0_3 v0_4 v0_5 v0_6 v0_7 v5 v7
    rw [s_impl_graph_far_1, F_impl_graph_far_1]
    try simp only [ih, f_impl_graph_far_2]
def F_impl_graph_far_0 {ρ : Type} (fuel : Nat)   (K : List Int → Option ρ) : Nat → Bool → Int → Int → List Int → Int → Int → List Int → List (List Int) → Int → List Int → Int → Int → Option ρ
  | 0, _, _, _, _, _, _, _, _, _, _, _, _ => none
  | n + 1, v0, v0_1, v0_2, v0_3, v0_4, v0_5, v0_6, v0_7, v1, v5, v23, v24 => S_impl_graph_far_0  v0 v0_1 v0_2 v0_3 v0_4 v0_5 v0_6 v0_7 v1 v5 v23 v24 (F_impl_graph_far_0 fuel   K n) (F_impl_graph_far_1 fuel   K fuel)
theorem f_impl_graph_far_0 {ρ : Type} (fuel : Nat) (p0_0 : Bool) (p0_1 : Int) (p0_2 : Int) (p0_3 : List Int) (p0_4 : Int) (p0_5 : Int) (p0_6 : List Int) (p0_7 : List (List Int)) (p1 : Int) (Kk : Out → Option ρ) : ∀ (n : Nat) (v0 : Bool) (v0_1 : Int) (v0_2 : Int) (v0_3 : List Int) (v0_4 : Int) (v0_5 : Int) (v0_6 : List Int) (v0_7 : List (List Int)) (v1 : Int) (v5 : List Int) (v23 : Int) (v24 : Int), D_impl_graph_far_0 1 fuel p0_0 p0_1 p0_2 p0_3 p0_4 p0_5 p0_6 p0_7 p1  n v0 v0_1 v0_2 v0_3 v0_4 v0_5 v0_6 v0_7 v1 v5 v23 v24 Kk = F_impl_graph_far_0 fuel   (fun r1 => Kk ⟨[.x (.sl (.ints .i64 r1))], []⟩) n v0 v0_1 v0_2 v0_3 v0_4 v0_5 v0_6 v0_7 v1 v5 v23 v24 := by
  intro n
  induction n with
  | zero => intros; rfl
  | succ n ih =>
    intro v0 v0_1 v0_2 v0_3 v0_4 v0_5 v0_6 v0_7 v1 v5 v23 v24
    rw [s_impl_graph_far_0, F_impl_graph_far_0]
    try simp only [ih, f_impl_graph_far_2, f_impl_graph_far_1]
def F_impl_graph_far {ρ : Type} (fuel : Nat) (p0_0 : Bool) (p0_1 : Int) (p0_2 : Int) (p0_3 : List Int) (p0_4 : Int) (p0_5 : Int) (p0_6 : List Int) (p0_7 : List (List Int)) (p1 : Int)  (K : List Int → Option ρ) : Option ρ := S_impl_graph_far_e p0_0 p0_1 p0_2 p0_3 p0_4 p0_5 p0_6 p0_7 p1  (F_impl_graph_far_0 fuel   K fuel)
theorem f_impl_graph_far {ρ : Type} (fuel : Nat) (p0_0 : Bool) (p0_1 : Int) (p0_2 : Int) (p0_3 : List Int) (p0_4 : Int) (p0_5 : Int) (p0_6 : List Int) (p0_7 : List (List Int)) (p1 : Int) (Kk : Out → Option ρ) : runFn TT E_impl_graph_far (kp_impl_graph_far 1) fuel [.val, .val] 2 false [[]] 76 [.tmp 4] b_impl_graph_far [.x (.rp p0_0 [.int .i64 p0_1, .int .i64 p0_2, .sl (.ints .i64 p0_3), .int .i64 p0_4, .int .i64 p0_5, .sl (.ints .i64 p0_6), .sl (.rows p0_7)]), .x (.int .i64 p1)] Kk = F_impl_graph_far fuel p0_0 p0_1 p0_2 p0_3 p0_4 p0_5 p0_6 p0_7 p1 (fun r1 => Kk ⟨[.x (.sl (.ints .i64 r1))], []⟩) := by
  rw [s_impl_graph_far_e, F_impl_graph_far]
  try simp only [f_impl_graph_far_2, f_impl_graph_far_1, f_impl_graph_far_0]
noncomputable def sh_impl_graph_far (p0_0 : Bool) (p0_1 : Int) (p0_2 : Int) (p0_3 : List Int) (p0_4 : Int) (p0_5 : Int) (p0_6 : List Int) (p0_7 : List (List Int)) (p1 : Int) : Option (List Int) := val fun n => F_impl_graph_far n p0_0 p0_1 p0_2 p0_3 p0_4 p0_5 p0_6 p0_7 p1 (fun r1 => some r1)
noncomputable def G_impl_graph_far {ρ : Type} : List DU → (Out → Option ρ) → Option ρ
  | [.x (.rp p0_0 [.int .i64 p0_1, .int .i64 p0_2, .sl (.ints .i64 p0_3), .int .i64 p0_4, .int .i64 p0_5, .sl (.ints .i64 p0_6), .sl (.rows p0_7)]), .x (.int .i64 p1)], K => (sh_impl_graph_far p0_0 p0_1 p0_2 p0_3 p0_4 p0_5 p0_6 p0_7 p1).bind fun r => K ⟨[.x (.sl (.ints .i64 r))], []⟩
  | _, _ => none
noncomputable def o_impl_graph_far : Ora := ⟨[.val, .val], 2, false, G_impl_graph_far⟩
def un_impl_graph_far : Out → Option (List Int)
  | ⟨[.x (.sl (.ints .i64 r1))], []⟩ => some r1
  | _ => none
theorem un_impl_graph_far_ok {o : Out} {r : List Int} (h : un_impl_graph_far o = some r) : o = ⟨[.x (.sl (.ints .i64 r))], []⟩ := by
  unfold un_impl_graph_far at h
  split at h
  · injection h with h
    subst h
    rfl
  · cases h
theorem n_impl_graph_far : ∀ k o, E_impl_graph_far.fn k = some o → Nat1 o := fun k o h => (ook_list (P := Try.prog) (l := O_impl_graph_far) (fk := E_impl_graph_far.fk) (List.forall_mem_nil _)).nat k o h
theorem u_impl_graph_far (fuel : Nat) (p0_0 : Bool) (p0_1 : Int) (p0_2 : Int) (p0_3 : List Int) (p0_4 : Int) (p0_5 : Int) (p0_6 : List Int) (p0_7 : List (List Int)) (p1 : Int) : runFn TT E_impl_graph_far (kp_impl_graph_far 1) fuel [.val, .val] 2 false [[]] 76 [.tmp 4] b_impl_graph_far [.x (.rp p0_0 [.int .i64 p0_1, .int .i64 p0_2, .sl (.ints .i64 p0_3), .int .i64 p0_4, .int .i64 p0_5, .sl (.ints .i64 p0_6), .sl (.rows p0_7)]), .x (.int .i64 p1)] un_impl_graph_far = F_impl_graph_far fuel p0_0 p0_1 p0_2 p0_3 p0_4 p0_5 p0_6 p0_7 p1 (fun r1 => some r1) := f_impl_graph_far fuel p0_0 p0_1 p0_2 p0_3 p0_4 p0_5 p0_6 p0_7 p1 un_impl_graph_far
theorem sh_impl_graph_far_of {n : Nat} {p0_0 : Bool} {p0_1 : Int} {p0_2 : Int} {p0_3 : List Int} {p0_4 : Int} {p0_5 : Int} {p0_6 : List Int} {p0_7 : List (List Int)} {p1 : Int} {r : List Int} (h : F_impl_graph_far n p0_0 p0_1 p0_2 p0_3 p0_4 p0_5 p0_6 p0_7 p1 (fun r1 => some r1) = some r) : sh_impl_graph_far p0_0 p0_1 p0_2 p0_3 p0_4 p0_5 p0_6 p0_7 p1 = some r := val_of (fun n m r hm h => by rw [← u_impl_graph_far] at h ⊢; exact runFn_mono n_impl_graph_far hm h) h
theorem m_impl_graph_far : MeetsO Try.prog 94 o_impl_graph_far := by
  refine ⟨fun ρ ds K => ?_, ⟨_, meets_run (kp := kp_impl_graph_far 1) (weak := false) (df := [[]]) tsOk (ook_list (l := O_impl_graph_far) (fk := E_impl_graph_far.fk) (List.forall_mem_nil _)) mixed Try.func94 (body := b_impl_graph_far) (by kernel_rfl) (ntmps := 76) (by kernel_rfl) (rs := [.tmp 4]) (by kernel_rfl), fun ds out h => ?_⟩, ⟨_, Try.func94, by kernel_rfl, by kernel_rfl⟩⟩
  · show G_impl_graph_far ds K = (G_impl_graph_far ds some).bind K
    unfold G_impl_graph_far
    split
    · cases sh_impl_graph_far _ _ _ _ _ _ _ _ _ <;> rfl
    · rfl
  · replace h : G_impl_graph_far ds some = some out := h
    unfold G_impl_graph_far at h
    split at h
    · obtain ⟨r, hr, h⟩ := Option.bind_eq_some_iff.1 h
      injection h with h
      subst h
      obtain ⟨n, hn⟩ := val_some hr
      replace hn := (u_impl_graph_far n _ _ _ _ _ _ _ _ _).trans hn
      rw [runFn_bind (K := un_impl_graph_far) (K' := some) (f := un_impl_graph_far) n_impl_graph_far (fun _ => rfl)] at hn
      obtain ⟨o, h1, h2⟩ := Option.bind_eq_some_iff.1 hn
      rw [un_impl_graph_far_ok h2] at h1
      exact ⟨n, h1⟩
    · cases h
/-! f79 (*loop.example.g01239.impl.graph).parts -/
noncomputable def b_impl_graph_parts : Code := Try.f79.body.getD .skip
def kp_impl_graph_parts (g : Nat) : Nat → Option Keep := lk [(4, ⟨[], [0, 3, 4, 19, 20, 21], [], [(3, 16400000)], [], g⟩), (9, ⟨[], [0, 3, 4, 7, 19, 20, 21, 31, 32, 33], [], [(3, 16400065), (7, 16400064)], [], g⟩)]
def O_impl_graph_parts : List (FuncId × Ora) := [(94, o_impl_graph_far)]
def E_impl_graph_parts : Env := ⟨lk O_impl_graph_parts, fun _ => false⟩
noncomputable def D_impl_graph_parts_0 {ρ : Type} (g fuel : Nat) (p0_0 : Bool) (p0_1 : Int) (p0_2 : Int) (p0_3 : List Int) (p0_4 : Int) (p0_5 : Int) (p0_6 : List Int) (p0_7 : List (List Int)) (n : Nat) (v0 : Bool) (v0_1 : Int) (v0_2 : Int) (v0_3 : List Int) (v0_4 : Int) (v0_5 : Int) (v0_6 : List Int) (v0_7 : List (List Int)) (v3 : List (List Int)) (v4 : List Bool) (v20 : Int) (v21 : Int) (Kk : Out → Option ρ) : Option ρ :=
  iter (run TT E_impl_graph_parts (kp_impl_graph_parts g) fuel (cL (cB (cS2 (cS1 (cS2 (cS2 (cS2 (b_impl_graph_parts))))))))) (nrmAt (kp_impl_graph_parts g) (firstRid (cL (cB (cS2 (cS1 (cS2 (cS2 (cS2 (b_impl_graph_parts)))))))))) n (⟨[.u (.x (.rop v0 [.int .i64 v0_1, .int .i64 v0_2, .sl (.ints .i64 v0_3), .int .i64 v0_4, .int .i64 v0_5, .sl (.ints .i64 v0_6), .sl (.rows v0_7)] 0)), uu, uu, .u (.x (.own 16400000 (.orows v3))), .u (.x (.own 6224 (.bools v4))), uu, uu, uu, uu, uu, uu, uu, uu, uu, uu, uu, uu, uu, uu, .u (.x (.ro (.ints .i64 v0_6))), .u (.x (.int .i64 v20)), .u (.x (.int .i64 v21)), uu, uu, uu, uu, uu, uu, uu, uu, uu, uu, uu, uu, uu, uu, uu, uu, uu, uu, uu, uu, uu, uu, uu, uu, uu, uu, uu, uu, uu, uu, uu, uu], [], [], []⟩) (blkK 0 (seqK (gateAt (kp_impl_graph_parts g) (200000 + firstRid (cS2 (cS2 (cS2 (cS2 (b_impl_graph_parts))))))) (run TT E_impl_graph_parts (kp_impl_graph_parts g) fuel (cS2 (cS2 (cS2 (cS2 (b_impl_graph_parts)))))) (nrmAt (kp_impl_graph_parts g) (200000 + firstRid (cS2 (cS2 (cS2 (cS2 (b_impl_graph_parts))))))) (topK TT [.val] false [[]] [.tmp 2] [.x (.rp p0_0 [.int .i64 p0_1, .int .i64 p0_2, .sl (.ints .i64 p0_3), .int .i64 p0_4, .int .i64 p0_5, .sl (.ints .i64 p0_6), .sl (.rows p0_7)])] Kk)))
noncomputable def D_impl_graph_parts_1 {ρ : Type} (g fuel : Nat) (p0_0 : Bool) (p0_1 : Int) (p0_2 : Int) (p0_3 : List Int) (p0_4 : Int) (p0_5 : Int) (p0_6 : List Int) (p0_7 : List (List Int)) (n0 : Nat) (n : Nat) (v0 : Bool) (v0_1 : Int) (v0_2 : Int) (v0_3 : List Int) (v0_4 : Int) (v0_5 : Int) (v0_6 : List Int) (v0_7 : List (List Int)) (v3 : List (List Int)) (v4 : List Bool) (v7 : List Int) (v20 : Int) (v21 : Int) (v31 : List Int) (v32 : Int) (v33 : Int) (Kk : Out → Option ρ) : Option ρ :=
  iter (run TT E_impl_graph_parts (kp_impl_graph_parts g) fuel (cL (cB (cS2 (cS1 (cS2 (cS2 (cS2 (cB (cS1 (cS2 (cS2 (cL (cB (cS2 (cS1 (cS2 (cS2 (cS2 (b_impl_graph_parts)))))))))))))))))))) (nrmAt (kp_impl_graph_parts g) (firstRid (cL (cB (cS2 (cS1 (cS2 (cS2 (cS2 (cB (cS1 (cS2 (cS2 (cL (cB (cS2 (cS1 (cS2 (cS2 (cS2 (b_impl_graph_parts))))))))))))))))))))) n (⟨[.u (.x (.rop v0 [.int .i64 v0_1, .int .i64 v0_2, .sl (.ints .i64 v0_3), .int .i64 v0_4, .int .i64 v0_5, .sl (.ints .i64 v0_6), .sl (.rows v0_7)] 0)), uu, uu, .u (.x (.own 16400065 (.orows v3))), .u (.x (.own 6224 (.bools v4))), uu, uu, .u (.x (.own 16400064 (.ints .i64 v7))), uu, uu, uu, uu, uu, uu, uu, uu, uu, uu, uu, .u (.x (.ro (.ints .i64 v0_6))), .u (.x (.int .i64 v20)), .u (.x (.int .i64 v21)), uu, uu, uu, uu, uu, uu, uu, uu, uu, .u (.x (.own 12328 (.ints .i64 v31))), .u (.x (.int .i64 v32)), .u (.x (.int .i64 v33)), uu, uu, uu, uu, uu, uu, uu, uu, uu, uu, uu, uu, uu, uu, uu, uu, uu, uu, uu, uu], [], [], []⟩) (blkK 2 (seqK (gateAt (kp_impl_graph_parts g) (200000 + firstRid (cS2 (cS2 (cS2 (cS2 (cB (cS1 (cS2 (cS2 (cL (cB (cS2 (cS1 (cS2 (cS2 (cS2 (b_impl_graph_parts)))))))))))))))))) (run TT E_impl_graph_parts (kp_impl_graph_parts g) fuel (cS2 (cS2 (cS2 (cS2 (cB (cS1 (cS2 (cS2 (cL (cB (cS2 (cS1 (cS2 (cS2 (cS2 (b_impl_graph_parts))))))))))))))))) (nrmAt (kp_impl_graph_parts g) (200000 + firstRid (cS2 (cS2 (cS2 (cS2 (cB (cS1 (cS2 (cS2 (cL (cB (cS2 (cS1 (cS2 (cS2 (cS2 (b_impl_graph_parts)))))))))))))))))) (blkK 1 (seqK (gateAt (kp_impl_graph_parts g) (200000 + firstRid (cS2 (cS2 (cS2 (cL (cB (cS2 (cS1 (cS2 (cS2 (cS2 (b_impl_graph_parts))))))))))))) (run TT E_impl_graph_parts (kp_impl_graph_parts g) fuel (cS2 (cS2 (cS2 (cL (cB (cS2 (cS1 (cS2 (cS2 (cS2 (b_impl_graph_parts)))))))))))) (nrmAt (kp_impl_graph_parts g) (200000 + firstRid (cS2 (cS2 (cS2 (cL (cB (cS2 (cS1 (cS2 (cS2 (cS2 (b_impl_graph_parts))))))))))))) (itK (run TT E_impl_graph_parts (kp_impl_graph_parts g) fuel (cL (cB (cS2 (cS1 (cS2 (cS2 (cS2 (b_impl_graph_parts))))))))) (nrmAt (kp_impl_graph_parts g) (firstRid (cL (cB (cS2 (cS1 (cS2 (cS2 (cS2 (b_impl_graph_parts)))))))))) n0 (blkK 0 (seqK (gateAt (kp_impl_graph_parts g) (200000 + firstRid (cS2 (cS2 (cS2 (cS2 (b_impl_graph_parts))))))) (run TT E_impl_graph_parts (kp_impl_graph_parts g) fuel (cS2 (cS2 (cS2 (cS2 (b_impl_graph_parts)))))) (nrmAt (kp_impl_graph_parts g) (200000 + firstRid (cS2 (cS2 (cS2 (cS2 (b_impl_graph_parts))))))) (topK TT [.val] false [[]] [.tmp 2] [.x (.rp p0_0 [.int .i64 p0_1, .int .i64 p0_2, .sl (.ints .i64 p0_3), .int .i64 p0_4, .int .i64 p0_5, .sl (.ints .i64 p0_6), .sl (.rows p0_7)])] Kk))))))))
def S_impl_graph_parts_e {ρ : Type} (p0_0 : Bool) (p0_1 : Int) (p0_2 : Int) (p0_3 : List Int) (p0_4 : Int) (p0_5 : Int) (p0_6 : List Int) (p0_7 : List (List Int))  (k0 : (Bool → Int → Int → List Int → Int → Int → List Int → List (List Int) → List (List Int) → List Bool → Int → Int → Option ρ)) : Option ρ :=
  (bif p0_0 then (if 0 ≤ (p0_7.length : Int) then (if (p0_7.length : Int) ≤ 1099511627776 then (bif p0_0 then k0 p0_0 p0_1 p0_2 p0_3 p0_4 p0_5 p0_6 p0_7 [] (List.replicate (p0_7.length : Int).toNat false) (p0_6.length : Int) (0 : Int) else none) else none) else none) else none)
theorem s_impl_graph_parts_e {ρ : Type} (g fuel : Nat) (p0_0 : Bool) (p0_1 : Int) (p0_2 : Int) (p0_3 : List Int) (p0_4 : Int) (p0_5 : Int) (p0_6 : List Int) (p0_7 : List (List Int)) (Kk : Out → Option ρ) : runFn TT E_impl_graph_parts (kp_impl_graph_parts g) fuel [.val] 1 false [[]] 54 [.tmp 2] b_impl_graph_parts [.x (.rp p0_0 [.int .i64 p0_1, .int .i64 p0_2, .sl (.ints .i64 p0_3), .int .i64 p0_4, .int .i64 p0_5, .sl (.ints .i64 p0_6), .sl (.rows p0_7)])] Kk = S_impl_graph_parts_e p0_0 p0_1 p0_2 p0_3 p0_4 p0_5 p0_6 p0_7  (fun v0 v0_1 v0_2 v0_3 v0_4 v0_5 v0_6 v0_7 v3 v4 v20 v21 => D_impl_graph_parts_0 g fuel p0_0 p0_1 p0_2 p0_3 p0_4 p0_5 p0_6 p0_7 fuel v0 v0_1 v0_2 v0_3 v0_4 v0_5 v0_6 v0_7 v3 v4 v20 v21 Kk) := by
  kernel_rfl
def S_impl_graph_parts_0 {ρ : Type}  (v0 : Bool) (v0_1 : Int) (v0_2 : Int) (v0_3 : List Int) (v0_4 : Int) (v0_5 : Int) (v0_6 : List Int) (v0_7 : List (List Int)) (v3 : List (List Int)) (v4 : List Bool) (v20 : Int) (v21 : Int) (b0 : (Bool → Int → Int → List Int → Int → Int → List Int → List (List Int) → List (List Int) → List Bool → Int → Int → Option ρ)) (k1 : (Bool → Int → Int → List Int → Int → Int → List Int → List (List Int) → List (List Int) → List Bool → List Int → Int → Int → List Int → Int → Int → Option ρ)) (K : List (List Int) → Option ρ) : Option ρ :=
  (bif decide (v21 < v20) then (if 0 ≤ v21 then (if v21 < (v0_6.length : Int) then (if 0 ≤ (v0_6.getD v21.toNat 0) then (if (v0_6.getD v21.toNat 0) < (v4.length : Int) then (bif v4.getD ((v0_6.getD v21.toNat 0).toNat) false then b0 v0 v0_1 v0_2 v0_3 v0_4 v0_5 v0_6 v0_7 v3 v4 v20 (IntKind.i64.wrap (v21 + (1 : Int))) else ((sh_impl_graph_far v0 v0_1 v0_2 v0_3 v0_4 v0_5 v0_6 v0_7 (v0_6.getD v21.toNat 0)).bind fun r1 => k1 v0 v0_1 v0_2 v0_3 v0_4 v0_5 v0_6 v0_7 v3 v4 [] v20 v21 r1 (r1.length : Int) (0 : Int))) else none) else none) else none) else none) else K v3)
theorem s_impl_graph_parts_0 {ρ : Type} (g fuel : Nat) (p0_0 : Bool) (p0_1 : Int) (p0_2 : Int) (p0_3 : List Int) (p0_4 : Int) (p0_5 : Int) (p0_6 : List Int) (p0_7 : List (List Int)) (n : Nat) (v0 : Bool) (v0_1 : Int) (v0_2 : Int) (v0_3 : List Int) (v0_4 : Int) (v0_5 : Int) (v0_6 : List Int) (v0_7 : List (List Int)) (v3 : List (List Int)) (v4 : List Bool) (v20 : Int) (v21 : Int) (Kk : Out → Option ρ) : D_impl_graph_parts_0 g fuel p0_0 p0_1 p0_2 p0_3 p0_4 p0_5 p0_6 p0_7  (n + 1) v0 v0_1 v0_2 v0_3 v0_4 v0_5 v0_6 v0_7 v3 v4 v20 v21 Kk = S_impl_graph_parts_0  v0 v0_1 v0_2 v0_3 v0_4 v0_5 v0_6 v0_7 v3 v4 v20 v21 (fun v0 v0_1 v0_2 v0_3 v0_4 v0_5 v0_6 v0_7 v3 v4 v20 v21 => D_impl_graph_parts_0 g fuel p0_0 p0_1 p0_2 p0_3 p0_4 p0_5 p0_6 p0_7 n v0 v0_1 v0_2 v0_3 v0_4 v0_5 v0_6 v0_7 v3 v4 v20 v21 Kk) (fun v0 v0_1 v0_2 v0_3 v0_4 v0_5 v0_6 v0_7 v3 v4 v7 v20 v21 v31 v32 v33 => D_impl_graph_parts_1 g fuel p0_0 p0_1 p0_2 p0_3 p0_4 p0_5 p0_6 p0_7 n fuel v0 v0_1 v0_2 v0_3 v0_4 v0_5 v0_6 v0_7 v3 v4 v7 v20 v21 v31 v32 v33 Kk) (fun r1 => Kk ⟨[.x (.sl (.orows r1))], []⟩) := by
  kernel_rfl
def S_impl_graph_parts_1 {ρ : Type}  (v0 : Bool) (v0_1 : Int) (v0_2 : Int) (v0_3 : List Int) (v0_4 : Int) (v0_5 : Int) (v0_6 : List Int) (v0_7 : List (List Int)) (v3 : List (List Int)) (v4 : List Bool) (v7 : List Int) (v20 : Int) (v21 : Int) (v31 : List Int) (v32 : Int) (v33 : Int) (b1 : (Bool → Int → Int → List Int → Int → Int → List Int → List (List Int) → List (List Int) → List Bool → List Int → Int → Int → List Int → Int → Int → Option ρ)) (b0 : (Bool → Int → Int → List Int → Int → Int → List Int → List (List Int) → List (List Int) → List Bool → Int → Int → Option ρ)) : Option ρ :=
  (bif decide (v33 < v32) then (if 0 ≤ v33 then (if v33 < (v31.length : Int) then (bif decide ((v31.getD v33.toNat 0) ≥ (0 : Int)) then (if 0 ≤ v33 then (if v33 < (v4.length : Int) then (if (v7 ++ [v33]).length ≤ 1099511627776 then b1 v0 v0_1 v0_2 v0_3 v0_4 v0_5 v0_6 v0_7 v3 (v4.set v33.toNat true) (v7 ++ [v33]) v20 v21 v31 v32 (IntKind.i64.wrap (v33 + (1 : Int))) else none) else none) else none) else b1 v0 v0_1 v0_2 v0_3 v0_4 v0_5 v0_6 v0_7 v3 v4 v7 v20 v21 v31 v32 (IntKind.i64.wrap (v33 + (1 : Int)))) else none) else none) else (if (v3 ++ [v7]).length ≤ 1099511627776 then b0 v0 v0_1 v0_2 v0_3 v0_4 v0_5 v0_6 v0_7 (v3 ++ [v7]) v4 v20 (IntKind.i64.wrap (v21 + (1 : Int))) else none))
theorem s_impl_graph_parts_1 {ρ : Type} (g fuel : Nat) (p0_0 : Bool) (p0_1 : Int) (p0_2 : Int) (p0_3 : List Int) (p0_4 : Int) (p0_5 : Int) (p0_6 : List Int) (p0_7 : List (List Int)) (n0 : Nat) (n : Nat) (v0 : Bool) (v0_1 : Int) (v0_2 : Int) (v0_3 : List Int) (v0_4 : Int) (v0_5 : Int) (v0_6 : List Int) (v0_7 : List (List Int)) (v3 : List (List Int)) (v4 : List Bool) (v7 : List Int) (v20 : Int) (v21 : Int) (v31 : List Int) (v32 : Int) (v33 : Int) (Kk : Out → Option ρ) : D_impl_graph_parts_1 g fuel p0_0 p0_1 p0_2 p0_3 p0_4 p0_5 p0_6 p0_7 n0 (n + 1) v0 v0_1 v0_2 v0_3 v0_4 v0_5 v0_6 v0_7 v3 v4 v7 v20 v21 v31 v32 v33 Kk = S_impl_graph_parts_1  v0 v0_1 v0_2 v0_3 v0_4 v0_5 v0_6 v0_7 v3 v4 v7 v20 v21 v31 v32 v33 (fun v0 v0_1 v0_2 v0_3 v0_4 v0_5 v0_6 v0_7 v3 v4 v7 v20 v21 v31 v32 v33 => D_impl_graph_parts_1 g fuel p0_0 p0_1 p0_2 p0_3 p0_4 p0_5 p0_6 p0_7 n0 n v0 v0_1 v0_2 v0_3 v0_4 v0_5 v0_6 v0_7 v3 v4 v7 v20 v21 v31 v32 v33 Kk) (fun v0 v0_1 v0_2 v0_3 v0_4 v0_5 v0_6 v0_7 v3 v4 v20 v21 => D_impl_graph_parts_0 g fuel p0_0 p0_1 p0_2 p0_3 p0_4 p0_5 p0_6 p0_7 n0 v0 v0_1 v0_2 v0_3 v0_4 v0_5 v0_6 v0_7 v3 v4 v20 v21 Kk) := by
  kernel_rfl
def F_impl_graph_parts_1 {ρ : Type} (fuel : Nat)  (b0 : (Bool → Int → Int → List Int → Int → Int → List Int → List (List Int) → List (List Int) → List Bool → Int → Int → Option ρ)) (K : List (List Int) → Option ρ) : Nat → Bool → Int → Int → List Int → Int → Int → List Int → List (List Int) → List (List Int) → List Bool → List Int → Int → Int → List Int → Int → Int → Option ρ
  | 0, _, _, _, _, _, _, _, _, _, _, _, _, _, _, _, _ => none
  | n + 1, v0, v0_1, v0_2, v0_3, v0_4, v0_5, v0_6, v0_7, v3, v4, v7, v20, v21, v31, v32, v33 => S_impl_graph_parts_1  v0 v0_1 v0_2 v0_3 v0_4 v0_5 v0_6 v0_7 v3 v4 v7 v20 v21 v31 v32 v33 (F_impl_graph_parts_1 fuel  b0 K n) b0
theorem f_impl_graph_parts_1 {ρ : Type} (fuel : Nat) (p0_0 : Bool) (p0_1 : Int) (p0_2 : Int) (p0_3 : List Int) (p0_4 : Int) (p0_5 : Int) (p0_6 : List Int) (p0_7 : List (List Int)) (n0 : Nat) (Kk : Out → Option ρ) : ∀ (n : Nat) (v0 : Bool) (v0_1 : Int) (v0_2 : Int) (v0_3 : List Int) (v0_4 : Int) (v0_5 : Int) (v0_6 : List Int) (v0_7 : List (List Int)) (v3 : List (List Int)) (v4 : List Bool) (v7 : List Int) (v20 : Int) (v21 : Int) (v31 : List Int) (v32 : Int) (v33 : Int), D_impl_graph_parts_1 1 fuel p0_0 p0_1 p0_2 p0_3 p0_4 p0_5 p0_6 p0_7 n0 n v0 v0_1 v0_2 v0_3 v0_4 v0_5 v0_6 v0_7 v3 v4 v7 v20 v21 v31 v32 v33 Kk = F_impl_graph_parts_1 fuel  (fun v0 v0_1 v0_2 v0_3 v0_4 v0_5 v0_6 v0_7 v3 v4 v20 v21 => D_impl_graph_parts_0 1 fuel p0_0 p0_1 p0_2 p0_3 p0_4 p0_5 p0_6 p0_7 n0 v0 v0_1 v0_2 v0_3 v0_4 v0_5 v0_6 v0_7 v3 v4 v20 v21 Kk) (fun r1 => Kk ⟨[.x (.sl (.orows r1))], []⟩) n v0 v0_1 v0_2 v0_3 v0_4 v0_5 v0_6 v0_7 v3 v4 v7 v20 v21 v31 v32 v33 := by
  intro n
  induction n with
  | zero => intros; rfl
  | succ n ih =>
    intro v0 v0_1 v0_2 v0_3 v0_4 v0_5 v0_6 v0_7 v3 v4 v7 v20 v21 v31 v32 v33
    rw [s_impl_graph_parts_1, F_impl_graph_parts_1]
    try simp only [ih]
def F_impl_graph_parts_0 {ρ : Type} (fuel : Nat)   (K : List (List Int) → Option ρ) : Nat → Bool → Int → Int → List Int → Int → Int → List Int → List (List Int) → List (List Int) → List Bool → Int → Int → Option ρ
  | 0, _, _, _, _, _, _, _, _, _, _, _, _ => none
  | n + 1, v0, v0_1, v0_2, v0_3, v0_4, v0_5, v0_6, v0_7, v3, v4, v20, v21 => S_impl_graph_parts_0  v0 v0_1 v0_2 v0_3 v0_4 v0_5 v0_6 v0_7 v3 v4 v20 v21 (F_impl_graph_parts_0 fuel   K n) (F_impl_graph_parts_1 fuel  (F_impl_graph_parts_0 fuel   K n) K fuel) K
theorem f_impl_graph_parts_0 {ρ : Type} (fuel : Nat) (p0_0 : Bool) (p0_1 : Int) (p0_2 : Int) (p0_3 : List Int) (p0_4 : Int) (p0_5 : Int) (p0_6 : List Int) (p0_7 : List (List Int)) (Kk : Out → Option ρ) : ∀ (n : Nat) (v0 : Bool) (v0_1 : Int) (v0_2 : Int) (v0_3 : List Int) (v0_4 : Int) (v0_5 : Int) (v0_6 : List Int) (v0_7 : List (List Int)) (v3 : List (List Int)) (v4 : List Bool) (v20 : Int) (v21 : Int), D_impl_graph_parts_0 1 fuel p0_0 p0_1 p0_2 p0_3 p0_4 p0_5 p0_6 p0_7  n v0 v0_1 v0_2 v0_3 v0_4 v0_5 v0_6 v0_7 v3 v4 v20 v21 Kk = F_impl_graph_parts_0 fuel   (fun r1 => Kk ⟨[.x (.sl (.orows r1))], []⟩) n v0 v0_1 v0_2 v0_3 v0_4 v0_5 v0_6 v0_7 v3 v4 v20 v21 := by
  intro n
  induction n with
  | zero => intros; rfl
  | succ n ih =>
    intro v0 v0_1 v0_2 v0_3 v0_4 v0_5 v0_6 v0_7 v3 v4 v20 v21
    rw [s_impl_graph_parts_0, F_impl_graph_parts_0]
    try simp only [ih, f_impl_graph_parts_1]
def F_impl_graph_parts {ρ : Type} (fuel : Nat) (p0_0 : Bool) (p0_1 : Int) (p0_2 : Int) (p0_3 : List Int) (p0_4 : Int) (p0_5 : Int) (p0_6 : List Int) (p0_7 : List (List Int))  (K : List (List Int) → Option ρ) : Option ρ := S_impl_graph_parts_e p0_0 p0_1 p0_2 p0_3 p0_4 p0_5 p0_6 p0_7  (F_impl_graph_parts_0 fuel   K fuel)
theorem f_impl_graph_parts {ρ : Type} (fuel : Nat) (p0_0 : Bool) (p0_1 : Int) (p0_2 : Int) (p0_3 : List Int) (p0_4 : Int) (p0_5 : Int) (p0_6 : List Int) (p0_7 : List (List Int)) (Kk : Out → Option ρ) : runFn TT E_impl_graph_parts (kp_impl_graph_parts 1) fuel [.val] 1 false [[]] 54 [.tmp 2] b_impl_graph_parts [.x (.rp p0_0 [.int .i64 p0_1, .int .i64 p0_2, .sl (.ints .i64 p0_3), .int .i64 p0_4, .int .i64 p0_5, .sl (.ints .i64 p0_6), .sl (.rows p0_7)])] Kk = F_impl_graph_parts fuel p0_0 p0_1 p0_2 p0_3 p0_4 p0_5 p0_6 p0_7 (fun r1 => Kk ⟨[.x (.sl (.orows r1))], []⟩) := by
  rw [s_impl_graph_parts_e, F_impl_graph_parts]
  try simp only [f_impl_graph_parts_1, f_impl_graph_parts_0]
noncomputable def sh_impl_graph_parts (p0_0 : Bool) (p0_1 : Int) (p0_2 : Int) (p0_3 : List Int) (p0_4 : Int) (p0_5 : Int) (p0_6 : List Int) (p0_7 : List (List Int)) : Option (List (List Int)) := val fun n => F_impl_graph_parts n p0_0 p0_1 p0_2 p0_3 p0_4 p0_5 p0_6 p0_7 (fun r1 => some r1)
noncomputable def G_impl_graph_parts {ρ : Type} : List DU → (Out → Option ρ) → Option ρ
  | [.x (.rp p0_0 [.int .i64 p0_1, .int .i64 p0_2, .sl (.ints .i64 p0_3), .int .i64 p0_4, .int .i64 p0_5, .sl (.ints .i64 p0_6), .sl (.rows p0_7)])], K => (sh_impl_graph_parts p0_0 p0_1 p0_2 p0_3 p0_4 p0_5 p0_6 p0_7).bind fun r => K ⟨[.x (.sl (.orows r))], []⟩
  | _, _ => none
noncomputable def o_impl_graph_parts : Ora := ⟨[.val], 1, false, G_impl_graph_parts⟩
def un_impl_graph_parts : Out → Option (List (List Int))
  | ⟨[.x (.sl (.orows r1))], []⟩ => some r1
  | _ => none
theorem un_impl_graph_parts_ok {o : Out} {r : List (List Int)} (h : un_impl_graph_parts o = some r) : o = ⟨[.x (.sl (.orows r))], []⟩ := by
  unfold un_impl_graph_parts at h
  split at h
  · injection h with h
    subst h
    rfl
  · cases h
theorem n_impl_graph_parts : ∀ k o, E_impl_graph_parts.fn k = some o → Nat1 o := fun k o h => (ook_list (P := Try.prog) (l := O_impl_graph_parts) (fk := E_impl_graph_parts.fk) (List.forall_mem_cons.2 ⟨m_impl_graph_far, (List.forall_mem_nil _)⟩)).nat k o h
theorem u_impl_graph_parts (fuel : Nat) (p0_0 : Bool) (p0_1 : Int) (p0_2 : Int) (p0_3 : List Int) (p0_4 : Int) (p0_5 : Int) (p0_6 : List Int) (p0_7 : List (List Int)) : runFn TT E_impl_graph_parts (kp_impl_graph_parts 1) fuel [.val] 1 false [[]] 54 [.tmp 2] b_impl_graph_parts [.x (.rp p0_0 [.int .i64 p0_1, .int .i64 p0_2, .sl (.ints .i64 p0_3), .int .i64 p0_4, .int .i64 p0_5, .sl (.ints .i64 p0_6), .sl (.rows p0_7)])] un_impl_graph_parts = F_impl_graph_parts fuel p0_0 p0_1 p0_2 p0_3 p0_4 p0_5 p0_6 p0_7 (fun r1 => some r1) := f_impl_graph_parts fuel p0_0 p0_1 p0_2 p0_3 p0_4 p0_5 p0_6 p0_7 un_impl_graph_parts
theorem sh_impl_graph_parts_of {n : Nat} {p0_0 : Bool} {p0_1 : Int} {p0_2 : Int} {p0_3 : List Int} {p0_4 : Int} {p0_5 : Int} {p0_6 : List Int} {p0_7 : List (List Int)} {r : List (List Int)} (h : F_impl_graph_parts n p0_0 p0_1 p0_2 p0_3 p0_4 p0_5 p0_6 p0_7 (fun r1 => some r1) = some r) : sh_impl_graph_parts p0_0 p0_1 p0_2 p0_3 p0_4 p0_5 p0_6 p0_7 = some r := val_of (fun n m r hm h => by rw [← u_impl_graph_parts] at h ⊢; exact runFn_mono n_impl_graph_parts hm h) h
theorem m_impl_graph_parts : MeetsO Try.prog 79 o_impl_graph_parts := by
  refine ⟨fun ρ ds K => ?_, ⟨_, meets_run (kp := kp_impl_graph_parts 1) (weak := false) (df := [[]]) tsOk (ook_list (l := O_impl_graph_parts) (fk := E_impl_graph_parts.fk) (List.forall_mem_cons.2 ⟨m_impl_graph_far, (List.forall_mem_nil _)⟩)) mixed Try.func79 (body := b_impl_graph_parts) (by kernel_rfl) (ntmps := 54) (by kernel_rfl) (rs := [.tmp 2]) (by kernel_rfl), fun ds out h => ?_⟩, ⟨_, Try.func79, by kernel_rfl, by kernel_rfl⟩⟩
  · show G_impl_graph_parts ds K = (G_impl_graph_parts ds some).bind K
    unfold G_impl_graph_parts
    split
    · cases sh_impl_graph_parts _ _ _ _ _ _ _ _ <;> rfl
    · rfl
  · replace h : G_impl_graph_parts ds some = some out := h
    unfold G_impl_graph_parts at h
    split at h
    · obtain ⟨r, hr, h⟩ := Option.bind_eq_some_iff.1 h
      injection h with h
      subst h
      obtain ⟨n, hn⟩ := val_some hr
      replace hn := (u_impl_graph_parts n _ _ _ _ _ _ _ _).trans hn
      rw [runFn_bind (K := un_impl_graph_parts) (K' := some) (f := un_impl_graph_parts) n_impl_graph_parts (fun _ => rfl)] at hn
      obtain ⟨o, h1, h2⟩ := Option.bind_eq_some_iff.1 hn
      rw [un_impl_graph_parts_ok h2] at h1
      exact ⟨n, h1⟩
    · cases h
/-! f81 slices.Clone[[]int,int] -/
noncomputable def sh_slices_Clone_int_int (p0 : List Int) : Option (List Int) := cloneS p0
noncomputable def o_slices_Clone_int_int : Ora := cloneO
theorem m_slices_Clone_int_int : MeetsO Try.prog 81 o_slices_Clone_int_int := clone_meets Try.func81 (by kernel_rfl) (by kernel_rfl) (fun b off n c zs w h1 h2 h3 => Try.slices_Clone_int b off n c zs w h1 h2 h3) Try.slices_Clone_int_nil Try.slices_Clone_int_zero
/-! f80 (loop.example.g01239.impl.Puzzle).solve$1 -/
noncomputable def b_impl_Puzzle_solve_c1 : Code := Try.f80.body.getD .skip
def kp_impl_Puzzle_solve_c1 (g : Nat) : Nat → Option Keep := lk [(7, ⟨[0], [0, 2, 4, 5, 6, 9, 50, 51, 52], [127, 191, 255, 319, 383, 447], [], [(191, 0, 33177216), (255, 0, 33177217)], g⟩), (200005, ⟨[], [0, 2, 3, 4, 5, 6, 8], [127, 191, 255, 319, 383, 447], [], [], g⟩), (200011, ⟨[], [0, 2, 4, 5, 6, 9, 11, 50, 51, 52], [127, 191, 255, 319, 383, 447], [], [], g⟩)]
noncomputable def G_impl_Puzzle_solve_c1 (rc : (List Int) → Bool → Int → Int → (List Int) → Int → Int → (List Int) → (List (List Int)) → (List (List Int)) → (List Int) → Int → Int → Int → (List Int) → Int → Int → (List Int) → Option (Bool × Int × Int × List Int × Int × Int × List Int × List (List Int) × List (List Int) × List Int × Int × Int × Int × List Int × Int × Int × List Int)) {ρ : Type} : List DU → (Out → Option ρ) → Option ρ
  | [.x (.sl (.ints .i64 p0)), .ptr [.rp p1_0 [.int .i64 p1_1, .int .i64 p1_2, .sl (.ints .i64 p1_3), .int .i64 p1_4, .int .i64 p1_5, .sl (.ints .i64 p1_6), .sl (.rows p1_7)]], .ptr [.sl (.orows p2)], .ptr [.sl (.ints .i64 p3)], .ptr [.int .i64 p4], .ptr [.int .i64 p5_0, .int .i64 p5_1, .rs (.ints .i64 p5_2), .int .i64 p5_3, .int .i64 p5_4, .rs (.ints .i64 p5_5)], .ptr [.fnv 80 [] [1, 2, 3, 4, 5, 6]]], K => (rc p0 p1_0 p1_1 p1_2 p1_3 p1_4 p1_5 p1_6 p1_7 p2 p3 p4 p5_0 p5_1 p5_2 p5_3 p5_4 p5_5).bind fun r => K ⟨[], [.ptr [.rp r.1 [.int .i64 r.2.1, .int .i64 r.2.2.1, .sl (.ints .i64 r.2.2.2.1), .int .i64 r.2.2.2.2.1, .int .i64 r.2.2.2.2.2.1, .sl (.ints .i64 r.2.2.2.2.2.2.1), .sl (.rows r.2.2.2.2.2.2.2.1)]], .ptr [.sl (.orows r.2.2.2.2.2.2.2.2.1)], .ptr [.sl (.ints .i64 r.2.2.2.2.2.2.2.2.2.1)], .ptr [.int .i64 r.2.2.2.2.2.2.2.2.2.2.1], .ptr [.int .i64 r.2.2.2.2.2.2.2.2.2.2.2.1, .int .i64 r.2.2.2.2.2.2.2.2.2.2.2.2.1, .rs (.ints .i64 r.2.2.2.2.2.2.2.2.2.2.2.2.2.1), .int .i64 r.2.2.2.2.2.2.2.2.2.2.2.2.2.2.1, .int .i64 r.2.2.2.2.2.2.2.2.2.2.2.2.2.2.2.1, .rs (.ints .i64 r.2.2.2.2.2.2.2.2.2.2.2.2.2.2.2.2)], .ptr [.fnv 80 [] [1, 2, 3, 4, 5, 6]]]⟩
  | _, _ => none
noncomputable def or_impl_Puzzle_solve_c1 (rc : (List Int) → Bool → Int → Int → (List Int) → Int → Int → (List Int) → (List (List Int)) → (List (List Int)) → (List Int) → Int → Int → Int → (List Int) → Int → Int → (List Int) → Option (Bool × Int × Int × List Int × Int × Int × List Int × List (List Int) × List (List Int) × List Int × Int × Int × Int × List Int × Int × Int × List Int)) : Ora := ⟨[.ext, .ref, .ref, .ref, .ref, .ref, .ref], 7, true, G_impl_Puzzle_solve_c1 rc⟩
theorem ng_impl_Puzzle_solve_c1 (rc : (List Int) → Bool → Int → Int → (List Int) → Int → Int → (List Int) → (List (List Int)) → (List (List Int)) → (List Int) → Int → Int → Int → (List Int) → Int → Int → (List Int) → Option (Bool × Int × Int × List Int × Int × Int × List Int × List (List Int) × List (List Int) × List Int × Int × Int × Int × List Int × Int × Int × List Int)) : Nat1 (or_impl_Puzzle_solve_c1 rc) := fun ρ ds K => by
  show G_impl_Puzzle_solve_c1 rc ds K = (G_impl_Puzzle_solve_c1 rc ds some).bind K
  unfold G_impl_Puzzle_solve_c1
  split
  · cases rc _ _ _ _ _ _ _ _ _ _ _ _ _ _ _ _ _ _ <;> rfl
  · rfl
def O_impl_Puzzle_solve_c1 (rc : (List Int) → Bool → Int → Int → (List Int) → Int → Int → (List Int) → (List (List Int)) → (List (List Int)) → (List Int) → Int → Int → Int → (List Int) → Int → Int → (List Int) → Option (Bool × Int × Int × List Int × Int × Int × List Int × List (List Int) × List (List Int) × List Int × Int × Int × Int × List Int × Int × Int × List Int)) : List (FuncId × Ora) := [(80, or_impl_Puzzle_solve_c1 rc), (81, o_slices_Clone_int_int), (82, o_slices_Contains_int_int)]
def E_impl_Puzzle_solve_c1 (rc : (List Int) → Bool → Int → Int → (List Int) → Int → Int → (List Int) → (List (List Int)) → (List (List Int)) → (List Int) → Int → Int → Int → (List Int) → Int → Int → (List Int) → Option (Bool × Int × Int × List Int × Int × Int × List Int × List (List Int) × List (List Int) × List Int × Int × Int × Int × List Int × Int × Int × List Int)) : Env := ⟨lk (O_impl_Puzzle_solve_c1 rc), fun s => [708].contains s⟩
noncomputable def D_impl_Puzzle_solve_c1_0 {ρ : Type} (g fuel : Nat) (rc : (List Int) → Bool → Int → Int → (List Int) → Int → Int → (List Int) → (List (List Int)) → (List (List Int)) → (List Int) → Int → Int → Int → (List Int) → Int → Int → (List Int) → Option (Bool × Int × Int × List Int × Int × Int × List Int × List (List Int) × List (List Int) × List Int × Int × Int × Int × List Int × Int × Int × List Int)) (p0 : List Int) (p1_0 : Bool) (p1_1 : Int) (p1_2 : Int) (p1_3 : List Int) (p1_4 : Int) (p1_5 : Int) (p1_6 : List Int) (p1_7 : List (List Int)) (p2 : List (List Int)) (p3 : List Int) (p4 : Int) (p5_0 : Int) (p5_1 : Int) (p5_2 : List Int) (p5_3 : Int) (p5_4 : Int) (p5_5 : List Int) (n : Nat) (v9 : Int) (v50 : List Int) (v51 : Int) (v52 : Int) (c127_0 : Bool) (c127_1 : Int) (c127_2 : Int) (c127_3 : List Int) (c127_4 : Int) (c127_5 : Int) (c127_6 : List Int) (c127_7 : List (List Int)) (c191_0 : List (List Int)) (c255_0 : List Int) (c319_0 : Int) (c383_0 : Int) (c383_1 : Int) (c383_2 : List Int) (c383_3 : Int) (c383_4 : Int) (c383_5 : List Int) (Kk : Out → Option ρ) : Option ρ :=
  iter (run TT (E_impl_Puzzle_solve_c1 rc) (kp_impl_Puzzle_solve_c1 g) fuel (cL (cB (cS2 (cS2 (cS2 (cS2 (cS2 (b_impl_Puzzle_solve_c1))))))))) (nrmAt (kp_impl_Puzzle_solve_c1 g) (firstRid (cL (cB (cS2 (cS2 (cS2 (cS2 (cS2 (b_impl_Puzzle_solve_c1)))))))))) n (⟨[.u (.x (.own 0 (.ints .i64 p0))), uu, .u (.x (.ptr 191 0)), uu, .u (.x (.ptr 319 0)), .u (.x (.ptr 383 0)), .u (.x (.ptr 447 0)), uu, uu, .u (.x (.int .i64 v9)), uu, uu, uu, uu, uu, uu, uu, uu, uu, uu, uu, uu, uu, uu, uu, uu, uu, uu, uu, uu, uu, uu, uu, uu, uu, uu, uu, uu, uu, uu, uu, uu, uu, uu, uu, uu, uu, uu, uu, uu, .u (.x (.ro (.ints .i64 v50))), .u (.x (.int .i64 v51)), .u (.x (.int .i64 v52)), uu, uu, uu, uu, uu, uu, uu, uu, uu, uu, uu, uu, uu, uu, uu, uu, uu, uu, uu, uu, uu, uu, uu, uu, uu, uu, uu, uu, uu, uu, uu, uu, uu, uu, uu, uu, uu, uu], [(127, [.rop c127_0 [.int .i64 c127_1, .int .i64 c127_2, .sl (.ints .i64 c127_3), .int .i64 c127_4, .int .i64 c127_5, .sl (.ints .i64 c127_6), .sl (.rows c127_7)] 0]), (191, [.own 33177216 (.orows c191_0)]), (255, [.own 33177217 (.ints .i64 c255_0)]), (319, [.int .i64 c319_0]), (383, [.int .i64 c383_0, .int .i64 c383_1, .ro (.ints .i64 c383_2), .int .i64 c383_3, .int .i64 c383_4, .ro (.ints .i64 c383_5)]), (447, [.fn 80 [] [127, 191, 255, 319, 383, 447]])], [(0, .ints .i64 p0)], []⟩) (blkK 0 (topK TT [.ext, .ref, .ref, .ref, .ref, .ref, .ref] true [] [] [.x (.sl (.ints .i64 p0)), .ptr [.rp p1_0 [.int .i64 p1_1, .int .i64 p1_2, .sl (.ints .i64 p1_3), .int .i64 p1_4, .int .i64 p1_5, .sl (.ints .i64 p1_6), .sl (.rows p1_7)]], .ptr [.sl (.orows p2)], .ptr [.sl (.ints .i64 p3)], .ptr [.int .i64 p4], .ptr [.int .i64 p5_0, .int .i64 p5_1, .rs (.ints .i64 p5_2), .int .i64 p5_3, .int .i64 p5_4, .rs (.ints .i64 p5_5)], .ptr [.fnv 80 [] [1, 2, 3, 4, 5, 6]]] Kk))
noncomputable def B_impl_Puzzle_solve_c1_1 {ρ : Type} (g fuel : Nat) (rc : (List Int) → Bool → Int → Int → (List Int) → Int → Int → (List Int) → (List (List Int)) → (List (List Int)) → (List Int) → Int → Int → Int → (List Int) → Int → Int → (List Int) → Option (Bool × Int × Int × List Int × Int × Int × List Int × List (List Int) × List (List Int) × List Int × Int × Int × Int × List Int × Int × Int × List Int)) (p0 : List Int) (p1_0 : Bool) (p1_1 : Int) (p1_2 : Int) (p1_3 : List Int) (p1_4 : Int) (p1_5 : Int) (p1_6 : List Int) (p1_7 : List (List Int)) (p2 : List (List Int)) (p3 : List Int) (p4 : Int) (p5_0 : Int) (p5_1 : Int) (p5_2 : List Int) (p5_3 : Int) (p5_4 : Int) (p5_5 : List Int) (v8 : List Int) (c127_0 : Bool) (c127_1 : Int) (c127_2 : Int) (c127_3 : List Int) (c127_4 : Int) (c127_5 : Int) (c127_6 : List Int) (c127_7 : List (List Int)) (c191_0 : List (List Int)) (c255_0 : List Int) (c319_0 : Int) (c383_0 : Int) (c383_1 : Int) (c383_2 : List Int) (c383_3 : Int) (c383_4 : Int) (c383_5 : List Int) (Kk : Out → Option ρ) : Option ρ :=
  run TT (E_impl_Puzzle_solve_c1 rc) (kp_impl_Puzzle_solve_c1 g) fuel (cS2 (cS2 (cS2 (b_impl_Puzzle_solve_c1)))) (⟨[.u (.x (.own 0 (.ints .i64 p0))), uu, .u (.x (.ptr 191 0)), .u (.x (.ptr 255 0)), .u (.x (.ptr 319 0)), .u (.x (.ptr 383 0)), .u (.x (.ptr 447 0)), uu, .u (.x (.ro (.ints .i64 v8))), uu, uu, uu, uu, uu, uu, uu, uu, uu, uu, uu, uu, uu, uu, uu, uu, uu, uu, uu, uu, uu, uu, uu, uu, uu, uu, uu, uu, uu, uu, uu, uu, uu, uu, uu, uu, uu, uu, uu, uu, uu, uu, uu, uu, uu, uu, uu, uu, uu, uu, uu, uu, uu, uu, uu, uu, uu, uu, uu, uu, uu, uu, uu, uu, uu, uu, uu, uu, uu, uu, uu, uu, uu, uu, uu, uu, uu, uu, uu, uu, uu, uu], [(127, [.rop c127_0 [.int .i64 c127_1, .int .i64 c127_2, .sl (.ints .i64 c127_3), .int .i64 c127_4, .int .i64 c127_5, .sl (.ints .i64 c127_6), .sl (.rows c127_7)] 0]), (191, [.own 128 (.orows c191_0)]), (255, [.own 192 (.ints .i64 c255_0)]), (319, [.int .i64 c319_0]), (383, [.int .i64 c383_0, .int .i64 c383_1, .ro (.ints .i64 c383_2), .int .i64 c383_3, .int .i64 c383_4, .ro (.ints .i64 c383_5)]), (447, [.fn 80 [] [127, 191, 255, 319, 383, 447]])], [(0, .ints .i64 p0)], []⟩) (topK TT [.ext, .ref, .ref, .ref, .ref, .ref, .ref] true [] [] [.x (.sl (.ints .i64 p0)), .ptr [.rp p1_0 [.int .i64 p1_1, .int .i64 p1_2, .sl (.ints .i64 p1_3), .int .i64 p1_4, .int .i64 p1_5, .sl (.ints .i64 p1_6), .sl (.rows p1_7)]], .ptr [.sl (.orows p2)], .ptr [.sl (.ints .i64 p3)], .ptr [.int .i64 p4], .ptr [.int .i64 p5_0, .int .i64 p5_1, .rs (.ints .i64 p5_2), .int .i64 p5_3, .int .i64 p5_4, .rs (.ints .i64 p5_5)], .ptr [.fnv 80 [] [1, 2, 3, 4, 5, 6]]] Kk)
noncomputable def D_impl_Puzzle_solve_c1_1 {ρ : Type} (g fuel : Nat) (rc : (List Int) → Bool → Int → Int → (List Int) → Int → Int → (List Int) → (List (List Int)) → (List (List Int)) → (List Int) → Int → Int → Int → (List Int) → Int → Int → (List Int) → Option (Bool × Int × Int × List Int × Int × Int × List Int × List (List Int) × List (List Int) × List Int × Int × Int × Int × List Int × Int × Int × List Int)) (p0 : List Int) (p1_0 : Bool) (p1_1 : Int) (p1_2 : Int) (p1_3 : List Int) (p1_4 : Int) (p1_5 : Int) (p1_6 : List Int) (p1_7 : List (List Int)) (p2 : List (List Int)) (p3 : List Int) (p4 : Int) (p5_0 : Int) (p5_1 : Int) (p5_2 : List Int) (p5_3 : Int) (p5_4 : Int) (p5_5 : List Int) (v8 : List Int) (c127_0 : Bool) (c127_1 : Int) (c127_2 : Int) (c127_3 : List Int) (c127_4 : Int) (c127_5 : Int) (c127_6 : List Int) (c127_7 : List (List Int)) (c191_0 : List (List Int)) (c255_0 : List Int) (c319_0 : Int) (c383_0 : Int) (c383_1 : Int) (c383_2 : List Int) (c383_3 : Int) (c383_4 : Int) (c383_5 : List Int) (Kk : Out → Option ρ) : Option ρ := gate g (B_impl_Puzzle_solve_c1_1 g fuel rc p0 p1_0 p1_1 p1_2 p1_3 p1_4 p1_5 p1_6 p1_7 p2 p3 p4 p5_0 p5_1 p5_2 p5_3 p5_4 p5_5  v8 c127_0 c127_1 c127_2 c127_3 c127_4 c127_5 c127_6 c127_7 c191_0 c255_0 c319_0 c383_0 c383_1 c383_2 c383_3 c383_4 c383_5 Kk)
noncomputable def B_impl_Puzzle_solve_c1_2 {ρ : Type} (g fuel : Nat) (rc : (List Int) → Bool → Int → Int → (List Int) → Int → Int → (List Int) → (List (List Int)) → (List (List Int)) → (List Int) → Int → Int → Int → (List Int) → Int → Int → (List Int) → Option (Bool × Int × Int × List Int × Int × Int × List Int × List (List Int) × List (List Int) × List Int × Int × Int × Int × List Int × Int × Int × List Int)) (p0 : List Int) (p1_0 : Bool) (p1_1 : Int) (p1_2 : Int) (p1_3 : List Int) (p1_4 : Int) (p1_5 : Int) (p1_6 : List Int) (p1_7 : List (List Int)) (p2 : List (List Int)) (p3 : List Int) (p4 : Int) (p5_0 : Int) (p5_1 : Int) (p5_2 : List Int) (p5_3 : Int) (p5_4 : Int) (p5_5 : List Int) (n0 : Nat) (v9 : Int) (v11 : Int) (v50 : List Int) (v51 : Int) (v52 : Int) (c127_0 : Bool) (c127_1 : Int) (c127_2 : Int) (c127_3 : List Int) (c127_4 : Int) (c127_5 : Int) (c127_6 : List Int) (c127_7 : List (List Int)) (c191_0 : List (List Int)) (c255_0 : List Int) (c319_0 : Int) (c383_0 : Int) (c383_1 : Int) (c383_2 : List Int) (c383_3 : Int) (c383_4 : Int) (c383_5 : List Int) (Kk : Out → Option ρ) : Option ρ :=
  run TT (E_impl_Puzzle_solve_c1 rc) (kp_impl_Puzzle_solve_c1 g) fuel (cS2 (cS2 (cS2 (cB (cS1 (cS2 (cS2 (cL (cB (cS2 (cS2 (cS2 (cS2 (cS2 (b_impl_Puzzle_solve_c1))))))))))))))) (⟨[.u (.x (.own 0 (.ints .i64 p0))), uu, .u (.x (.ptr 191 0)), uu, .u (.x (.ptr 319 0)), .u (.x (.ptr 383 0)), .u (.x (.ptr 447 0)), uu, uu, .u (.x (.int .i64 v9)), uu, .u (.x (.int .i64 v11)), uu, uu, uu, uu, uu, uu, uu, uu, uu, uu, uu, uu, uu, uu, uu, uu, uu, uu, uu, uu, uu, uu, uu, uu, uu, uu, uu, uu, uu, uu, uu, uu, uu, uu, uu, uu, uu, uu, .u (.x (.ro (.ints .i64 v50))), .u (.x (.int .i64 v51)), .u (.x (.int .i64 v52)), uu, uu, uu, uu, uu, uu, uu, uu, uu, uu, uu, uu, uu, uu, uu, uu, uu, uu, uu, uu, uu, uu, uu, uu, uu, uu, uu, uu, uu, uu, uu, uu, uu, uu, uu, uu, uu, uu], [(127, [.rop c127_0 [.int .i64 c127_1, .int .i64 c127_2, .sl (.ints .i64 c127_3), .int .i64 c127_4, .int .i64 c127_5, .sl (.ints .i64 c127_6), .sl (.rows c127_7)] 0]), (191, [.own 33177216 (.orows c191_0)]), (255, [.own 33177217 (.ints .i64 c255_0)]), (319, [.int .i64 c319_0]), (383, [.int .i64 c383_0, .int .i64 c383_1, .ro (.ints .i64 c383_2), .int .i64 c383_3, .int .i64 c383_4, .ro (.ints .i64 c383_5)]), (447, [.fn 80 [] [127, 191, 255, 319, 383, 447]])], [(0, .ints .i64 p0)], []⟩) (blkK 1 (seqK (gateAt (kp_impl_Puzzle_solve_c1 g) (200000 + firstRid (cS2 (cS2 (cS2 (cL (cB (cS2 (cS2 (cS2 (cS2 (cS2 (b_impl_Puzzle_solve_c1))))))))))))) (run TT (E_impl_Puzzle_solve_c1 rc) (kp_impl_Puzzle_solve_c1 g) fuel (cS2 (cS2 (cS2 (cL (cB (cS2 (cS2 (cS2 (cS2 (cS2 (b_impl_Puzzle_solve_c1)))))))))))) (nrmAt (kp_impl_Puzzle_solve_c1 g) (200000 + firstRid (cS2 (cS2 (cS2 (cL (cB (cS2 (cS2 (cS2 (cS2 (cS2 (b_impl_Puzzle_solve_c1))))))))))))) (itK (run TT (E_impl_Puzzle_solve_c1 rc) (kp_impl_Puzzle_solve_c1 g) fuel (cL (cB (cS2 (cS2 (cS2 (cS2 (cS2 (b_impl_Puzzle_solve_c1))))))))) (nrmAt (kp_impl_Puzzle_solve_c1 g) (firstRid (cL (cB (cS2 (cS2 (cS2 (cS2 (cS2 (b_impl_Puzzle_solve_c1)))))))))) n0 (blkK 0 (topK TT [.ext, .ref, .ref, .ref, .ref, .ref, .ref] true [] [] [.x (.sl (.ints .i64 p0)), .ptr [.rp p1_0 [.int .i64 p1_1, .int .i64 p1_2, .sl (.ints .i64 p1_3), .int .i64 p1_4, .int .i64 p1_5, .sl (.ints .i64 p1_6), .sl (.rows p1_7)]], .ptr [.sl (.orows p2)], .ptr [.sl (.ints .i64 p3)], .ptr [.int .i64 p4], .ptr [.int .i64 p5_0, .int .i64 p5_1, .rs (.ints .i64 p5_2), .int .i64 p5_3, .int .i64 p5_4, .rs (.ints .i64 p5_5)], .ptr [.fnv 80 [] [1, 2, 3, 4, 5, 6]]] Kk)))))
noncomputable def D_impl_Puzzle_solve_c1_2 {ρ : Type} (g fuel : Nat) (rc : (List Int) → Bool → Int → Int → (List Int) → Int → Int → (List Int) → (List (List Int)) → (List (List Int)) → (List Int) → Int → Int → Int → (List Int) → Int → Int → (List Int) → Option (Bool × Int × Int × List Int × Int × Int × List Int × List (List Int) × List (List Int) × List Int × Int × Int × Int × List Int × Int × Int × List Int)) (p0 : List Int) (p1_0 : Bool) (p1_1 : Int) (p1_2 : Int) (p1_3 : List Int) (p1_4 : Int) (p1_5 : Int) (p1_6 : List Int) (p1_7 : List (List Int)) (p2 : List (List Int)) (p3 : List Int) (p4 : Int) (p5_0 : Int) (p5_1 : Int) (p5_2 : List Int) (p5_3 : Int) (p5_4 : Int) (p5_5 : List Int) (n0 : Nat) (v9 : Int) (v11 : Int) (v50 : List Int) (v51 : Int) (v52 : Int) (c127_0 : Bool) (c127_1 : Int) (c127_2 : Int) (c127_3 : List Int) (c127_4 : Int) (c127_5 : Int) (c127_6 : List Int) (c127_7 : List (List Int)) (c191_0 : List (List Int)) (c255_0 : List Int) (c319_0 : Int) (c383_0 : Int) (c383_1 : Int) (c383_2 : List Int) (c383_3 : Int) (c383_4 : Int) (c383_5 : List Int) (Kk : Out → Option ρ) : Option ρ := gate g (B_impl_Puzzle_solve_c1_2 g fuel rc p0 p1_0 p1_1 p1_2 p1_3 p1_4 p1_5 p1_6 p1_7 p2 p3 p4 p5_0 p5_1 p5_2 p5_3 p5_4 p5_5 n0 v9 v11 v50 v51 v52 c127_0 c127_1 c127_2 c127_3 c127_4 c127_5 c127_6 c127_7 c191_0 c255_0 c319_0 c383_0 c383_1 c383_2 c383_3 c383_4 c383_5 Kk)
def S_impl_Puzzle_solve_c1_e {ρ : Type} (rc : (List Int) → Bool → Int → Int → (List Int) → Int → Int → (List Int) → (List (List Int)) → (List (List Int)) → (List Int) → Int → Int → Int → (List Int) → Int → Int → (List Int) → Option (Bool × Int × Int × List Int × Int × Int × List Int × List (List Int) × List (List Int) × List Int × Int × Int × Int × List Int × Int × Int × List Int)) (p0 : List Int) (p1_0 : Bool) (p1_1 : Int) (p1_2 : Int) (p1_3 : List Int) (p1_4 : Int) (p1_5 : Int) (p1_6 : List Int) (p1_7 : List (List Int)) (p2 : List (List Int)) (p3 : List Int) (p4 : Int) (p5_0 : Int) (p5_1 : Int) (p5_2 : List Int) (p5_3 : Int) (p5_4 : Int) (p5_5 : List Int)  (k1 : (List Int → Bool → Int → Int → List Int → Int → Int → List Int → List (List Int) → List (List Int) → List Int → Int → Int → Int → List Int → Int → Int → List Int → Option ρ)) (K : Bool → Int → Int → List Int → Int → Int → List Int → List (List Int) → List (List Int) → List Int → Int → Int → Int → List Int → Int → Int → List Int → Option ρ) : Option ρ :=
  (bif p1_0 then (bif decide ((p0.length : Int) = (p1_6.length : Int)) then ((sh_slices_Clone_int_int p0).bind fun r1 => (if (p2 ++ [r1]).length ≤ 1099511627776 then (bif ((decide (p0 = p0) && true) && true) then K p1_0 p1_1 p1_2 p1_3 p1_4 p1_5 p1_6 p1_7 (p2 ++ [r1]) p3 p4 p5_0 p5_1 p5_2 p5_3 p5_4 p5_5 else none) else none)) else (bif p1_0 then (bif decide ((p0.length : Int) > (0 : Int)) then (bif p1_0 then (if 0 ≤ (IntKind.i64.wrap ((p0.length : Int) - (1 : Int))) then (if (IntKind.i64.wrap ((p0.length : Int) - (1 : Int))) < (p0.length : Int) then (if 0 ≤ (p0.getD ((IntKind.i64.wrap ((p0.length : Int) - (1 : Int))).toNat) 0) then (if (p0.getD ((IntKind.i64.wrap ((p0.length : Int) - (1 : Int))).toNat) 0) < (p1_7.length : Int) then k1 (p1_7.getD ((p0.getD ((IntKind.i64.wrap ((p0.length : Int) - (1 : Int))).toNat) 0).toNat) []) p1_0 p1_1 p1_2 p1_3 p1_4 p1_5 p1_6 p1_7 p2 p3 p4 p5_0 p5_1 p5_2 p5_3 p5_4 p5_5 else none) else none) else none) else none) else none) else k1 p1_6 p1_0 p1_1 p1_2 p1_3 p1_4 p1_5 p1_6 p1_7 p2 p3 p4 p5_0 p5_1 p5_2 p5_3 p5_4 p5_5) else none)) else none)
theorem s_impl_Puzzle_solve_c1_e {ρ : Type} (g fuel : Nat) (rc : (List Int) → Bool → Int → Int → (List Int) → Int → Int → (List Int) → (List (List Int)) → (List (List Int)) → (List Int) → Int → Int → Int → (List Int) → Int → Int → (List Int) → Option (Bool × Int × Int × List Int × Int × Int × List Int × List (List Int) × List (List Int) × List Int × Int × Int × Int × List Int × Int × Int × List Int)) (p0 : List Int) (p1_0 : Bool) (p1_1 : Int) (p1_2 : Int) (p1_3 : List Int) (p1_4 : Int) (p1_5 : Int) (p1_6 : List Int) (p1_7 : List (List Int)) (p2 : List (List Int)) (p3 : List Int) (p4 : Int) (p5_0 : Int) (p5_1 : Int) (p5_2 : List Int) (p5_3 : Int) (p5_4 : Int) (p5_5 : List Int) (Kk : Out → Option ρ) : runFn TT (E_impl_Puzzle_solve_c1 rc) (kp_impl_Puzzle_solve_c1 g) fuel [.ext, .ref, .ref, .ref, .ref, .ref, .ref] 7 true [] 91 [] b_impl_Puzzle_solve_c1 [.x (.sl (.ints .i64 p0)), .ptr [.rp p1_0 [.int .i64 p1_1, .int .i64 p1_2, .sl (.ints .i64 p1_3), .int .i64 p1_4, .int .i64 p1_5, .sl (.ints .i64 p1_6), .sl (.rows p1_7)]], .ptr [.sl (.orows p2)], .ptr [.sl (.ints .i64 p3)], .ptr [.int .i64 p4], .ptr [.int .i64 p5_0, .int .i64 p5_1, .rs (.ints .i64 p5_2), .int .i64 p5_3, .int .i64 p5_4, .rs (.ints .i64 p5_5)], .ptr [.fnv 80 [] [1, 2, 3, 4, 5, 6]]] Kk = S_impl_Puzzle_solve_c1_e rc p0 p1_0 p1_1 p1_2 p1_3 p1_4 p1_5 p1_6 p1_7 p2 p3 p4 p5_0 p5_1 p5_2 p5_3 p5_4 p5_5  (fun v8 c127_0 c127_1 c127_2 c127_3 c127_4 c127_5 c127_6 c127_7 c191_0 c255_0 c319_0 c383_0 c383_1 c383_2 c383_3 c383_4 c383_5 => D_impl_Puzzle_solve_c1_1 g fuel rc p0 p1_0 p1_1 p1_2 p1_3 p1_4 p1_5 p1_6 p1_7 p2 p3 p4 p5_0 p5_1 p5_2 p5_3 p5_4 p5_5  v8 c127_0 c127_1 c127_2 c127_3 c127_4 c127_5 c127_6 c127_7 c191_0 c255_0 c319_0 c383_0 c383_1 c383_2 c383_3 c383_4 c383_5 Kk) (fun r1 r2 r3 r4 r5 r6 r7 r8 r9 r10 r11 r12 r13 r14 r15 r16 r17 => Kk ⟨[], [.ptr [.rp r1 [.int .i64 r2, .int .i64 r3, .sl (.ints .i64 r4), .int .i64 r5, .int .i64 r6, .sl (.ints .i64 r7), .sl (.rows r8)]], .ptr [.sl (.orows r9)], .ptr [.sl (.ints .i64 r10)], .ptr [.int .i64 r11], .ptr [.int .i64 r12, .int .i64 r13, .rs (.ints .i64 r14), .int .i64 r15, .int .i64 r16, .rs (.ints .i64 r17)], .ptr [.fnv 80 [] [1, 2, 3, 4, 5, 6]]]⟩) := by
  kernel_rfl
def S_impl_Puzzle_solve_c1_0 {ρ : Type} (p0 : List Int) (v9 : Int) (v50 : List Int) (v51 : Int) (v52 : Int) (c127_0 : Bool) (c127_1 : Int) (c127_2 : Int) (c127_3 : List Int) (c127_4 : Int) (c127_5 : Int) (c127_6 : List Int) (c127_7 : List (List Int)) (c191_0 : List (List Int)) (c255_0 : List Int) (c319_0 : Int) (c383_0 : Int) (c383_1 : Int) (c383_2 : List Int) (c383_3 : Int) (c383_4 : Int) (c383_5 : List Int) (b0 : (Int → List Int → Int → Int → Bool → Int → Int → List Int → Int → Int → List Int → List (List Int) → List (List Int) → List Int → Int → Int → Int → List Int → Int → Int → List Int → Option ρ)) (k2 : (Int → Int → List Int → Int → Int → Bool → Int → Int → List Int → Int → Int → List Int → List (List Int) → List (List Int) → List Int → Int → Int → Int → List Int → Int → Int → List Int → Option ρ)) (K : Bool → Int → Int → List Int → Int → Int → List Int → List (List Int) → List (List Int) → List Int → Int → Int → Int → List Int → Int → Int → List Int → Option ρ) : Option ρ :=
  (bif decide (v52 < v51) then (if 0 ≤ v52 then (if v52 < (v50.length : Int) then (bif decide ((c191_0.length : Int) > c319_0) then (bif ((decide (p0 = p0) && true) && true) then K c127_0 c127_1 c127_2 c127_3 c127_4 c127_5 c127_6 c127_7 c191_0 c255_0 c319_0 c383_0 c383_1 c383_2 c383_3 c383_4 c383_5 else none) else ((sh_slices_Contains_int_int p0 (v50.getD v52.toNat 0)).bind fun r1 => (bif r1 then b0 v9 v50 v51 (IntKind.i64.wrap (v52 + (1 : Int))) c127_0 c127_1 c127_2 c127_3 c127_4 c127_5 c127_6 c127_7 c191_0 c255_0 c319_0 c383_0 c383_1 c383_2 c383_3 c383_4 c383_5 else (bif decide (v9 ≥ (0 : Int)) then (bif !decide ((v50.getD v52.toNat 0) = v9) then b0 v9 v50 v51 (IntKind.i64.wrap (v52 + (1 : Int))) c127_0 c127_1 c127_2 c127_3 c127_4 c127_5 c127_6 c127_7 c191_0 c255_0 c319_0 c383_0 c383_1 c383_2 c383_3 c383_4 c383_5 else (bif decide (v9 < (0 : Int)) then (if 0 ≤ (v50.getD v52.toNat 0) then (if (v50.getD v52.toNat 0) < (c383_5.length : Int) then (bif !decide ((c383_5.getD ((v50.getD v52.toNat 0).toNat) 0) = (0 : Int)) then b0 v9 v50 v51 (IntKind.i64.wrap (v52 + (1 : Int))) c127_0 c127_1 c127_2 c127_3 c127_4 c127_5 c127_6 c127_7 c191_0 c255_0 c319_0 c383_0 c383_1 c383_2 c383_3 c383_4 c383_5 else k2 v9 (v50.getD v52.toNat 0) v50 v51 v52 c127_0 c127_1 c127_2 c127_3 c127_4 c127_5 c127_6 c127_7 c191_0 c255_0 c319_0 c383_0 c383_1 c383_2 c383_3 c383_4 c383_5) else none) else none) else k2 v9 (v50.getD v52.toNat 0) v50 v51 v52 c127_0 c127_1 c127_2 c127_3 c127_4 c127_5 c127_6 c127_7 c191_0 c255_0 c319_0 c383_0 c383_1 c383_2 c383_3 c383_4 c383_5)) else (bif decide (v9 < (0 : Int)) then (if 0 ≤ (v50.getD v52.toNat 0) then (if (v50.getD v52.toNat 0) < (c383_5.length : Int) then (bif !decide ((c383_5.getD ((v50.getD v52.toNat 0).toNat) 0) = (0 : Int)) then b0 v9 v50 v51 (IntKind.i64.wrap (v52 + (1 : Int))) c127_0 c127_1 c127_2 c127_3 c127_4 c127_5 c127_6 c127_7 c191_0 c255_0 c319_0 c383_0 c383_1 c383_2 c383_3 c383_4 c383_5 else k2 v9 (v50.getD v52.toNat 0) v50 v51 v52 c127_0 c127_1 c127_2 c127_3 c127_4 c127_5 c127_6 c127_7 c191_0 c255_0 c319_0 c383_0 c383_1 c383_2 c383_3 c383_4 c383_5) else none) else none) else k2 v9 (v50.getD v52.toNat 0) v50 v51 v52 c127_0 c127_1 c127_2 c127_3 c127_4 c127_5 c127_6 c127_7 c191_0 c255_0 c319_0 c383_0 c383_1 c383_2 c383_3 c383_4 c383_5))))) else none) else none) else (bif ((decide (p0 = p0) && true) && true) then K c127_0 c127_1 c127_2 c127_3 c127_4 c127_5 c127_6 c127_7 c191_0 c255_0 c319_0 c383_0 c383_1 c383_2 c383_3 c383_4 c383_5 else none))
theorem s_impl_Puzzle_solve_c1_0 {ρ : Type} (g fuel : Nat) (rc : (List Int) → Bool → Int → Int → (List Int) → Int → Int → (List Int) → (List (List Int)) → (List (List Int)) → (List Int) → Int → Int → Int → (List Int) → Int → Int → (List Int) → Option (Bool × Int × Int × List Int × Int × Int × List Int × List (List Int) × List (List Int) × List Int × Int × Int × Int × List Int × Int × Int × List Int)) (p0 : List Int) (p1_0 : Bool) (p1_1 : Int) (p1_2 : Int) (p1_3 : List Int) (p1_4 : Int) (p1_5 : Int) (p1_6 : List Int) (p1_7 : List (List Int)) (p2 : List (List Int)) (p3 : List Int) (p4 : Int) (p5_0 : Int) (p5_1 : Int) (p5_2 : List Int) (p5_3 : Int) (p5_4 : Int) (p5_5 : List Int) (n : Nat) (v9 : Int) (v50 : List Int) (v51 : Int) (v52 : Int) (c127_0 : Bool) (c127_1 : Int) (c127_2 : Int) (c127_3 : List Int) (c127_4 : Int) (c127_5 : Int) (c127_6 : List Int) (c127_7 : List (List Int)) (c191_0 : List (List Int)) (c255_0 : List Int) (c319_0 : Int) (c383_0 : Int) (c383_1 : Int) (c383_2 : List Int) (c383_3 : Int) (c383_4 : Int) (c383_5 : List Int) (Kk : Out → Option ρ) : D_impl_Puzzle_solve_c1_0 g fuel rc p0 p1_0 p1_1 p1_2 p1_3 p1_4 p1_5 p1_6 p1_7 p2 p3 p4 p5_0 p5_1 p5_2 p5_3 p5_4 p5_5  (n + 1) v9 v50 v51 v52 c127_0 c127_1 c127_2 c127_3 c127_4 c127_5 c127_6 c127_7 c191_0 c255_0 c319_0 c383_0 c383_1 c383_2 c383_3 c383_4 c383_5 Kk = S_impl_Puzzle_solve_c1_0 p0 v9 v50 v51 v52 c127_0 c127_1 c127_2 c127_3 c127_4 c127_5 c127_6 c127_7 c191_0 c255_0 c319_0 c383_0 c383_1 c383_2 c383_3 c383_4 c383_5 (fun v9 v50 v51 v52 c127_0 c127_1 c127_2 c127_3 c127_4 c127_5 c127_6 c127_7 c191_0 c255_0 c319_0 c383_0 c383_1 c383_2 c383_3 c383_4 c383_5 => D_impl_Puzzle_solve_c1_0 g fuel rc p0 p1_0 p1_1 p1_2 p1_3 p1_4 p1_5 p1_6 p1_7 p2 p3 p4 p5_0 p5_1 p5_2 p5_3 p5_4 p5_5 n v9 v50 v51 v52 c127_0 c127_1 c127_2 c127_3 c127_4 c127_5 c127_6 c127_7 c191_0 c255_0 c319_0 c383_0 c383_1 c383_2 c383_3 c383_4 c383_5 Kk) (fun v9 v11 v50 v51 v52 c127_0 c127_1 c127_2 c127_3 c127_4 c127_5 c127_6 c127_7 c191_0 c255_0 c319_0 c383_0 c383_1 c383_2 c383_3 c383_4 c383_5 => D_impl_Puzzle_solve_c1_2 g fuel rc p0 p1_0 p1_1 p1_2 p1_3 p1_4 p1_5 p1_6 p1_7 p2 p3 p4 p5_0 p5_1 p5_2 p5_3 p5_4 p5_5 n v9 v11 v50 v51 v52 c127_0 c127_1 c127_2 c127_3 c127_4 c127_5 c127_6 c127_7 c191_0 c255_0 c319_0 c383_0 c383_1 c383_2 c383_3 c383_4 c383_5 Kk) (fun r1 r2 r3 r4 r5 r6 r7 r8 r9 r10 r11 r12 r13 r14 r15 r16 r17 => Kk ⟨[], [.ptr [.rp r1 [.int .i64 r2, .int .i64 r3, .sl (.ints .i64 r4), .int .i64 r5, .int .i64 r6, .sl (.ints .i64 r7), .sl (.rows r8)]], .ptr [.sl (.orows r9)], .ptr [.sl (.ints .i64 r10)], .ptr [.int .i64 r11], .ptr [.int .i64 r12, .int .i64 r13, .rs (.ints .i64 r14), .int .i64 r15, .int .i64 r16, .rs (.ints .i64 r17)], .ptr [.fnv 80 [] [1, 2, 3, 4, 5, 6]]]⟩) := by
  kernel_rfl
def S_impl_Puzzle_solve_c1_1 {ρ : Type} (p0 : List Int) (v8 : List Int) (c127_0 : Bool) (c127_1 : Int) (c127_2 : Int) (c127_3 : List Int) (c127_4 : Int) (c127_5 : Int) (c127_6 : List Int) (c127_7 : List (List Int)) (c191_0 : List (List Int)) (c255_0 : List Int) (c319_0 : Int) (c383_0 : Int) (c383_1 : Int) (c383_2 : List Int) (c383_3 : Int) (c383_4 : Int) (c383_5 : List Int) (k0 : (Int → List Int → Int → Int → Bool → Int → Int → List Int → Int → Int → List Int → List (List Int) → List (List Int) → List Int → Int → Int → Int → List Int → Int → Int → List Int → Option ρ)) : Option ρ :=
  (if 0 ≤ (IntKind.i64.wrap ((p0.length : Int) + (1 : Int))) then (if (IntKind.i64.wrap ((p0.length : Int) + (1 : Int))) < (c255_0.length : Int) then k0 (c255_0.getD ((IntKind.i64.wrap ((p0.length : Int) + (1 : Int))).toNat) 0) v8 (v8.length : Int) (0 : Int) c127_0 c127_1 c127_2 c127_3 c127_4 c127_5 c127_6 c127_7 c191_0 c255_0 c319_0 c383_0 c383_1 c383_2 c383_3 c383_4 c383_5 else none) else none)
theorem s_impl_Puzzle_solve_c1_1 {ρ : Type} (g fuel : Nat) (rc : (List Int) → Bool → Int → Int → (List Int) → Int → Int → (List Int) → (List (List Int)) → (List (List Int)) → (List Int) → Int → Int → Int → (List Int) → Int → Int → (List Int) → Option (Bool × Int × Int × List Int × Int × Int × List Int × List (List Int) × List (List Int) × List Int × Int × Int × Int × List Int × Int × Int × List Int)) (p0 : List Int) (p1_0 : Bool) (p1_1 : Int) (p1_2 : Int) (p1_3 : List Int) (p1_4 : Int) (p1_5 : Int) (p1_6 : List Int) (p1_7 : List (List Int)) (p2 : List (List Int)) (p3 : List Int) (p4 : Int) (p5_0 : Int) (p5_1 : Int) (p5_2 : List Int) (p5_3 : Int) (p5_4 : Int) (p5_5 : List Int) (v8 : List Int) (c127_0 : Bool) (c127_1 : Int) (c127_2 : Int) (c127_3 : List Int) (c127_4 : Int) (c127_5 : Int) (c127_6 : List Int) (c127_7 : List (List Int)) (c191_0 : List (List Int)) (c255_0 : List Int) (c319_0 : Int) (c383_0 : Int) (c383_1 : Int) (c383_2 : List Int) (c383_3 : Int) (c383_4 : Int) (c383_5 : List Int) (Kk : Out → Option ρ) : B_impl_Puzzle_solve_c1_1 g fuel rc p0 p1_0 p1_1 p1_2 p1_3 p1_4 p1_5 p1_6 p1_7 p2 p3 p4 p5_0 p5_1 p5_2 p5_3 p5_4 p5_5  v8 c127_0 c127_1 c127_2 c127_3 c127_4 c127_5 c127_6 c127_7 c191_0 c255_0 c319_0 c383_0 c383_1 c383_2 c383_3 c383_4 c383_5 Kk = S_impl_Puzzle_solve_c1_1 p0 v8 c127_0 c127_1 c127_2 c127_3 c127_4 c127_5 c127_6 c127_7 c191_0 c255_0 c319_0 c383_0 c383_1 c383_2 c383_3 c383_4 c383_5 (fun v9 v50 v51 v52 c127_0 c127_1 c127_2 c127_3 c127_4 c127_5 c127_6 c127_7 c191_0 c255_0 c319_0 c383_0 c383_1 c383_2 c383_3 c383_4 c383_5 => D_impl_Puzzle_solve_c1_0 g fuel rc p0 p1_0 p1_1 p1_2 p1_3 p1_4 p1_5 p1_6 p1_7 p2 p3 p4 p5_0 p5_1 p5_2 p5_3 p5_4 p5_5 fuel v9 v50 v51 v52 c127_0 c127_1 c127_2 c127_3 c127_4 c127_5 c127_6 c127_7 c191_0 c255_0 c319_0 c383_0 c383_1 c383_2 c383_3 c383_4 c383_5 Kk) := by
  kernel_rfl
def S_impl_Puzzle_solve_c1_2 {ρ : Type} (rc : (List Int) → Bool → Int → Int → (List Int) → Int → Int → (List Int) → (List (List Int)) → (List (List Int)) → (List Int) → Int → Int → Int → (List Int) → Int → Int → (List Int) → Option (Bool × Int × Int × List Int × Int × Int × List Int × List (List Int) × List (List Int) × List Int × Int × Int × Int × List Int × Int × Int × List Int)) (p0 : List Int) (v9 : Int) (v11 : Int) (v50 : List Int) (v51 : Int) (v52 : Int) (c127_0 : Bool) (c127_1 : Int) (c127_2 : Int) (c127_3 : List Int) (c127_4 : Int) (c127_5 : Int) (c127_6 : List Int) (c127_7 : List (List Int)) (c191_0 : List (List Int)) (c255_0 : List Int) (c319_0 : Int) (c383_0 : Int) (c383_1 : Int) (c383_2 : List Int) (c383_3 : Int) (c383_4 : Int) (c383_5 : List Int) (b0 : (Int → List Int → Int → Int → Bool → Int → Int → List Int → Int → Int → List Int → List (List Int) → List (List Int) → List Int → Int → Int → Int → List Int → Int → Int → List Int → Option ρ)) : Option ρ :=
  (if (p0 ++ [v11]).length ≤ 1099511627776 then ((rc (p0 ++ [v11]) c127_0 c127_1 c127_2 c127_3 c127_4 c127_5 c127_6 c127_7 c191_0 c255_0 c319_0 c383_0 c383_1 c383_2 c383_3 c383_4 c383_5).bind fun r1 => b0 v9 v50 v51 (IntKind.i64.wrap (v52 + (1 : Int))) r1.1 r1.2.1 r1.2.2.1 r1.2.2.2.1 r1.2.2.2.2.1 r1.2.2.2.2.2.1 r1.2.2.2.2.2.2.1 r1.2.2.2.2.2.2.2.1 r1.2.2.2.2.2.2.2.2.1 r1.2.2.2.2.2.2.2.2.2.1 r1.2.2.2.2.2.2.2.2.2.2.1 r1.2.2.2.2.2.2.2.2.2.2.2.1 r1.2.2.2.2.2.2.2.2.2.2.2.2.1 r1.2.2.2.2.2.2.2.2.2.2.2.2.2.1 r1.2.2.2.2.2.2.2.2.2.2.2.2.2.2.1 r1.2.2.2.2.2.2.2.2.2.2.2.2.2.2.2.1 r1.2.2.2.2.2.2.2.2.2.2.2.2.2.2.2.2) else none)
theorem s_impl_Puzzle_solve_c1_2 {ρ : Type} (g fuel : Nat) (rc : (List Int) → Bool → Int → Int → (List Int) → Int → Int → (List Int) → (List (List Int)) → (List (List Int)) → (List Int) → Int → Int → Int → (List Int) → Int → Int → (List Int) → Option (Bool × Int × Int × List Int × Int × Int × List Int × List (List Int) × List (List Int) × List Int × Int × Int × Int × List Int × Int × Int × List Int)) (p0 : List Int) (p1_0 : Bool) (p1_1 : Int) (p1_2 : Int) (p1_3 : List Int) (p1_4 : Int) (p1_5 : Int) (p1_6 : List Int) (p1_7 : List (List Int)) (p2 : List (List Int)) (p3 : List Int) (p4 : Int) (p5_0 : Int) (p5_1 : Int) (p5_2 : List Int) (p5_3 : Int) (p5_4 : Int) (p5_5 : List Int) (n0 : Nat) (v9 : Int) (v11 : Int) (v50 : List Int) (v51 : Int) (v52 : Int) (c127_0 : Bool) (c127_1 : Int) (c127_2 : Int) (c127_3 : List Int) (c127_4 : Int) (c127_5 : Int) (c127_6 : List Int) (c127_7 : List (List Int)) (c191_0 : List (List Int)) (c255_0 : List Int) (c319_0 : Int) (c383_0 : Int) (c383_1 : Int) (c383_2 : List Int) (c383_3 : Int) (c383_4 : Int) (c383_5 : List Int) (Kk : Out → Option ρ) : B_impl_Puzzle_solve_c1_2 g fuel rc p0 p1_0 p1_1 p1_2 p1_3 p1_4 p1_5 p1_6 p1_7 p2 p3 p4 p5_0 p5_1 p5_2 p5_3 p5_4 p5_5 n0 v9 v11 v50 v51 v52 c127_0 c127_1 c127_2 c127_3 c127_4 c127_5 c127_6 c127_7 c191_0 c255_0 c319_0 c383_0 c383_1 c383_2 c383_3 c383_4 c383_5 Kk = S_impl_Puzzle_solve_c1_2 rc p0 v9 v11 v50 v51 v52 c127_0 c127_1 c127_2 c127_3 c127_4 c127_5 c127_6 c127_7 c191_0 c255_0 c319_0 c383_0 c383_1 c383_2 c383_3 c383_4 c383_5 (fun v9 v50 v51 v52 c127_0 c127_1 c127_2 c127_3 c127_4 c127_5 c127_6 c127_7 c191_0 c255_0 c319_0 c383_0 c383_1 c383_2 c383_3 c383_4 c383_5 => D_impl_Puzzle_solve_c1_0 g fuel rc p0 p1_0 p1_1 p1_2 p1_3 p1_4 p1_5 p1_6 p1_7 p2 p3 p4 p5_0 p5_1 p5_2 p5_3 p5_4 p5_5 n0 v9 v50 v51 v52 c127_0 c127_1 c127_2 c127_3 c127_4 c127_5 c127_6 c127_7 c191_0 c255_0 c319_0 c383_0 c383_1 c383_2 c383_3 c383_4 c383_5 Kk) := by
  kernel_rfl
def F_impl_Puzzle_solve_c1_2 {ρ : Type} (fuel : Nat) (rc : (List Int) → Bool → Int → Int → (List Int) → Int → Int → (List Int) → (List (List Int)) → (List (List Int)) → (List Int) → Int → Int → Int → (List Int) → Int → Int → (List Int) → Option (Bool × Int × Int × List Int × Int × Int × List Int × List (List Int) × List (List Int) × List Int × Int × Int × Int × List Int × Int × Int × List Int)) (p0 : List Int) (b0 : (Int → List Int → Int → Int → Bool → Int → Int → List Int → Int → Int → List Int → List (List Int) → List (List Int) → List Int → Int → Int → Int → List Int → Int → Int → List Int → Option ρ)) (K : Bool → Int → Int → List Int → Int → Int → List Int → List (List Int) → List (List Int) → List Int → Int → Int → Int → List Int → Int → Int → List Int → Option ρ) (v9 : Int) (v11 : Int) (v50 : List Int) (v51 : Int) (v52 : Int) (c127_0 : Bool) (c127_1 : Int) (c127_2 : Int) (c127_3 : List Int) (c127_4 : Int) (c127_5 : Int) (c127_6 : List Int) (c127_7 : List (List Int)) (c191_0 : List (List Int)) (c255_0 : List Int) (c319_0 : Int) (c383_0 : Int) (c383_1 : Int) (c383_2 : List Int) (c383_3 : Int) (c383_4 : Int) (c383_5 : List Int) : Option ρ := S_impl_Puzzle_solve_c1_2 rc p0 v9 v11 v50 v51 v52 c127_0 c127_1 c127_2 c127_3 c127_4 c127_5 c127_6 c127_7 c191_0 c255_0 c319_0 c383_0 c383_1 c383_2 c383_3 c383_4 c383_5 b0
theorem f_impl_Puzzle_solve_c1_2 {ρ : Type} (fuel : Nat) (rc : (List Int) → Bool → Int → Int → (List Int) → Int → Int → (List Int) → (List (List Int)) → (List (List Int)) → (List Int) → Int → Int → Int → (List Int) → Int → Int → (List Int) → Option (Bool × Int × Int × List Int × Int × Int × List Int × List (List Int) × List (List Int) × List Int × Int × Int × Int × List Int × Int × Int × List Int)) (p0 : List Int) (p1_0 : Bool) (p1_1 : Int) (p1_2 : Int) (p1_3 : List Int) (p1_4 : Int) (p1_5 : Int) (p1_6 : List Int) (p1_7 : List (List Int)) (p2 : List (List Int)) (p3 : List Int) (p4 : Int) (p5_0 : Int) (p5_1 : Int) (p5_2 : List Int) (p5_3 : Int) (p5_4 : Int) (p5_5 : List Int) (n0 : Nat) (v9 : Int) (v11 : Int) (v50 : List Int) (v51 : Int) (v52 : Int) (c127_0 : Bool) (c127_1 : Int) (c127_2 : Int) (c127_3 : List Int) (c127_4 : Int) (c127_5 : Int) (c127_6 : List Int) (c127_7 : List (List Int)) (c191_0 : List (List Int)) (c255_0 : List Int) (c319_0 : Int) (c383_0 : Int) (c383_1 : Int) (c383_2 : List Int) (c383_3 : Int) (c383_4 : Int) (c383_5 : List Int) (Kk : Out → Option ρ) : D_impl_Puzzle_solve_c1_2 1 fuel rc p0 p1_0 p1_1 p1_2 p1_3 p1_4 p1_5 p1_6 p1_7 p2 p3 p4 p5_0 p5_1 p5_2 p5_3 p5_4 p5_5 n0 v9 v11 v50 v51 v52 c127_0 c127_1 c127_2 c127_3 c127_4 c127_5 c127_6 c127_7 c191_0 c255_0 c319_0 c383_0 c383_1 c383_2 c383_3 c383_4 c383_5 Kk = F_impl_Puzzle_solve_c1_2 fuel rc p0 (fun v9 v50 v51 v52 c127_0 c127_1 c127_2 c127_3 c127_4 c127_5 c127_6 c127_7 c191_0 c255_0 c319_0 c383_0 c383_1 c383_2 c383_3 c383_4 c383_5 => D_impl_Puzzle_solve_c1_0 1 fuel rc p0 p1_0 p1_1 p1_2 p1_3 p1_4 p1_5 p1_6 p1_7 p2 p3 p4 p5_0 p5_1 p5_2 p5_3 p5_4 p5_5 n0 v9 v50 v51 v52 c127_0 c127_1 c127_2 c127_3 c127_4 c127_5 c127_6 c127_7 c191_0 c255_0 c319_0 c383_0 c383_1 c383_2 c383_3 c383_4 c383_5 Kk) (fun r1 r2 r3 r4 r5 r6 r7 r8 r9 r10 r11 r12 r13 r14 r15 r16 r17 => Kk ⟨[], [.ptr [.rp r1 [.int .i64 r2, .int .i64 r3, .sl (.ints .i64 r4), .int .i64 r5, .int .i64 r6, .sl (.ints .i64 r7), .sl (.rows r8)]], .ptr [.sl (.orows r9)], .ptr [.sl (.ints .i64 r10)], .ptr [.int .i64 r11], .ptr [.int .i64 r12, .int .i64 r13, .rs (.ints .i64 r14), .int .i64 r15, .int .i64 r16, .rs (.ints .i64 r17)], .ptr [.fnv 80 [] [1, 2, 3, 4, 5, 6]]]⟩) v9 v11 v50 v51 v52 c127_0 c127_1 c127_2 c127_3 c127_4 c127_5 c127_6 c127_7 c191_0 c255_0 c319_0 c383_0 c383_1 c383_2 c383_3 c383_4 c383_5 := by
  rw [D_impl_Puzzle_solve_c1_2, gate_one, s_impl_Puzzle_solve_c1_2, F_impl_Puzzle_solve_c1_2]
def F_impl_Puzzle_solve_c1_0 {ρ : Type} (fuel : Nat) (rc : (List Int) → Bool → Int → Int → (List Int) → Int → Int → (List Int) → (List (List Int)) → (List (List Int)) → (List Int) → Int → Int → Int → (List Int) → Int → Int → (List Int) → Option (Bool × Int × Int × List Int × Int × Int × List Int × List (List Int) × List (List Int) × List Int × Int × Int × Int × List Int × Int × Int × List Int)) (p0 : List Int)  (K : Bool → Int → Int → List Int → Int → Int → List Int → List (List Int) → List (List Int) → List Int → Int → Int → Int → List Int → Int → Int → List Int → Option ρ) : Nat → Int → List Int → Int → Int → Bool → Int → Int → List Int → Int → Int → List Int → List (List Int) → List (List Int) → List Int → Int → Int → Int → List Int → Int → Int → List Int → Option ρ
  | 0, _, _, _, _, _, _, _, _, _, _, _, _, _, _, _, _, _, _, _, _, _ => none
  | n + 1, v9, v50, v51, v52, c127_0, c127_1, c127_2, c127_3, c127_4, c127_5, c127_6, c127_7, c191_0, c255_0, c319_0, c383_0, c383_1, c383_2, c383_3, c383_4, c383_5 => S_impl_Puzzle_solve_c1_0 p0 v9 v50 v51 v52 c127_0 c127_1 c127_2 c127_3 c127_4 c127_5 c127_6 c127_7 c191_0 c255_0 c319_0 c383_0 c383_1 c383_2 c383_3 c383_4 c383_5 (F_impl_Puzzle_solve_c1_0 fuel rc p0  K n) (F_impl_Puzzle_solve_c1_2 fuel rc p0 (F_impl_Puzzle_solve_c1_0 fuel rc p0  K n) K) K
theorem f_impl_Puzzle_solve_c1_0 {ρ : Type} (fuel : Nat) (rc : (List Int) → Bool → Int → Int → (List Int) → Int → Int → (List Int) → (List (List Int)) → (List (List Int)) → (List Int) → Int → Int → Int → (List Int) → Int → Int → (List Int) → Option (Bool × Int × Int × List Int × Int × Int × List Int × List (List Int) × List (List Int) × List Int × Int × Int × Int × List Int × Int × Int × List Int)) (p0 : List Int) (p1_0 : Bool) (p1_1 : Int) (p1_2 : Int) (p1_3 : List Int) (p1_4 : Int) (p1_5 : Int) (p1_6 : List Int) (p1_7 : List (List Int)) (p2 : List (List Int)) (p3 : List Int) (p4 : Int) (p5_0 : Int) (p5_1 : Int) (p5_2 : List Int) (p5_3 : Int) (p5_4 : Int) (p5_5 : List Int) (Kk : Out → Option ρ) : ∀ (n : Nat) (v9 : Int) (v50 : List Int) (v51 : Int) (v52 : Int) (c127_0 : Bool) (c127_1 : Int) (c127_2 : Int) (c127_3 : List Int) (c127_4 : Int) (c127_5 : Int) (c127_6 : List Int) (c127_7 : List (List Int)) (c191_0 : List (List Int)) (c255_0 : List Int) (c319_0 : Int) (c383_0 : Int) (c383_1 : Int) (c383_2 : List Int) (c383_3 : Int) (c383_4 : Int) (c383_5 : List Int), D_impl_Puzzle_solve_c1_0 1 fuel rc p0 p1_0 p1_1 p1_2 p1_3 p1_4 p1_5 p1_6 p1_7 p2 p3 p4 p5_0 p5_1 p5_2 p5_3 p5_4 p5_5  n v9 v50 v51 v52 c127_0 c127_1 c127_2 c127_3 c127_4 c127_5 c127_6 c127_7 c191_0 c255_0 c319_0 c383_0 c383_1 c383_2 c383_3 c383_4 c383_5 Kk = F_impl_Puzzle_solve_c1_0 fuel rc p0  (fun r1 r2 r3 r4 r5 r6 r7 r8 r9 r10 r11 r12 r13 r14 r15 r16 r17 => Kk ⟨[], [.ptr [.rp r1 [.int .i64 r2, .int .i64 r3, .sl (.ints .i64 r4), .int .i64 r5, .int .i64 r6, .sl (.ints .i64 r7), .sl (.rows r8)]], .ptr [.sl (.orows r9)], .ptr [.sl (.ints .i64 r10)], .ptr [.int .i64 r11], .ptr [.int .i64 r12, .int .i64 r13, .rs (.ints .i64 r14), .int .i64 r15, .int .i64 r16, .rs (.ints .i64 r17)], .ptr [.fnv 80 [] [1, 2, 3, 4, 5, 6]]]⟩) n v9 v50 v51 v52 c127_0 c127_1 c127_2 c127_3 c127_4 c127_5 c127_6 c127_7 c191_0 c255_0 c319_0 c383_0 c383_1 c383_2 c383_3 c383_4 c383_5 := by
  intro n
  induction n with
  | zero => intros; rfl
  | succ n ih =>
    intro v9 v50 v51 v52 c127_0 c127_1 c127_2 c127_3 c127_4 c127_5 c127_6 c127_7 c191_0 c255_0 c319_0 c383_0 c383_1 c383_2 c383_3 c383_4 c383_5
    rw [s_impl_Puzzle_solve_c1_0, F_impl_Puzzle_solve_c1_0]
    try simp only [ih, f_impl_Puzzle_solve_c1_2]
def F_impl_Puzzle_solve_c1_1 {ρ : Type} (fuel : Nat) (rc : (List Int) → Bool → Int → Int → (List Int) → Int → Int → (List Int) → (List (List Int)) → (List (List Int)) → (List Int) → Int → Int → Int → (List Int) → Int → Int → (List Int) → Option (Bool × Int × Int × List Int × Int × Int × List Int × List (List Int) × List (List Int) × List Int × Int × Int × Int × List Int × Int × Int × List Int)) (p0 : List Int)  (K : Bool → Int → Int → List Int → Int → Int → List Int → List (List Int) → List (List Int) → List Int → Int → Int → Int → List Int → Int → Int → List Int → Option ρ) (v8 : List Int) (c127_0 : Bool) (c127_1 : Int) (c127_2 : Int) (c127_3 : List Int) (c127_4 : Int) (c127_5 : Int) (c127_6 : List Int) (c127_7 : List (List Int)) (c191_0 : List (List Int)) (c255_0 : List Int) (c319_0 : Int) (c383_0 : Int) (c383_1 : Int) (c383_2 : List Int) (c383_3 : Int) (c383_4 : Int) (c383_5 : List Int) : Option ρ := S_impl_Puzzle_solve_c1_1 p0 v8 c127_0 c127_1 c127_2 c127_3 c127_4 c127_5 c127_6 c127_7 c191_0 c255_0 c319_0 c383_0 c383_1 c383_2 c383_3 c383_4 c383_5 (F_impl_Puzzle_solve_c1_0 fuel rc p0  K fuel)
theorem f_impl_Puzzle_solve_c1_1 {ρ : Type} (fuel : Nat) (rc : (List Int) → Bool → Int → Int → (List Int) → Int → Int → (List Int) → (List (List Int)) → (List (List Int)) → (List Int) → Int → Int → Int → (List Int) → Int → Int → (List Int) → Option (Bool × Int × Int × List Int × Int × Int × List Int × List (List Int) × List (List Int) × List Int × Int × Int × Int × List Int × Int × Int × List Int)) (p0 : List Int) (p1_0 : Bool) (p1_1 : Int) (p1_2 : Int) (p1_3 : List Int) (p1_4 : Int) (p1_5 : Int) (p1_6 : List Int) (p1_7 : List (List Int)) (p2 : List (List Int)) (p3 : List Int) (p4 : Int) (p5_0 : Int) (p5_1 : Int) (p5_2 : List Int) (p5_3 : Int) (p5_4 : Int) (p5_5 : List Int) (v8 : List Int) (c127_0 : Bool) (c127_1 : Int) (c127_2 : Int) (c127_3 : List Int) (c127_4 : Int) (c127_5 : Int) (c127_6 : List Int) (c127_7 : List (List Int)) (c191_0 : List (List Int)) (c255_0 : List Int) (c319_0 : Int) (c383_0 : Int) (c383_1 : Int) (c383_2 : List Int) (c383_3 : Int) (c383_4 : Int) (c383_5 : List Int) (Kk : Out → Option ρ) : D_impl_Puzzle_solve_c1_1 1 fuel rc p0 p1_0 p1_1 p1_2 p1_3 p1_4 p1_5 p1_6 p1_7 p2 p3 p4 p5_0 p5_1 p5_2 p5_3 p5_4 p5_5  v8 c127_0 c127_1 c127_2 c127_3 c127_4 c127_5 c127_6 c127_7 c191_0 c255_0 c319_0 c383_0 c383_1 c383_2 c383_3 c383_4 c383_5 Kk = F_impl_Puzzle_solve_c1_1 fuel rc p0  (fun r1 r2 r3 r4 r5 r6 r7 r8 r9 r10 r11 r12 r13 r14 r15 r16 r17 => Kk ⟨[], [.ptr [.rp r1 [.int .i64 r2, .int .i64 r3, .sl (.ints .i64 r4), .int .i64 r5, .int .i64 r6, .sl (.ints .i64 r7), .sl (.rows r8)]], .ptr [.sl (.orows r9)], .ptr [.sl (.ints .i64 r10)], .ptr [.int .i64 r11], .ptr [.int .i64 r12, .int .i64 r13, .rs (.ints .i64 r14), .int .i64 r15, .int .i64 r16, .rs (.ints .i64 r17)], .ptr [.fnv 80 [] [1, 2, 3, 4, 5, 6]]]⟩) v8 c127_0 c127_1 c127_2 c127_3 c127_4 c127_5 c127_6 c127_7 c191_0 c255_0 c319_0 c383_0 c383_1 c383_2 c383_3 c383_4 c383_5 := by
  rw [D_impl_Puzzle_solve_c1_1, gate_one, s_impl_Puzzle_solve_c1_1, F_impl_Puzzle_solve_c1_1]
  try simp only [f_impl_Puzzle_solve_c1_2, f_impl_Puzzle_solve_c1_0]
def F_impl_Puzzle_solve_c1 {ρ : Type} (fuel : Nat) (rc : (List Int) → Bool → Int → Int → (List Int) → Int → Int → (List Int) → (List (List Int)) → (List (List Int)) → (List Int) → Int → Int → Int → (List Int) → Int → Int → (List Int) → Option (Bool × Int × Int × List Int × Int × Int × List Int × List (List Int) × List (List Int) × List Int × Int × Int × Int × List Int × Int × Int × List Int)) (p0 : List Int) (p1_0 : Bool) (p1_1 : Int) (p1_2 : Int) (p1_3 : List Int) (p1_4 : Int) (p1_5 : Int) (p1_6 : List Int) (p1_7 : List (List Int)) (p2 : List (List Int)) (p3 : List Int) (p4 : Int) (p5_0 : Int) (p5_1 : Int) (p5_2 : List Int) (p5_3 : Int) (p5_4 : Int) (p5_5 : List Int)  (K : Bool → Int → Int → List Int → Int → Int → List Int → List (List Int) → List (List Int) → List Int → Int → Int → Int → List Int → Int → Int → List Int → Option ρ) : Option ρ := S_impl_Puzzle_solve_c1_e rc p0 p1_0 p1_1 p1_2 p1_3 p1_4 p1_5 p1_6 p1_7 p2 p3 p4 p5_0 p5_1 p5_2 p5_3 p5_4 p5_5  (F_impl_Puzzle_solve_c1_1 fuel rc p0  K) K
theorem f_impl_Puzzle_solve_c1 {ρ : Type} (fuel : Nat) (rc : (List Int) → Bool → Int → Int → (List Int) → Int → Int → (List Int) → (List (List Int)) → (List (List Int)) → (List Int) → Int → Int → Int → (List Int) → Int → Int → (List Int) → Option (Bool × Int × Int × List Int × Int × Int × List Int × List (List Int) × List (List Int) × List Int × Int × Int × Int × List Int × Int × Int × List Int)) (p0 : List Int) (p1_0 : Bool) (p1_1 : Int) (p1_2 : Int) (p1_3 : List Int) (p1_4 : Int) (p1_5 : Int) (p1_6 : List Int) (p1_7 : List (List Int)) (p2 : List (List Int)) (p3 : List Int) (p4 : Int) (p5_0 : Int) (p5_1 : Int) (p5_2 : List Int) (p5_3 : Int) (p5_4 : Int) (p5_5 : List Int) (Kk : Out → Option ρ) : runFn TT (E_impl_Puzzle_solve_c1 rc) (kp_impl_Puzzle_solve_c1 1) fuel [.ext, .ref, .ref, .ref, .ref, .ref, .ref] 7 true [] 91 [] b_impl_Puzzle_solve_c1 [.x (.sl (.ints .i64 p0)), .ptr [.rp p1_0 [.int .i64 p1_1, .int .i64 p1_2, .sl (.ints .i64 p1_3), .int .i64 p1_4, .int .i64 p1_5, .sl (.ints .i64 p1_6), .sl (.rows p1_7)]], .ptr [.sl (.orows p2)], .ptr [.sl (.ints .i64 p3)], .ptr [.int .i64 p4], .ptr [.int .i64 p5_0, .int .i64 p5_1, .rs (.ints .i64 p5_2), .int .i64 p5_3, .int .i64 p5_4, .rs (.ints .i64 p5_5)], .ptr [.fnv 80 [] [1, 2, 3, 4, 5, 6]]] Kk = F_impl_Puzzle_solve_c1 fuel rc p0 p1_0 p1_1 p1_2 p1_3 p1_4 p1_5 p1_6 p1_7 p2 p3 p4 p5_0 p5_1 p5_2 p5_3 p5_4 p5_5 (fun r1 r2 r3 r4 r5 r6 r7 r8 r9 r10 r11 r12 r13 r14 r15 r16 r17 => Kk ⟨[], [.ptr [.rp r1 [.int .i64 r2, .int .i64 r3, .sl (.ints .i64 r4), .int .i64 r5, .int .i64 r6, .sl (.ints .i64 r7), .sl (.rows r8)]], .ptr [.sl (.orows r9)], .ptr [.sl (.ints .i64 r10)], .ptr [.int .i64 r11], .ptr [.int .i64 r12, .int .i64 r13, .rs (.ints .i64 r14), .int .i64 r15, .int .i64 r16, .rs (.ints .i64 r17)], .ptr [.fnv 80 [] [1, 2, 3, 4, 5, 6]]]⟩) := by
  rw [s_impl_Puzzle_solve_c1_e, F_impl_Puzzle_solve_c1]
  try simp only [f_impl_Puzzle_solve_c1_2, f_impl_Puzzle_solve_c1_0, f_impl_Puzzle_solve_c1_1]
noncomputable def sh1_impl_Puzzle_solve_c1 (rc : (List Int) → Bool → Int → Int → (List Int) → Int → Int → (List Int) → (List (List Int)) → (List (List Int)) → (List Int) → Int → Int → Int → (List Int) → Int → Int → (List Int) → Option (Bool × Int × Int × List Int × Int × Int × List Int × List (List Int) × List (List Int) × List Int × Int × Int × Int × List Int × Int × Int × List Int)) (p0 : List Int) (p1_0 : Bool) (p1_1 : Int) (p1_2 : Int) (p1_3 : List Int) (p1_4 : Int) (p1_5 : Int) (p1_6 : List Int) (p1_7 : List (List Int)) (p2 : List (List Int)) (p3 : List Int) (p4 : Int) (p5_0 : Int) (p5_1 : Int) (p5_2 : List Int) (p5_3 : Int) (p5_4 : Int) (p5_5 : List Int) : Option (Bool × Int × Int × List Int × Int × Int × List Int × List (List Int) × List (List Int) × List Int × Int × Int × Int × List Int × Int × Int × List Int) := val fun n => F_impl_Puzzle_solve_c1 n rc p0 p1_0 p1_1 p1_2 p1_3 p1_4 p1_5 p1_6 p1_7 p2 p3 p4 p5_0 p5_1 p5_2 p5_3 p5_4 p5_5 (fun r1 r2 r3 r4 r5 r6 r7 r8 r9 r10 r11 r12 r13 r14 r15 r16 r17 => some (r1, r2, r3, r4, r5, r6, r7, r8, r9, r10, r11, r12, r13, r14, r15, r16, r17))
noncomputable def shn_impl_Puzzle_solve_c1 : Nat → (List Int) → Bool → Int → Int → (List Int) → Int → Int → (List Int) → (List (List Int)) → (List (List Int)) → (List Int) → Int → Int → Int → (List Int) → Int → Int → (List Int) → Option (Bool × Int × Int × List Int × Int × Int × List Int × List (List Int) × List (List Int) × List Int × Int × Int × Int × List Int × Int × Int × List Int)
  | 0, _, _, _, _, _, _, _, _, _, _, _, _, _, _, _, _, _, _ => none
  | n + 1, p0, p1_0, p1_1, p1_2, p1_3, p1_4, p1_5, p1_6, p1_7, p2, p3, p4, p5_0, p5_1, p5_2, p5_3, p5_4, p5_5 => sh1_impl_Puzzle_solve_c1 (shn_impl_Puzzle_solve_c1 n) p0 p1_0 p1_1 p1_2 p1_3 p1_4 p1_5 p1_6 p1_7 p2 p3 p4 p5_0 p5_1 p5_2 p5_3 p5_4 p5_5
noncomputable def sh_impl_Puzzle_solve_c1 (p0 : List Int) (p1_0 : Bool) (p1_1 : Int) (p1_2 : Int) (p1_3 : List Int) (p1_4 : Int) (p1_5 : Int) (p1_6 : List Int) (p1_7 : List (List Int)) (p2 : List (List Int)) (p3 : List Int) (p4 : Int) (p5_0 : Int) (p5_1 : Int) (p5_2 : List Int) (p5_3 : Int) (p5_4 : Int) (p5_5 : List Int) : Option (Bool × Int × Int × List Int × Int × Int × List Int × List (List Int) × List (List Int) × List Int × Int × Int × Int × List Int × Int × Int × List Int) := shn_impl_Puzzle_solve_c1 1000 p0 p1_0 p1_1 p1_2 p1_3 p1_4 p1_5 p1_6 p1_7 p2 p3 p4 p5_0 p5_1 p5_2 p5_3 p5_4 p5_5
noncomputable def o_impl_Puzzle_solve_c1 : Ora := or_impl_Puzzle_solve_c1 (shn_impl_Puzzle_solve_c1 1000)
def un_impl_Puzzle_solve_c1 : Out → Option (Bool × Int × Int × List Int × Int × Int × List Int × List (List Int) × List (List Int) × List Int × Int × Int × Int × List Int × Int × Int × List Int)
  | ⟨[], [.ptr [.rp r1 [.int .i64 r2, .int .i64 r3, .sl (.ints .i64 r4), .int .i64 r5, .int .i64 r6, .sl (.ints .i64 r7), .sl (.rows r8)]], .ptr [.sl (.orows r9)], .ptr [.sl (.ints .i64 r10)], .ptr [.int .i64 r11], .ptr [.int .i64 r12, .int .i64 r13, .rs (.ints .i64 r14), .int .i64 r15, .int .i64 r16, .rs (.ints .i64 r17)], .ptr [.fnv 80 [] [1, 2, 3, 4, 5, 6]]]⟩ => some (r1, r2, r3, r4, r5, r6, r7, r8, r9, r10, r11, r12, r13, r14, r15, r16, r17)
  | _ => none
theorem un_impl_Puzzle_solve_c1_ok {o : Out} {r : Bool × Int × Int × List Int × Int × Int × List Int × List (List Int) × List (List Int) × List Int × Int × Int × Int × List Int × Int × Int × List Int} (h : un_impl_Puzzle_solve_c1 o = some r) : o = ⟨[], [.ptr [.rp r.1 [.int .i64 r.2.1, .int .i64 r.2.2.1, .sl (.ints .i64 r.2.2.2.1), .int .i64 r.2.2.2.2.1, .int .i64 r.2.2.2.2.2.1, .sl (.ints .i64 r.2.2.2.2.2.2.1), .sl (.rows r.2.2.2.2.2.2.2.1)]], .ptr [.sl (.orows r.2.2.2.2.2.2.2.2.1)], .ptr [.sl (.ints .i64 r.2.2.2.2.2.2.2.2.2.1)], .ptr [.int .i64 r.2.2.2.2.2.2.2.2.2.2.1], .ptr [.int .i64 r.2.2.2.2.2.2.2.2.2.2.2.1, .int .i64 r.2.2.2.2.2.2.2.2.2.2.2.2.1, .rs (.ints .i64 r.2.2.2.2.2.2.2.2.2.2.2.2.2.1), .int .i64 r.2.2.2.2.2.2.2.2.2.2.2.2.2.2.1, .int .i64 r.2.2.2.2.2.2.2.2.2.2.2.2.2.2.2.1, .rs (.ints .i64 r.2.2.2.2.2.2.2.2.2.2.2.2.2.2.2.2)], .ptr [.fnv 80 [] [1, 2, 3, 4, 5, 6]]]⟩ := by
  unfold un_impl_Puzzle_solve_c1 at h
  split at h
  · injection h with h
    subst h
    rfl
  · cases h
theorem n_impl_Puzzle_solve_c1 (rc : (List Int) → Bool → Int → Int → (List Int) → Int → Int → (List Int) → (List (List Int)) → (List (List Int)) → (List Int) → Int → Int → Int → (List Int) → Int → Int → (List Int) → Option (Bool × Int × Int × List Int × Int × Int × List Int × List (List Int) × List (List Int) × List Int × Int × Int × Int × List Int × Int × Int × List Int)) : ∀ k o, (E_impl_Puzzle_solve_c1 rc).fn k = some o → Nat1 o := fun k o h => nat_list (l := O_impl_Puzzle_solve_c1 rc) (List.forall_mem_cons.2 ⟨(ng_impl_Puzzle_solve_c1 rc), (List.forall_mem_cons.2 ⟨m_slices_Clone_int_int.nat, (List.forall_mem_cons.2 ⟨m_slices_Contains_int_int.nat, (List.forall_mem_nil _)⟩)⟩)⟩) k o h
theorem u_impl_Puzzle_solve_c1 (fuel : Nat) (rc : (List Int) → Bool → Int → Int → (List Int) → Int → Int → (List Int) → (List (List Int)) → (List (List Int)) → (List Int) → Int → Int → Int → (List Int) → Int → Int → (List Int) → Option (Bool × Int × Int × List Int × Int × Int × List Int × List (List Int) × List (List Int) × List Int × Int × Int × Int × List Int × Int × Int × List Int)) (p0 : List Int) (p1_0 : Bool) (p1_1 : Int) (p1_2 : Int) (p1_3 : List Int) (p1_4 : Int) (p1_5 : Int) (p1_6 : List Int) (p1_7 : List (List Int)) (p2 : List (List Int)) (p3 : List Int) (p4 : Int) (p5_0 : Int) (p5_1 : Int) (p5_2 : List Int) (p5_3 : Int) (p5_4 : Int) (p5_5 : List Int) : runFn TT (E_impl_Puzzle_solve_c1 rc) (kp_impl_Puzzle_solve_c1 1) fuel [.ext, .ref, .ref, .ref, .ref, .ref, .ref] 7 true [] 91 [] b_impl_Puzzle_solve_c1 [.x (.sl (.ints .i64 p0)), .ptr [.rp p1_0 [.int .i64 p1_1, .int .i64 p1_2, .sl (.ints .i64 p1_3), .int .i64 p1_4, .int .i64 p1_5, .sl (.ints .i64 p1_6), .sl (.rows p1_7)]], .ptr [.sl (.orows p2)], .ptr [.sl (.ints .i64 p3)], .ptr [.int .i64 p4], .ptr [.int .i64 p5_0, .int .i64 p5_1, .rs (.ints .i64 p5_2), .int .i64 p5_3, .int .i64 p5_4, .rs (.ints .i64 p5_5)], .ptr [.fnv 80 [] [1, 2, 3, 4, 5, 6]]] un_impl_Puzzle_solve_c1 = F_impl_Puzzle_solve_c1 fuel rc p0 p1_0 p1_1 p1_2 p1_3 p1_4 p1_5 p1_6 p1_7 p2 p3 p4 p5_0 p5_1 p5_2 p5_3 p5_4 p5_5 (fun r1 r2 r3 r4 r5 r6 r7 r8 r9 r10 r11 r12 r13 r14 r15 r16 r17 => some (r1, r2, r3, r4, r5, r6, r7, r8, r9, r10, r11, r12, r13, r14, r15, r16, r17)) := f_impl_Puzzle_solve_c1 fuel rc p0 p1_0 p1_1 p1_2 p1_3 p1_4 p1_5 p1_6 p1_7 p2 p3 p4 p5_0 p5_1 p5_2 p5_3 p5_4 p5_5 un_impl_Puzzle_solve_c1
theorem sh1_impl_Puzzle_solve_c1_of {n : Nat} {rc : (List Int) → Bool → Int → Int → (List Int) → Int → Int → (List Int) → (List (List Int)) → (List (List Int)) → (List Int) → Int → Int → Int → (List Int) → Int → Int → (List Int) → Option (Bool × Int × Int × List Int × Int × Int × List Int × List (List Int) × List (List Int) × List Int × Int × Int × Int × List Int × Int × Int × List Int)} {p0 : List Int} {p1_0 : Bool} {p1_1 : Int} {p1_2 : Int} {p1_3 : List Int} {p1_4 : Int} {p1_5 : Int} {p1_6 : List Int} {p1_7 : List (List Int)} {p2 : List (List Int)} {p3 : List Int} {p4 : Int} {p5_0 : Int} {p5_1 : Int} {p5_2 : List Int} {p5_3 : Int} {p5_4 : Int} {p5_5 : List Int} {r : Bool × Int × Int × List Int × Int × Int × List Int × List (List Int) × List (List Int) × List Int × Int × Int × Int × List Int × Int × Int × List Int} (h : F_impl_Puzzle_solve_c1 n rc p0 p1_0 p1_1 p1_2 p1_3 p1_4 p1_5 p1_6 p1_7 p2 p3 p4 p5_0 p5_1 p5_2 p5_3 p5_4 p5_5 (fun r1 r2 r3 r4 r5 r6 r7 r8 r9 r10 r11 r12 r13 r14 r15 r16 r17 => some (r1, r2, r3, r4, r5, r6, r7, r8, r9, r10, r11, r12, r13, r14, r15, r16, r17)) = some r) : sh1_impl_Puzzle_solve_c1 rc p0 p1_0 p1_1 p1_2 p1_3 p1_4 p1_5 p1_6 p1_7 p2 p3 p4 p5_0 p5_1 p5_2 p5_3 p5_4 p5_5 = some r := val_of (fun n m r hm h => by rw [← u_impl_Puzzle_solve_c1] at h ⊢; exact runFn_mono (n_impl_Puzzle_solve_c1 rc) hm h) h
theorem ms_impl_Puzzle_solve_c1 (rc : (List Int) → Bool → Int → Int → (List Int) → Int → Int → (List Int) → (List (List Int)) → (List (List Int)) → (List Int) → Int → Int → Int → (List Int) → Int → Int → (List Int) → Option (Bool × Int × Int × List Int × Int × Int × List Int × List (List Int) × List (List Int) × List Int × Int × Int × Int × List Int × Int × Int × List Int)) (hrc : MeetsO Try.prog 80 (or_impl_Puzzle_solve_c1 rc)) : MeetsO Try.prog 80 (or_impl_Puzzle_solve_c1 (sh1_impl_Puzzle_solve_c1 rc)) := by
  refine ⟨fun ρ ds K => ?_, ⟨_, meets_run (kp := kp_impl_Puzzle_solve_c1 1) (weak := true) (df := []) tsOk (ook_list (l := (O_impl_Puzzle_solve_c1 rc)) (fk := (E_impl_Puzzle_solve_c1 rc).fk) (List.forall_mem_cons.2 ⟨hrc, (List.forall_mem_cons.2 ⟨m_slices_Clone_int_int, (List.forall_mem_cons.2 ⟨m_slices_Contains_int_int, (List.forall_mem_nil _)⟩)⟩)⟩)) mixed Try.func80 (body := b_impl_Puzzle_solve_c1) (by kernel_rfl) (ntmps := 91) (by kernel_rfl) (rs := []) (by kernel_rfl), fun ds out h => ?_⟩, ⟨_, Try.func80, by kernel_rfl, by kernel_rfl⟩⟩
  · exact ng_impl_Puzzle_solve_c1 _ ρ ds K
  · replace h : G_impl_Puzzle_solve_c1 (sh1_impl_Puzzle_solve_c1 rc) ds some = some out := h
    unfold G_impl_Puzzle_solve_c1 at h
    split at h
    · obtain ⟨r, hr, h⟩ := Option.bind_eq_some_iff.1 h
      injection h with h
      subst h
      obtain ⟨n, hn⟩ := val_some hr
      replace hn := (u_impl_Puzzle_solve_c1 n rc _ _ _ _ _ _ _ _ _ _ _ _ _ _ _ _ _ _).trans hn
      rw [runFn_bind (K := un_impl_Puzzle_solve_c1) (K' := some) (f := un_impl_Puzzle_solve_c1) (n_impl_Puzzle_solve_c1 rc) (fun _ => rfl)] at hn
      obtain ⟨o, h1, h2⟩ := Option.bind_eq_some_iff.1 hn
      rw [un_impl_Puzzle_solve_c1_ok h2] at h1
      exact ⟨n, h1⟩
    · cases h
theorem m_impl_Puzzle_solve_c1 : MeetsO Try.prog 80 o_impl_Puzzle_solve_c1 := by
  have h : ∀ n, MeetsO Try.prog 80 (or_impl_Puzzle_solve_c1 (shn_impl_Puzzle_solve_c1 n)) := fun n => by
    induction n with
    | zero =>
      refine ⟨ng_impl_Puzzle_solve_c1 _, ⟨fun _ _ => False, fun w Z args ds B out _ _ _ hs => hs.elim, fun ds out h => ?_⟩, ⟨_, Try.func80, by kernel_rfl, by kernel_rfl⟩⟩
      replace h : G_impl_Puzzle_solve_c1 (shn_impl_Puzzle_solve_c1 0) ds some = some out := h
      unfold G_impl_Puzzle_solve_c1 at h
      split at h
      · have h : (none : Option Out) = some out := h
        cases h
      · cases h
    | succ n ih => exact ms_impl_Puzzle_solve_c1 _ ih
  exact h 1000
/-! f59 (loop.example.g01239.impl.Puzzle).solve -/
noncomputable def b_impl_Puzzle_solve : Code := Try.f59.body.getD .skip
def kp_impl_Puzzle_solve (g : Nat) : Nat → Option Keep := lk [(6, ⟨[], [2, 3, 5, 7, 33, 34], [4096, 4112, 5248, 8304], [], [], g⟩), (11, ⟨[], [2, 3, 5, 7, 42, 43, 44], [4096, 4112, 5248, 8304], [], [], g⟩)]
def O_impl_Puzzle_solve : List (FuncId × Ora) := [(70, o_impl_graphOf), (79, o_impl_graph_parts), (80, o_impl_Puzzle_solve_c1)]
def E_impl_Puzzle_solve : Env := ⟨lk O_impl_Puzzle_solve, fun _ => false⟩
noncomputable def D_impl_Puzzle_solve_0 {ρ : Type} (g fuel : Nat) (p0_0 : Int) (p0_1 : Int) (p0_2 : List Int) (p0_3 : Int) (p0_4 : Int) (p0_5 : List Int) (p1 : Int) (n : Nat) (v33 : Int) (v34 : Int) (c4096_0 : Int) (c4096_1 : Int) (c4096_2 : List Int) (c4096_3 : Int) (c4096_4 : Int) (c4096_5 : List Int) (c4112_0 : Int) (c5248_0 : Bool) (c5248_1 : Int) (c5248_2 : Int) (c5248_3 : List Int) (c5248_4 : Int) (c5248_5 : Int) (c5248_6 : List Int) (c5248_7 : List (List Int)) (c8304_0 : List Int) (Kk : Out → Option ρ) : Option ρ :=
  iter (run TT E_impl_Puzzle_solve (kp_impl_Puzzle_solve g) fuel (cL (cB (cS2 (cS1 (cS2 (cS2 (cS2 (cS2 (b_impl_Puzzle_solve)))))))))) (nrmAt (kp_impl_Puzzle_solve g) (firstRid (cL (cB (cS2 (cS1 (cS2 (cS2 (cS2 (cS2 (b_impl_Puzzle_solve))))))))))) n (⟨[uu, uu, .u (.x (.ptr 4096 0)), .u (.x (.ptr 4112 0)), uu, .u (.x (.ptr 5248 0)), uu, .u (.x (.ptr 8304 0)), uu, uu, uu, uu, uu, uu, uu, uu, uu, uu, uu, uu, uu, uu, uu, uu, uu, uu, uu, uu, uu, uu, uu, uu, uu, .u (.x (.int .i64 v33)), .u (.x (.int .i64 v34)), uu, uu, uu, uu, uu, uu, uu, uu, uu, uu, uu, uu, uu, uu, uu, uu, uu, uu, uu, uu, uu, uu, uu, uu, uu], [(4096, [.int .i64 c4096_0, .int .i64 c4096_1, .ro (.ints .i64 c4096_2), .int .i64 c4096_3, .int .i64 c4096_4, .ro (.ints .i64 c4096_5)]), (4112, [.int .i64 c4112_0]), (5248, [.rop c5248_0 [.int .i64 c5248_1, .int .i64 c5248_2, .sl (.ints .i64 c5248_3), .int .i64 c5248_4, .int .i64 c5248_5, .sl (.ints .i64 c5248_6), .sl (.rows c5248_7)] 0]), (8304, [.own 8288 (.ints .i64 c8304_0)])], [], []⟩) (blkK 0 (seqK (gateAt (kp_impl_Puzzle_solve g) (200000 + firstRid (cS2 (cS2 (cS2 (cS2 (cS2 (b_impl_Puzzle_solve)))))))) (run TT E_impl_Puzzle_solve (kp_impl_Puzzle_solve g) fuel (cS2 (cS2 (cS2 (cS2 (cS2 (b_impl_Puzzle_solve))))))) (nrmAt (kp_impl_Puzzle_solve g) (200000 + firstRid (cS2 (cS2 (cS2 (cS2 (cS2 (b_impl_Puzzle_solve)))))))) (topK TT [.val, .val] false [[]] [.tmp 4] [.agg [.int .i64 p0_0, .int .i64 p0_1, .sl (.ints .i64 p0_2), .int .i64 p0_3, .int .i64 p0_4, .sl (.ints .i64 p0_5)], .x (.int .i64 p1)] Kk)))
noncomputable def D_impl_Puzzle_solve_1 {ρ : Type} (g fuel : Nat) (p0_0 : Int) (p0_1 : Int) (p0_2 : List Int) (p0_3 : Int) (p0_4 : Int) (p0_5 : List Int) (p1 : Int) (n : Nat) (v42 : List Int) (v43 : Int) (v44 : Int) (c4096_0 : Int) (c4096_1 : Int) (c4096_2 : List Int) (c4096_3 : Int) (c4096_4 : Int) (c4112_0 : Int) (c5248_0 : Bool) (c5248_1 : Int) (c5248_2 : Int) (c5248_3 : List Int) (c5248_4 : Int) (c5248_5 : Int) (c5248_6 : List Int) (c5248_7 : List (List Int)) (c8304_0 : List Int) (Kk : Out → Option ρ) : Option ρ :=
  iter (run TT E_impl_Puzzle_solve (kp_impl_Puzzle_solve g) fuel (cL (cB (cS2 (cS1 (cS2 (cS2 (cS2 (cS2 (cS2 (b_impl_Puzzle_solve))))))))))) (nrmAt (kp_impl_Puzzle_solve g) (firstRid (cL (cB (cS2 (cS1 (cS2 (cS2 (cS2 (cS2 (cS2 (b_impl_Puzzle_solve)))))))))))) n (⟨[uu, uu, .u (.x (.ptr 4096 0)), .u (.x (.ptr 4112 0)), uu, .u (.x (.ptr 5248 0)), uu, .u (.x (.ptr 8304 0)), uu, uu, uu, uu, uu, uu, uu, uu, uu, uu, uu, uu, uu, uu, uu, uu, uu, uu, uu, uu, uu, uu, uu, uu, uu, uu, uu, uu, uu, uu, uu, uu, uu, uu, .u (.x (.ro (.ints .i64 v42))), .u (.x (.int .i64 v43)), .u (.x (.int .i64 v44)), uu, uu, uu, uu, uu, uu, uu, uu, uu, uu, uu, uu, uu, uu, uu], [(4096, [.int .i64 c4096_0, .int .i64 c4096_1, .ro (.ints .i64 c4096_2), .int .i64 c4096_3, .int .i64 c4096_4, .ro (.ints .i64 v42)]), (4112, [.int .i64 c4112_0]), (5248, [.rop c5248_0 [.int .i64 c5248_1, .int .i64 c5248_2, .sl (.ints .i64 c5248_3), .int .i64 c5248_4, .int .i64 c5248_5, .sl (.ints .i64 c5248_6), .sl (.rows c5248_7)] 0]), (8304, [.own 8288 (.ints .i64 c8304_0)])], [], []⟩) (blkK 2 (seqK (gateAt (kp_impl_Puzzle_solve g) (200000 + firstRid (cS2 (cS2 (cS2 (cS2 (cS2 (cS2 (b_impl_Puzzle_solve))))))))) (run TT E_impl_Puzzle_solve (kp_impl_Puzzle_solve g) fuel (cS2 (cS2 (cS2 (cS2 (cS2 (cS2 (b_impl_Puzzle_solve)))))))) (nrmAt (kp_impl_Puzzle_solve g) (200000 + firstRid (cS2 (cS2 (cS2 (cS2 (cS2 (cS2 (b_impl_Puzzle_solve))))))))) (topK TT [.val, .val] false [[]] [.tmp 4] [.agg [.int .i64 p0_0, .int .i64 p0_1, .sl (.ints .i64 p0_2), .int .i64 p0_3, .int .i64 p0_4, .sl (.ints .i64 p0_5)], .x (.int .i64 p1)] Kk)))
def S_impl_Puzzle_solve_e {ρ : Type} (p0_0 : Int) (p0_1 : Int) (p0_2 : List Int) (p0_3 : Int) (p0_4 : Int) (p0_5 : List Int) (p1 : Int)  (k0 : (Int → Int → Int → Int → List Int → Int → Int → List Int → Int → Bool → Int → Int → List Int → Int → Int → List Int → List (List Int) → List Int → Option ρ)) (K : List (List Int) → Option ρ) : Option ρ :=
  ((sh_impl_graphOf p0_0 p0_1 p0_2 p0_3 p0_4).bind fun r1 => ((sh_impl_graph_parts r1.1 r1.2.1 r1.2.2.1 r1.2.2.2.1 r1.2.2.2.2.1 r1.2.2.2.2.2.1 r1.2.2.2.2.2.2.1 r1.2.2.2.2.2.2.2.1).bind fun r2 => (bif decide ((r2.length : Int) > (1 : Int)) then K [] else (bif r1.1 then (if 0 ≤ (IntKind.i64.wrap ((r1.2.2.2.2.2.2.1.length : Int) + (1 : Int))) then (if (IntKind.i64.wrap ((r1.2.2.2.2.2.2.1.length : Int) + (1 : Int))) ≤ 1099511627776 then k0 ((List.replicate (IntKind.i64.wrap ((r1.2.2.2.2.2.2.1.length : Int) + (1 : Int))).toNat (0 : Int)).length : Int) (0 : Int) p0_0 p0_1 p0_2 p0_3 p0_4 p0_5 p1 r1.1 r1.2.1 r1.2.2.1 r1.2.2.2.1 r1.2.2.2.2.1 r1.2.2.2.2.2.1 r1.2.2.2.2.2.2.1 r1.2.2.2.2.2.2.2.1 (List.replicate (IntKind.i64.wrap ((r1.2.2.2.2.2.2.1.length : Int) + (1 : Int))).toNat (0 : Int)) else none) else none) else none))))
theorem s_impl_Puzzle_solve_e {ρ : Type} (g fuel : Nat) (p0_0 : Int) (p0_1 : Int) (p0_2 : List Int) (p0_3 : Int) (p0_4 : Int) (p0_5 : List Int) (p1 : Int) (Kk : Out → Option ρ) : runFn TT E_impl_Puzzle_solve (kp_impl_Puzzle_solve g) fuel [.val, .val] 2 false [[]] 60 [.tmp 4] b_impl_Puzzle_solve [.agg [.int .i64 p0_0, .int .i64 p0_1, .sl (.ints .i64 p0_2), .int .i64 p0_3, .int .i64 p0_4, .sl (.ints .i64 p0_5)], .x (.int .i64 p1)] Kk = S_impl_Puzzle_solve_e p0_0 p0_1 p0_2 p0_3 p0_4 p0_5 p1  (fun v33 v34 c4096_0 c4096_1 c4096_2 c4096_3 c4096_4 c4096_5 c4112_0 c5248_0 c5248_1 c5248_2 c5248_3 c5248_4 c5248_5 c5248_6 c5248_7 c8304_0 => D_impl_Puzzle_solve_0 g fuel p0_0 p0_1 p0_2 p0_3 p0_4 p0_5 p1 fuel v33 v34 c4096_0 c4096_1 c4096_2 c4096_3 c4096_4 c4096_5 c4112_0 c5248_0 c5248_1 c5248_2 c5248_3 c5248_4 c5248_5 c5248_6 c5248_7 c8304_0 Kk) (fun r1 => Kk ⟨[.x (.sl (.orows r1))], []⟩) := by
  kernel_rfl
def S_impl_Puzzle_solve_0 {ρ : Type}  (v33 : Int) (v34 : Int) (c4096_0 : Int) (c4096_1 : Int) (c4096_2 : List Int) (c4096_3 : Int) (c4096_4 : Int) (c4096_5 : List Int) (c4112_0 : Int) (c5248_0 : Bool) (c5248_1 : Int) (c5248_2 : Int) (c5248_3 : List Int) (c5248_4 : Int) (c5248_5 : Int) (c5248_6 : List Int) (c5248_7 : List (List Int)) (c8304_0 : List Int) (b0 : (Int → Int → Int → Int → List Int → Int → Int → List Int → Int → Bool → Int → Int → List Int → Int → Int → List Int → List (List Int) → List Int → Option ρ)) (k1 : (List Int → Int → Int → Int → Int → List Int → Int → Int → Int → Bool → Int → Int → List Int → Int → Int → List Int → List (List Int) → List Int → Option ρ)) : Option ρ :=
  (bif decide (v34 < v33) then (if 0 ≤ v34 then (if v34 < (c8304_0.length : Int) then b0 v33 (IntKind.i64.wrap (v34 + (1 : Int))) c4096_0 c4096_1 c4096_2 c4096_3 c4096_4 c4096_5 c4112_0 c5248_0 c5248_1 c5248_2 c5248_3 c5248_4 c5248_5 c5248_6 c5248_7 (c8304_0.set v34.toNat (-1 : Int)) else none) else none) else k1 c4096_5 (c4096_5.length : Int) (0 : Int) c4096_0 c4096_1 c4096_2 c4096_3 c4096_4 c4112_0 c5248_0 c5248_1 c5248_2 c5248_3 c5248_4 c5248_5 c5248_6 c5248_7 c8304_0)
theorem s_impl_Puzzle_solve_0 {ρ : Type} (g fuel : Nat) (p0_0 : Int) (p0_1 : Int) (p0_2 : List Int) (p0_3 : Int) (p0_4 : Int) (p0_5 : List Int) (p1 : Int) (n : Nat) (v33 : Int) (v34 : Int) (c4096_0 : Int) (c4096_1 : Int) (c4096_2 : List Int) (c4096_3 : Int) (c4096_4 : Int) (c4096_5 : List Int) (c4112_0 : Int) (c5248_0 : Bool) (c5248_1 : Int) (c5248_2 : Int) (c5248_3 : List Int) (c5248_4 : Int) (c5248_5 : Int) (c5248_6 : List Int) (c5248_7 : List (List Int)) (c8304_0 : List Int) (Kk : Out → Option ρ) : D_impl_Puzzle_solve_0 g fuel p0_0 p0_1 p0_2 p0_3 p0_4 p0_5 p1  (n + 1) v33 v34 c4096_0 c4096_1 c4096_2 c4096_3 c4096_4 c4096_5 c4112_0 c5248_0 c5248_1 c5248_2 c5248_3 c5248_4 c5248_5 c5248_6 c5248_7 c8304_0 Kk = S_impl_Puzzle_solve_0  v33 v34 c4096_0 c4096_1 c4096_2 c4096_3 c4096_4 c4096_5 c4112_0 c5248_0 c5248_1 c5248_2 c5248_3 c5248_4 c5248_5 c5248_6 c5248_7 c8304_0 (fun v33 v34 c4096_0 c4096_1 c4096_2 c4096_3 c4096_4 c4096_5 c4112_0 c5248_0 c5248_1 c5248_2 c5248_3 c5248_4 c5248_5 c5248_6 c5248_7 c8304_0 => D_impl_Puzzle_solve_0 g fuel p0_0 p0_1 p0_2 p0_3 p0_4 p0_5 p1 n v33 v34 c4096_0 c4096_1 c4096_2 c4096_3 c4096_4 c4096_5 c4112_0 c5248_0 c5248_1 c5248_2 c5248_3 c5248_4 c5248_5 c5248_6 c5248_7 c8304_0 Kk) (fun v42 v43 v44 c4096_0 c4096_1 c4096_2 c4096_3 c4096_4 c4112_0 c5248_0 c5248_1 c5248_2 c5248_3 c5248_4 c5248_5 c5248_6 c5248_7 c8304_0 => D_impl_Puzzle_solve_1 g fuel p0_0 p0_1 p0_2 p0_3 p0_4 p0_5 p1 fuel v42 v43 v44 c4096_0 c4096_1 c4096_2 c4096_3 c4096_4 c4112_0 c5248_0 c5248_1 c5248_2 c5248_3 c5248_4 c5248_5 c5248_6 c5248_7 c8304_0 Kk) := by
  kernel_rfl
def S_impl_Puzzle_solve_1 {ρ : Type}  (v42 : List Int) (v43 : Int) (v44 : Int) (c4096_0 : Int) (c4096_1 : Int) (c4096_2 : List Int) (c4096_3 : Int) (c4096_4 : Int) (c4112_0 : Int) (c5248_0 : Bool) (c5248_1 : Int) (c5248_2 : Int) (c5248_3 : List Int) (c5248_4 : Int) (c5248_5 : Int) (c5248_6 : List Int) (c5248_7 : List (List Int)) (c8304_0 : List Int) (b1 : (List Int → Int → Int → Int → Int → List Int → Int → Int → Int → Bool → Int → Int → List Int → Int → Int → List Int → List (List Int) → List Int → Option ρ)) (K : List (List Int) → Option ρ) : Option ρ :=
  (bif decide (v44 < v43) then (if 0 ≤ v44 then (if v44 < (v42.length : Int) then (bif decide ((v42.getD v44.toNat 0) > (0 : Int)) then (if 0 ≤ (v42.getD v44.toNat 0) then (if (v42.getD v44.toNat 0) < (c8304_0.length : Int) then b1 v42 v43 (IntKind.i64.wrap (v44 + (1 : Int))) c4096_0 c4096_1 c4096_2 c4096_3 c4096_4 c4112_0 c5248_0 c5248_1 c5248_2 c5248_3 c5248_4 c5248_5 c5248_6 c5248_7 (c8304_0.set ((v42.getD v44.toNat 0).toNat) v44) else none) else none) else b1 v42 v43 (IntKind.i64.wrap (v44 + (1 : Int))) c4096_0 c4096_1 c4096_2 c4096_3 c4096_4 c4112_0 c5248_0 c5248_1 c5248_2 c5248_3 c5248_4 c5248_5 c5248_6 c5248_7 c8304_0) else none) else none) else ((sh_impl_Puzzle_solve_c1 [] c5248_0 c5248_1 c5248_2 c5248_3 c5248_4 c5248_5 c5248_6 c5248_7 [] c8304_0 c4112_0 c4096_0 c4096_1 c4096_2 c4096_3 c4096_4 v42).bind fun r1 => K r1.2.2.2.2.2.2.2.2.1))
theorem s_impl_Puzzle_solve_1 {ρ : Type} (g fuel : Nat) (p0_0 : Int) (p0_1 : Int) (p0_2 : List Int) (p0_3 : Int) (p0_4 : Int) (p0_5 : List Int) (p1 : Int) (n : Nat) (v42 : List Int) (v43 : Int) (v44 : Int) (c4096_0 : Int) (c4096_1 : Int) (c4096_2 : List Int) (c4096_3 : Int) (c4096_4 : Int) (c4112_0 : Int) (c5248_0 : Bool) (c5248_1 : Int) (c5248_2 : Int) (c5248_3 : List Int) (c5248_4 : Int) (c5248_5 : Int) (c5248_6 : List Int) (c5248_7 : List (List Int)) (c8304_0 : List Int) (Kk : Out → Option ρ) : D_impl_Puzzle_solve_1 g fuel p0_0 p0_1 p0_2 p0_3 p0_4 p0_5 p1  (n + 1) v42 v43 v44 c4096_0 c4096_1 c4096_2 c4096_3 c4096_4 c4112_0 c5248_0 c5248_1 c5248_2 c5248_3 c5248_4 c5248_5 c5248_6 c5248_7 c8304_0 Kk = S_impl_Puzzle_solve_1  v42 v43 v44 c4096_0 c4096_1 c4096_2 c4096_3 c4096_4 c4112_0 c5248_0 c5248_1 c5248_2 c5248_3 c5248_4 c5248_5 c5248_6 c5248_7 c8304_0 (fun v42 v43 v44 c4096_0 c4096_1 c4096_2 c4096_3 c4096_4 c4112_0 c5248_0 c5248_1 c5248_2 c5248_3 c5248_4 c5248_5 c5248_6 c5248_7 c8304_0 => D_impl_Puzzle_solve_1 g fuel p0_0 p0_1 p0_2 p0_3 p0_4 p0_5 p1 n v42 v43 v44 c4096_0 c4096_1 c4096_2 c4096_3 c4096_4 c4112_0 c5248_0 c5248_1 c5248_2 c5248_3 c5248_4 c5248_5 c5248_6 c5248_7 c8304_0 Kk) (fun r1 => Kk ⟨[.x (.sl (.orows r1))], []⟩) := by
  kernel_rfl
def F_impl_Puzzle_solve_1 {ρ : Type} (fuel : Nat)   (K : List (List Int) → Option ρ) : Nat → List Int → Int → Int → Int → Int → List Int → Int → Int → Int → Bool → Int → Int → List Int → Int → Int → List Int → List (List Int) → List Int → Option ρ
  | 0, _, _, _, _, _, _, _, _, _, _, _, _, _, _, _, _, _, _ => none
  | n + 1, v42, v43, v44, c4096_0, c4096_1, c4096_2, c4096_3, c4096_4, c4112_0, c5248_0, c5248_1, c5248_2, c5248_3, c5248_4, c5248_5, c5248_6, c5248_7, c8304_0 => S_impl_Puzzle_solve_1  v42 v43 v44 c4096_0 c4096_1 c4096_2 c4096_3 c4096_4 c4112_0 c5248_0 c5248_1 c5248_2 c5248_3 c5248_4 c5248_5 c5248_6 c5248_7 c8304_0 (F_impl_Puzzle_solve_1 fuel   K n) K
theorem f_impl_Puzzle_solve_1 {ρ : Type} (fuel : Nat) (p0_0 : Int) (p0_1 : Int) (p0_2 : List Int) (p0_3 : Int) (p0_4 : Int) (p0_5 : List Int) (p1 : Int) (Kk : Out → Option ρ) : ∀ (n : Nat) (v42 : List Int) (v43 : Int) (v44 : Int) (c4096_0 : Int) (c4096_1 : Int) (c4096_2 : List Int) (c4096_3 : Int) (c4096_4 : Int) (c4112_0 : Int) (c5248_0 : Bool) (c5248_1 : Int) (c5248_2 : Int) (c5248_3 : List Int) (c5248_4 : Int) (c5248_5 : Int) (c5248_6 : List Int) (c5248_7 : List (List Int)) (c8304_0 : List Int), D_impl_Puzzle_solve_1 1 fuel p0_0 p0_1 p0_2 p0_3 p0_4 p0_5 p1  n v42 v43 v44 c4096_0 c4096_1 c4096_2 c4096_3 c4096_4 c4112_0 c5248_0 c5248_1 c5248_2 c5248_3 c5248_4 c5248_5 c5248_6 c5248_7 c8304_0 Kk = F_impl_Puzzle_solve_1 fuel   (fun r1 => Kk ⟨[.x (.sl (.orows r1))], []⟩) n v42 v43 v44 c4096_0 c4096_1 c4096_2 c4096_3 c4096_4 c4112_0 c5248_0 c5248_1 c5248_2 c5248_3 c5248_4 c5248_5 c5248_6 c5248_7 c8304_0 := by
  intro n
  induction n with
  | zero => intros; rfl
  | succ n ih =>
    intro v42 v43 v44 c4096_0 c4096_1 c4096_2 c4096_3 c4096_4 c4112_0 c5248_0 c5248_1 c5248_2 c5248_3 c5248_4 c5248_5 c5248_6 c5248_7 c8304_0
    rw [s_impl_Puzzle_solve_1, F_impl_Puzzle_solve_1]
    try simp only [ih]
def F_impl_Puzzle_solve_0 {ρ : Type} (fuel : Nat)   (K : List (List Int) → Option ρ) : Nat → Int → Int → Int → Int → List Int → Int → Int → List Int → Int → Bool → Int → Int → List Int → Int → Int → List Int → List (List Int) → List Int → Option ρ
  | 0, _, _, _, _, _, _, _, _, _, _, _, _, _, _, _, _, _, _ => none
  | n + 1, v33, v34, c4096_0, c4096_1, c4096_2, c4096_3, c4096_4, c4096_5, c4112_0, c5248_0, c5248_1, c5248_2, c5248_3, c5248_4, c5248_5, c5248_6, c5248_7, c8304_0 => S_impl_Puzzle_solve_0  v33 v34 c4096_0 c4096_1 c4096_2 c4096_3 c4096_4 c4096_5 c4112_0 c5248_0 c5248_1 c5248_2 c5248_3 c5248_4 c5248_5 c5248_6 c5248_7 c8304_0 (F_impl_Puzzle_solve_0 fuel   K n) (F_impl_Puzzle_solve_1 fuel   K fuel)
theorem f_impl_Puzzle_solve_0 {ρ : Type} (fuel : Nat) (p0_0 : Int) (p0_1 : Int) (p0_2 : List Int) (p0_3 : Int) (p0_4 : Int) (p0_5 : List Int) (p1 : Int) (Kk : Out → Option ρ) : ∀ (n : Nat) (v33 : Int) (v34 : Int) (c4096_0 : Int) (c4096_1 : Int) (c4096_2 : List Int) (c4096_3 : Int) (c4096_4 : Int) (c4096_5 : List Int) (c4112_0 : Int) (c5248_0 : Bool) (c5248_1 : Int) (c5248_2 : Int) (c5248_3 : List Int) (c5248_4 : Int) (c5248_5 : Int) (c5248_6 : List Int) (c5248_7 : List (List Int)) (c8304_0 : List Int), D_impl_Puzzle_solve_0 1 fuel p0_0 p0_1 p0_2 p0_3 p0_4 p0_5 p1  n v33 v34 c4096_0 c4096_1 c4096_2 c4096_3 c4096_4 c4096_5 c4112_0 c5248_0 c5248_1 c5248_2 c5248_3 c5248_4 c5248_5 c5248_6 c5248_7 c8304_0 Kk = F_impl_Puzzle_solve_0 fuel   (fun r1 => Kk ⟨[.x (.sl (.orows r1))], []⟩) n v33 v34 c4096_0 c4096_1 c4096_2 c4096_3 c4096_4 c4096_5 c4112_0 c5248_0 c5248_1 c5248_2 c5248_3 c5248_4 c5248_5 c5248_6 c5248_7 c8304_0 := by
  intro n
  induction n with
  | zero => intros; rfl
  | succ n ih =>
    intro v33 v34 c4096_0 c4096_1 c4096_2 c4096_3 c4096_4 c4096_5 c4112_0 c5248_0 c5248_1 c5248_2 c5248_3 c5248_4 c5248_5 c5248_6 c5248_7 c8304_0
    rw [s_impl_Puzzle_solve_0, F_impl_Puzzle_solve_0]
    try simp only [ih, f_impl_Puzzle_solve_1]
def F_impl_Puzzle_solve {ρ : Type} (fuel : Nat) (p0_0 : Int) (p0_1 : Int) (p0_2 : List Int) (p0_3 : Int) (p0_4 : Int) (p0_5 : List Int) (p1 : Int)  (K : List (List Int) → Option ρ) : Option ρ := S_impl_Puzzle_solve_e p0_0 p0_1 p0_2 p0_3 p0_4 p0_5 p1  (F_impl_Puzzle_solve_0 fuel   K fuel) K
theorem f_impl_Puzzle_solve {ρ : Type} (fuel : Nat) (p0_0 : Int) (p0_1 : Int) (p0_2 : List Int) (p0_3 : Int) (p0_4 : Int) (p0_5 : List Int) (p1 : Int) (Kk : Out → Option ρ) : runFn TT E_impl_Puzzle_solve (kp_impl_Puzzle_solve 1) fuel [.val, .val] 2 false [[]] 60 [.tmp 4] b_impl_Puzzle_solve [.agg [.int .i64 p0_0, .int .i64 p0_1, .sl (.ints .i64 p0_2), .int .i64 p0_3, .int .i64 p0_4, .sl (.ints .i64 p0_5)], .x (.int .i64 p1)] Kk = F_impl_Puzzle_solve fuel p0_0 p0_1 p0_2 p0_3 p0_4 p0_5 p1 (fun r1 => Kk ⟨[.x (.sl (.orows r1))], []⟩) := by
  rw [s_impl_Puzzle_solve_e, F_impl_Puzzle_solve]
  try simp only [f_impl_Puzzle_solve_1, f_impl_Puzzle_solve_0]
noncomputable def sh_impl_Puzzle_solve (p0_0 : Int) (p0_1 : Int) (p0_2 : List Int) (p0_3 : Int) (p0_4 : Int) (p0_5 : List Int) (p1 : Int) : Option (List (List Int)) := val fun n => F_impl_Puzzle_solve n p0_0 p0_1 p0_2 p0_3 p0_4 p0_5 p1 (fun r1 => some r1)
noncomputable def G_impl_Puzzle_solve {ρ : Type} : List DU → (Out → Option ρ) → Option ρ
  | [.agg [.int .i64 p0_0, .int .i64 p0_1, .sl (.ints .i64 p0_2), .int .i64 p0_3, .int .i64 p0_4, .sl (.ints .i64 p0_5)], .x (.int .i64 p1)], K => (sh_impl_Puzzle_solve p0_0 p0_1 p0_2 p0_3 p0_4 p0_5 p1).bind fun r => K ⟨[.x (.sl (.orows r))], []⟩
  | _, _ => none
noncomputable def o_impl_Puzzle_solve : Ora := ⟨[.val, .val], 2, false, G_impl_Puzzle_solve⟩
def un_impl_Puzzle_solve : Out → Option (List (List Int))
  | ⟨[.x (.sl (.orows r1))], []⟩ => some r1
  | _ => none
theorem un_impl_Puzzle_solve_ok {o : Out} {r : List (List Int)} (h : un_impl_Puzzle_solve o = some r) : o = ⟨[.x (.sl (.orows r))], []⟩ := by
  unfold un_impl_Puzzle_solve at h
  split at h
  · injection h with h
    subst h
    rfl
  · cases h
theorem n_impl_Puzzle_solve : ∀ k o, E_impl_Puzzle_solve.fn k = some o → Nat1 o := fun k o h => (ook_list (P := Try.prog) (l := O_impl_Puzzle_solve) (fk := E_impl_Puzzle_solve.fk) (List.forall_mem_cons.2 ⟨m_impl_graphOf, (List.forall_mem_cons.2 ⟨m_impl_graph_parts, (List.forall_mem_cons.2 ⟨m_impl_Puzzle_solve_c1, (List.forall_mem_nil _)⟩)⟩)⟩)).nat k o h
theorem u_impl_Puzzle_solve (fuel : Nat) (p0_0 : Int) (p0_1 : Int) (p0_2 : List Int) (p0_3 : Int) (p0_4 : Int) (p0_5 : List Int) (p1 : Int) : runFn TT E_impl_Puzzle_solve (kp_impl_Puzzle_solve 1) fuel [.val, .val] 2 false [[]] 60 [.tmp 4] b_impl_Puzzle_solve [.agg [.int .i64 p0_0, .int .i64 p0_1, .sl (.ints .i64 p0_2), .int .i64 p0_3, .int .i64 p0_4, .sl (.ints .i64 p0_5)], .x (.int .i64 p1)] un_impl_Puzzle_solve = F_impl_Puzzle_solve fuel p0_0 p0_1 p0_2 p0_3 p0_4 p0_5 p1 (fun r1 => some r1) := f_impl_Puzzle_solve fuel p0_0 p0_1 p0_2 p0_3 p0_4 p0_5 p1 un_impl_Puzzle_solve
theorem sh_impl_Puzzle_solve_of {n : Nat} {p0_0 : Int} {p0_1 : Int} {p0_2 : List Int} {p0_3 : Int} {p0_4 : Int} {p0_5 : List Int} {p1 : Int} {r : List (List Int)} (h : F_impl_Puzzle_solve n p0_0 p0_1 p0_2 p0_3 p0_4 p0_5 p1 (fun r1 => some r1) = some r) : sh_impl_Puzzle_solve p0_0 p0_1 p0_2 p0_3 p0_4 p0_5 p1 = some r := val_of (fun n m r hm h => by rw [← u_impl_Puzzle_solve] at h ⊢; exact runFn_mono n_impl_Puzzle_solve hm h) h
theorem m_impl_Puzzle_solve : MeetsO Try.prog 59 o_impl_Puzzle_solve := by
  refine ⟨fun ρ ds K => ?_, ⟨_, meets_run (kp := kp_impl_Puzzle_solve 1) (weak := false) (df := [[]]) tsOk (ook_list (l := O_impl_Puzzle_solve) (fk := E_impl_Puzzle_solve.fk) (List.forall_mem_cons.2 ⟨m_impl_graphOf, (List.forall_mem_cons.2 ⟨m_impl_graph_parts, (List.forall_mem_cons.2 ⟨m_impl_Puzzle_solve_c1, (List.forall_mem_nil _)⟩)⟩)⟩)) mixed Try.func59 (body := b_impl_Puzzle_solve) (by kernel_rfl) (ntmps := 60) (by kernel_rfl) (rs := [.tmp 4]) (by kernel_rfl), fun ds out h => ?_⟩, ⟨_, Try.func59, by kernel_rfl, by kernel_rfl⟩⟩
  · show G_impl_Puzzle_solve ds K = (G_impl_Puzzle_solve ds some).bind K
    unfold G_impl_Puzzle_solve
    split
    · cases sh_impl_Puzzle_solve _ _ _ _ _ _ _ <;> rfl
    · rfl
  · replace h : G_impl_Puzzle_solve ds some = some out := h
    unfold G_impl_Puzzle_solve at h
    split at h
    · obtain ⟨r, hr, h⟩ := Option.bind_eq_some_iff.1 h
      injection h with h
      subst h
      obtain ⟨n, hn⟩ := val_some hr
      replace hn := (u_impl_Puzzle_solve n _ _ _ _ _ _ _).trans hn
      rw [runFn_bind (K := un_impl_Puzzle_solve) (K' := some) (f := un_impl_Puzzle_solve) n_impl_Puzzle_solve (fun _ => rfl)] at hn
      obtain ⟨o, h1, h2⟩ := Option.bind_eq_some_iff.1 hn
      rw [un_impl_Puzzle_solve_ok h2] at h1
      exact ⟨n, h1⟩
    · cases h
/-! f60 (loop.example.g01239.impl.Puzzle).own -/
noncomputable def b_impl_Puzzle_own : Code := Try.f60.body.getD .skip
def kp_impl_Puzzle_own (g : Nat) : Nat → Option Keep := lk []
def O_impl_Puzzle_own : List (FuncId × Ora) := [(81, o_slices_Clone_int_int)]
def E_impl_Puzzle_own : Env := ⟨lk O_impl_Puzzle_own, fun _ => false⟩
def S_impl_Puzzle_own_e {ρ : Type} (p0_0 : Int) (p0_1 : Int) (p0_2 : List Int) (p0_3 : Int) (p0_4 : Int) (p0_5 : List Int)   (K : Int → Int → List Int → Int → Int → List Int → Option ρ) : Option ρ :=
  ((sh_slices_Clone_int_int p0_2).bind fun r1 => ((sh_slices_Clone_int_int p0_5).bind fun r2 => K p0_0 p0_1 r1 p0_3 p0_4 r2))
theorem s_impl_Puzzle_own_e {ρ : Type} (g fuel : Nat) (p0_0 : Int) (p0_1 : Int) (p0_2 : List Int) (p0_3 : Int) (p0_4 : Int) (p0_5 : List Int) (Kk : Out → Option ρ) : runFn TT E_impl_Puzzle_own (kp_impl_Puzzle_own g) fuel [.val] 1 false [[]] 17 [.cell 2 35] b_impl_Puzzle_own [.agg [.int .i64 p0_0, .int .i64 p0_1, .sl (.ints .i64 p0_2), .int .i64 p0_3, .int .i64 p0_4, .sl (.ints .i64 p0_5)]] Kk = S_impl_Puzzle_own_e p0_0 p0_1 p0_2 p0_3 p0_4 p0_5   (fun r1 r2 r3 r4 r5 r6 => Kk ⟨[.agg [.int .i64 r1, .int .i64 r2, .sl (.ints .i64 r3), .int .i64 r4, .int .i64 r5, .sl (.ints .i64 r6)]], []⟩) := by
  kernel_rfl
def F_impl_Puzzle_own {ρ : Type} (fuel : Nat) (p0_0 : Int) (p0_1 : Int) (p0_2 : List Int) (p0_3 : Int) (p0_4 : Int) (p0_5 : List Int)  (K : Int → Int → List Int → Int → Int → List Int → Option ρ) : Option ρ := S_impl_Puzzle_own_e p0_0 p0_1 p0_2 p0_3 p0_4 p0_5   K
theorem f_impl_Puzzle_own {ρ : Type} (fuel : Nat) (p0_0 : Int) (p0_1 : Int) (p0_2 : List Int) (p0_3 : Int) (p0_4 : Int) (p0_5 : List Int) (Kk : Out → Option ρ) : runFn TT E_impl_Puzzle_own (kp_impl_Puzzle_own 1) fuel [.val] 1 false [[]] 17 [.cell 2 35] b_impl_Puzzle_own [.agg [.int .i64 p0_0, .int .i64 p0_1, .sl (.ints .i64 p0_2), .int .i64 p0_3, .int .i64 p0_4, .sl (.ints .i64 p0_5)]] Kk = F_impl_Puzzle_own fuel p0_0 p0_1 p0_2 p0_3 p0_4 p0_5 (fun r1 r2 r3 r4 r5 r6 => Kk ⟨[.agg [.int .i64 r1, .int .i64 r2, .sl (.ints .i64 r3), .int .i64 r4, .int .i64 r5, .sl (.ints .i64 r6)]], []⟩) := by
  rw [s_impl_Puzzle_own_e, F_impl_Puzzle_own]
noncomputable def sh_impl_Puzzle_own (p0_0 : Int) (p0_1 : Int) (p0_2 : List Int) (p0_3 : Int) (p0_4 : Int) (p0_5 : List Int) : Option (Int × Int × List Int × Int × Int × List Int) := F_impl_Puzzle_own 0 p0_0 p0_1 p0_2 p0_3 p0_4 p0_5 (fun r1 r2 r3 r4 r5 r6 => some (r1, r2, r3, r4, r5, r6))
noncomputable def G_impl_Puzzle_own {ρ : Type} : List DU → (Out → Option ρ) → Option ρ
  | [.agg [.int .i64 p0_0, .int .i64 p0_1, .sl (.ints .i64 p0_2), .int .i64 p0_3, .int .i64 p0_4, .sl (.ints .i64 p0_5)]], K => (sh_impl_Puzzle_own p0_0 p0_1 p0_2 p0_3 p0_4 p0_5).bind fun r => K ⟨[.agg [.int .i64 r.1, .int .i64 r.2.1, .sl (.ints .i64 r.2.2.1), .int .i64 r.2.2.2.1, .int .i64 r.2.2.2.2.1, .sl (.ints .i64 r.2.2.2.2.2)]], []⟩
  | _, _ => none
noncomputable def o_impl_Puzzle_own : Ora := ⟨[.val], 1, false, G_impl_Puzzle_own⟩
def un_impl_Puzzle_own : Out → Option (Int × Int × List Int × Int × Int × List Int)
  | ⟨[.agg [.int .i64 r1, .int .i64 r2, .sl (.ints .i64 r3), .int .i64 r4, .int .i64 r5, .sl (.ints .i64 r6)]], []⟩ => some (r1, r2, r3, r4, r5, r6)
  | _ => none
theorem un_impl_Puzzle_own_ok {o : Out} {r : Int × Int × List Int × Int × Int × List Int} (h : un_impl_Puzzle_own o = some r) : o = ⟨[.agg [.int .i64 r.1, .int .i64 r.2.1, .sl (.ints .i64 r.2.2.1), .int .i64 r.2.2.2.1, .int .i64 r.2.2.2.2.1, .sl (.ints .i64 r.2.2.2.2.2)]], []⟩ := by
  unfold un_impl_Puzzle_own at h
  split at h
  · injection h with h
    subst h
    rfl
  · cases h
theorem n_impl_Puzzle_own : ∀ k o, E_impl_Puzzle_own.fn k = some o → Nat1 o := fun k o h => (ook_list (P := Try.prog) (l := O_impl_Puzzle_own) (fk := E_impl_Puzzle_own.fk) (List.forall_mem_cons.2 ⟨m_slices_Clone_int_int, (List.forall_mem_nil _)⟩)).nat k o h
theorem u_impl_Puzzle_own (fuel : Nat) (p0_0 : Int) (p0_1 : Int) (p0_2 : List Int) (p0_3 : Int) (p0_4 : Int) (p0_5 : List Int) : runFn TT E_impl_Puzzle_own (kp_impl_Puzzle_own 1) fuel [.val] 1 false [[]] 17 [.cell 2 35] b_impl_Puzzle_own [.agg [.int .i64 p0_0, .int .i64 p0_1, .sl (.ints .i64 p0_2), .int .i64 p0_3, .int .i64 p0_4, .sl (.ints .i64 p0_5)]] un_impl_Puzzle_own = F_impl_Puzzle_own fuel p0_0 p0_1 p0_2 p0_3 p0_4 p0_5 (fun r1 r2 r3 r4 r5 r6 => some (r1, r2, r3, r4, r5, r6)) := f_impl_Puzzle_own fuel p0_0 p0_1 p0_2 p0_3 p0_4 p0_5 un_impl_Puzzle_own
theorem m_impl_Puzzle_own : MeetsO Try.prog 60 o_impl_Puzzle_own := by
  refine ⟨fun ρ ds K => ?_, ⟨_, meets_run (kp := kp_impl_Puzzle_own 1) (weak := false) (df := [[]]) tsOk (ook_list (l := O_impl_Puzzle_own) (fk := E_impl_Puzzle_own.fk) (List.forall_mem_cons.2 ⟨m_slices_Clone_int_int, (List.forall_mem_nil _)⟩)) mixed Try.func60 (body := b_impl_Puzzle_own) (by kernel_rfl) (ntmps := 17) (by kernel_rfl) (rs := [.cell 2 35]) (by kernel_rfl), fun ds out h => ?_⟩, ⟨_, Try.func60, by kernel_rfl, by kernel_rfl⟩⟩
  · show G_impl_Puzzle_own ds K = (G_impl_Puzzle_own ds some).bind K
    unfold G_impl_Puzzle_own
    split
    · cases sh_impl_Puzzle_own _ _ _ _ _ _ <;> rfl
    · rfl
  · replace h : G_impl_Puzzle_own ds some = some out := h
    unfold G_impl_Puzzle_own at h
    split at h
    · obtain ⟨r, hr, h⟩ := Option.bind_eq_some_iff.1 h
      injection h with h
      subst h
      have hn := (u_impl_Puzzle_own 0 _ _ _ _ _ _).trans hr
      rw [runFn_bind (K := un_impl_Puzzle_own) (K' := some) (f := un_impl_Puzzle_own) n_impl_Puzzle_own (fun _ => rfl)] at hn
      obtain ⟨o, h1, h2⟩ := Option.bind_eq_some_iff.1 hn
      rw [un_impl_Puzzle_own_ok h2] at h1
      exact ⟨0, h1⟩
    · cases h
/-! f31 loop.example.g01239.impl.HarderPuzzle -/
noncomputable def b_impl_HarderPuzzle : Code := Try.f31.body.getD .skip
def kp_impl_HarderPuzzle (g : Nat) : Nat → Option Keep := lk [(5, ⟨[], [2, 4, 20, 21, 22], [4112, 7200], [], [], g⟩)]
def O_impl_HarderPuzzle : List (FuncId × Ora) := [(38, o_impl_IsPuzzle), (59, o_impl_Puzzle_solve), (60, o_impl_Puzzle_own)]
def E_impl_HarderPuzzle : Env := ⟨lk O_impl_HarderPuzzle, fun _ => false⟩
noncomputable def D_impl_HarderPuzzle_0 {ρ : Type} (g fuel : Nat) (p0_0 : Int) (p0_1 : Int) (p0_2 : List Int) (p0_3 : Int) (p0_4 : Int) (p0_5 : List Int) (n : Nat) (v20 : List Int) (v21 : Int) (v22 : Int) (c4112_0 : Int) (c7200_0 : Int) (c7200_1 : Int) (c7200_2 : List Int) (c7200_3 : Int) (c7200_4 : Int) (c7200_5 : List Int) (Kk : Out → Option ρ) : Option ρ :=
  iter (run TT E_impl_HarderPuzzle (kp_impl_HarderPuzzle g) fuel (cL (cB (cS2 (cS1 (cS2 (cS2 (cS2 (b_impl_HarderPuzzle))))))))) (nrmAt (kp_impl_HarderPuzzle g) (firstRid (cL (cB (cS2 (cS1 (cS2 (cS2 (cS2 (b_impl_HarderPuzzle)))))))))) n (⟨[uu, uu, .u (.x (.ptr 4112 0)), uu, .u (.x (.ptr 7200 0)), uu, uu, uu, uu, uu, uu, uu, uu, uu, uu, uu, uu, uu, uu, uu, .u (.x (.ro (.ints .i64 v20))), .u (.x (.int .i64 v21)), .u (.x (.int .i64 v22)), uu, uu, uu, uu, uu, uu, uu, uu, uu, uu, uu, uu, uu, uu, uu, uu, uu, uu, uu, uu, uu], [(4112, [.int .i64 c4112_0, .int .i64 c4112_0, .nil (.ints .i64 []), .int .i64 c4112_0, .int .i64 c4112_0, .nil (.ints .i64 [])]), (7200, [.int .i64 c7200_0, .int .i64 c7200_1, .own 7192 (.ints .i64 c7200_2), .int .i64 c7200_3, .int .i64 c7200_4, .own 7193 (.ints .i64 c7200_5)])], [], []⟩) (blkK 0 (seqK (gateAt (kp_impl_HarderPuzzle g) (200000 + firstRid (cS2 (cS2 (cS2 (cS2 (b_impl_HarderPuzzle))))))) (run TT E_impl_HarderPuzzle (kp_impl_HarderPuzzle g) fuel (cS2 (cS2 (cS2 (cS2 (b_impl_HarderPuzzle)))))) (nrmAt (kp_impl_HarderPuzzle g) (200000 + firstRid (cS2 (cS2 (cS2 (cS2 (b_impl_HarderPuzzle))))))) (topK TT [.val] false [[], []] [.cell 2 35, .tmp 3] [.agg [.int .i64 p0_0, .int .i64 p0_1, .sl (.ints .i64 p0_2), .int .i64 p0_3, .int .i64 p0_4, .sl (.ints .i64 p0_5)]] Kk)))
def S_impl_HarderPuzzle_e {ρ : Type} (p0_0 : Int) (p0_1 : Int) (p0_2 : List Int) (p0_3 : Int) (p0_4 : Int) (p0_5 : List Int)  (k0 : (List Int → Int → Int → Int → Int → Int → List Int → Int → Int → List Int → Option ρ)) (K : Int → Int → List Int → Int → Int → List Int → Bool → Option ρ) : Option ρ :=
  ((sh_impl_IsPuzzle p0_0 p0_1 p0_2 p0_3 p0_4 p0_5).bind fun r1 => (bif !r1 then K 0 0 [] 0 0 [] false else ((sh_impl_Puzzle_solve p0_0 p0_1 p0_2 p0_3 p0_4 p0_5 (1 : Int)).bind fun r2 => (bif !decide ((r2.length : Int) = (1 : Int)) then K 0 0 [] 0 0 [] false else ((sh_impl_Puzzle_own p0_0 p0_1 p0_2 p0_3 p0_4 p0_5).bind fun r3 => k0 p0_5 (p0_5.length : Int) (0 : Int) 0 r3.1 r3.2.1 r3.2.2.1 r3.2.2.2.1 r3.2.2.2.2.1 r3.2.2.2.2.2)))))
theorem s_impl_HarderPuzzle_e {ρ : Type} (g fuel : Nat) (p0_0 : Int) (p0_1 : Int) (p0_2 : List Int) (p0_3 : Int) (p0_4 : Int) (p0_5 : List Int) (Kk : Out → Option ρ) : runFn TT E_impl_HarderPuzzle (kp_impl_HarderPuzzle g) fuel [.val] 1 false [[], []] 44 [.cell 2 35, .tmp 3] b_impl_HarderPuzzle [.agg [.int .i64 p0_0, .int .i64 p0_1, .sl (.ints .i64 p0_2), .int .i64 p0_3, .int .i64 p0_4, .sl (.ints .i64 p0_5)]] Kk = S_impl_HarderPuzzle_e p0_0 p0_1 p0_2 p0_3 p0_4 p0_5  (fun v20 v21 v22 c4112_0 c7200_0 c7200_1 c7200_2 c7200_3 c7200_4 c7200_5 => D_impl_HarderPuzzle_0 g fuel p0_0 p0_1 p0_2 p0_3 p0_4 p0_5 fuel v20 v21 v22 c4112_0 c7200_0 c7200_1 c7200_2 c7200_3 c7200_4 c7200_5 Kk) (fun r1 r2 r3 r4 r5 r6 r7 => Kk ⟨[.agg [.int .i64 r1, .int .i64 r2, .sl (.ints .i64 r3), .int .i64 r4, .int .i64 r5, .sl (.ints .i64 r6)], .x (.bool r7)], []⟩) := by
  kernel_rfl
def S_impl_HarderPuzzle_0 {ρ : Type}  (v20 : List Int) (v21 : Int) (v22 : Int) (c4112_0 : Int) (c7200_0 : Int) (c7200_1 : Int) (c7200_2 : List Int) (c7200_3 : Int) (c7200_4 : Int) (c7200_5 : List Int) (b0 : (List Int → Int → Int → Int → Int → Int → List Int → Int → Int → List Int → Option ρ)) (K : Int → Int → List Int → Int → Int → List Int → Bool → Option ρ) : Option ρ :=
  (bif decide (v22 < v21) then (if 0 ≤ v22 then (if v22 < (v20.length : Int) then (bif decide ((v20.getD v22.toNat 0) = (0 : Int)) then b0 v20 v21 (IntKind.i64.wrap (v22 + (1 : Int))) c4112_0 c7200_0 c7200_1 c7200_2 c7200_3 c7200_4 c7200_5 else (if 0 ≤ v22 then (if v22 < (c7200_5.length : Int) then ((sh_impl_Puzzle_solve c7200_0 c7200_1 c7200_2 c7200_3 c7200_4 (c7200_5.set v22.toNat (0 : Int)) (1 : Int)).bind fun r1 => (bif !decide ((r1.length : Int) = (1 : Int)) then (if 0 ≤ v22 then (if v22 < ((c7200_5.set v22.toNat (0 : Int)).length : Int) then b0 v20 v21 (IntKind.i64.wrap (v22 + (1 : Int))) c4112_0 c7200_0 c7200_1 c7200_2 c7200_3 c7200_4 ((c7200_5.set v22.toNat (0 : Int)).set v22.toNat (v20.getD v22.toNat 0)) else none) else none) else b0 v20 v21 (IntKind.i64.wrap (v22 + (1 : Int))) c4112_0 c7200_0 c7200_1 c7200_2 c7200_3 c7200_4 (c7200_5.set v22.toNat (0 : Int)))) else none) else none)) else none) else none) else K c7200_0 c7200_1 c7200_2 c7200_3 c7200_4 c7200_5 true)
theorem s_impl_HarderPuzzle_0 {ρ : Type} (g fuel : Nat) (p0_0 : Int) (p0_1 : Int) (p0_2 : List Int) (p0_3 : Int) (p0_4 : Int) (p0_5 : List Int) (n : Nat) (v20 : List Int) (v21 : Int) (v22 : Int) (c4112_0 : Int) (c7200_0 : Int) (c7200_1 : Int) (c7200_2 : List Int) (c7200_3 : Int) (c7200_4 : Int) (c7200_5 : List Int) (Kk : Out → Option ρ) : D_impl_HarderPuzzle_0 g fuel p0_0 p0_1 p0_2 p0_3 p0_4 p0_5  (n + 1) v20 v21 v22 c4112_0 c7200_0 c7200_1 c7200_2 c7200_3 c7200_4 c7200_5 Kk = S_impl_HarderPuzzle_0  v20 v21 v22 c4112_0 c7200_0 c7200_1 c7200_2 c7200_3 c7200_4 c7200_5 (fun v20 v21 v22 c4112_0 c7200_0 c7200_1 c7200_2 c7200_3 c7200_4 c7200_5 => D_impl_HarderPuzzle_0 g fuel p0_0 p0_1 p0_2 p0_3 p0_4 p0_5 n v20 v21 v22 c4112_0 c7200_0 c7200_1 c7200_2 c7200_3 c7200_4 c7200_5 Kk) (fun r1 r2 r3 r4 r5 r6 r7 => Kk ⟨[.agg [.int .i64 r1, .int .i64 r2, .sl (.ints .i64 r3), .int .i64 r4, .int .i64 r5, .sl (.ints .i64 r6)], .x (.bool r7)], []⟩) := by
  kernel_rfl
def F_impl_HarderPuzzle_0 {ρ : Type} (fuel : Nat)   (K : Int → Int → List Int → Int → Int → List Int → Bool → Option ρ) : Nat → List Int → Int → Int → Int → Int → Int → List Int → Int → Int → List Int → Option ρ
  | 0, _, _, _, _, _, _, _, _, _, _ => none
  | n + 1, v20, v21, v22, c4112_0, c7200_0, c7200_1, c7200_2, c7200_3, c7200_4, c7200_5 => S_impl_HarderPuzzle_0  v20 v21 v22 c4112_0 c7200_0 c7200_1 c7200_2 c7200_3 c7200_4 c7200_5 (F_impl_HarderPuzzle_0 fuel   K n) K
theorem f_impl_HarderPuzzle_0 {ρ : Type} (fuel : Nat) (p0_0 : Int) (p0_1 : Int) (p0_2 : List Int) (p0_3 : Int) (p0_4 : Int) (p0_5 : List Int) (Kk : Out → Option ρ) : ∀ (n : Nat) (v20 : List Int) (v21 : Int) (v22 : Int) (c4112_0 : Int) (c7200_0 : Int) (c7200_1 : Int) (c7200_2 : List Int) (c7200_3 : Int) (c7200_4 : Int) (c7200_5 : List Int), D_impl_HarderPuzzle_0 1 fuel p0_0 p0_1 p0_2 p0_3 p0_4 p0_5  n v20 v21 v22 c4112_0 c7200_0 c7200_1 c7200_2 c7200_3 c7200_4 c7200_5 Kk = F_impl_HarderPuzzle_0 fuel   (fun r1 r2 r3 r4 r5 r6 r7 => Kk ⟨[.agg [.int .i64 r1, .int .i64 r2, .sl (.ints .i64 r3), .int .i64 r4, .int .i64 r5, .sl (.ints .i64 r6)], .x (.bool r7)], []⟩) n v20 v21 v22 c4112_0 c7200_0 c7200_1 c7200_2 c7200_3 c7200_4 c7200_5 := by
  intro n
  induction n with
  | zero => intros; rfl
  | succ n ih =>
    intro v20 v21 v22 c4112_0 c7200_0 c7200_1 c7200_2 c7200_3 c7200_4 c7200_5
    rw [s_impl_HarderPuzzle_0, F_impl_HarderPuzzle_0]
    try simp only [ih]
def F_impl_HarderPuzzle {ρ : Type} (fuel : Nat) (p0_0 : Int) (p0_1 : Int) (p0_2 : List Int) (p0_3 : Int) (p0_4 : Int) (p0_5 : List Int)  (K : Int → Int → List Int → Int → Int → List Int → Bool → Option ρ) : Option ρ := S_impl_HarderPuzzle_e p0_0 p0_1 p0_2 p0_3 p0_4 p0_5  (F_impl_HarderPuzzle_0 fuel   K fuel) K
theorem f_impl_HarderPuzzle {ρ : Type} (fuel : Nat) (p0_0 : Int) (p0_1 : Int) (p0_2 : List Int) (p0_3 : Int) (p0_4 : Int) (p0_5 : List Int) (Kk : Out → Option ρ) : runFn TT E_impl_HarderPuzzle (kp_impl_HarderPuzzle 1) fuel [.val] 1 false [[], []] 44 [.cell 2 35, .tmp 3] b_impl_HarderPuzzle [.agg [.int .i64 p0_0, .int .i64 p0_1, .sl (.ints .i64 p0_2), .int .i64 p0_3, .int .i64 p0_4, .sl (.ints .i64 p0_5)]] Kk = F_impl_HarderPuzzle fuel p0_0 p0_1 p0_2 p0_3 p0_4 p0_5 (fun r1 r2 r3 r4 r5 r6 r7 => Kk ⟨[.agg [.int .i64 r1, .int .i64 r2, .sl (.ints .i64 r3), .int .i64 r4, .int .i64 r5, .sl (.ints .i64 r6)], .x (.bool r7)], []⟩) := by
  rw [s_impl_HarderPuzzle_e, F_impl_HarderPuzzle]
  try simp only [f_impl_HarderPuzzle_0]
noncomputable def sh_impl_HarderPuzzle (p0_0 : Int) (p0_1 : Int) (p0_2 : List Int) (p0_3 : Int) (p0_4 : Int) (p0_5 : List Int) : Option (Int × Int × List Int × Int × Int × List Int × Bool) := val fun n => F_impl_HarderPuzzle n p0_0 p0_1 p0_2 p0_3 p0_4 p0_5 (fun r1 r2 r3 r4 r5 r6 r7 => some (r1, r2, r3, r4, r5, r6, r7))
noncomputable def G_impl_HarderPuzzle {ρ : Type} : List DU → (Out → Option ρ) → Option ρ
  | [.agg [.int .i64 p0_0, .int .i64 p0_1, .sl (.ints .i64 p0_2), .int .i64 p0_3, .int .i64 p0_4, .sl (.ints .i64 p0_5)]], K => (sh_impl_HarderPuzzle p0_0 p0_1 p0_2 p0_3 p0_4 p0_5).bind fun r => K ⟨[.agg [.int .i64 r.1, .int .i64 r.2.1, .sl (.ints .i64 r.2.2.1), .int .i64 r.2.2.2.1, .int .i64 r.2.2.2.2.1, .sl (.ints .i64 r.2.2.2.2.2.1)], .x (.bool r.2.2.2.2.2.2)], []⟩
  | _, _ => none
noncomputable def o_impl_HarderPuzzle : Ora := ⟨[.val], 1, false, G_impl_HarderPuzzle⟩
def un_impl_HarderPuzzle : Out → Option (Int × Int × List Int × Int × Int × List Int × Bool)
  | ⟨[.agg [.int .i64 r1, .int .i64 r2, .sl (.ints .i64 r3), .int .i64 r4, .int .i64 r5, .sl (.ints .i64 r6)], .x (.bool r7)], []⟩ => some (r1, r2, r3, r4, r5, r6, r7)
  | _ => none
theorem un_impl_HarderPuzzle_ok {o : Out} {r : Int × Int × List Int × Int × Int × List Int × Bool} (h : un_impl_HarderPuzzle o = some r) : o = ⟨[.agg [.int .i64 r.1, .int .i64 r.2.1, .sl (.ints .i64 r.2.2.1), .int .i64 r.2.2.2.1, .int .i64 r.2.2.2.2.1, .sl (.ints .i64 r.2.2.2.2.2.1)], .x (.bool r.2.2.2.2.2.2)], []⟩ := by
  unfold un_impl_HarderPuzzle at h
  split at h
  · injection h with h
    subst h
    rfl
  · cases h
theorem n_impl_HarderPuzzle : ∀ k o, E_impl_HarderPuzzle.fn k = some o → Nat1 o := fun k o h => (ook_list (P := Try.prog) (l := O_impl_HarderPuzzle) (fk := E_impl_HarderPuzzle.fk) (List.forall_mem_cons.2 ⟨m_impl_IsPuzzle, (List.forall_mem_cons.2 ⟨m_impl_Puzzle_solve, (List.forall_mem_cons.2 ⟨m_impl_Puzzle_own, (List.forall_mem_nil _)⟩)⟩)⟩)).nat k o h
theorem u_impl_HarderPuzzle (fuel : Nat) (p0_0 : Int) (p0_1 : Int) (p0_2 : List Int) (p0_3 : Int) (p0_4 : Int) (p0_5 : List Int) : runFn TT E_impl_HarderPuzzle (kp_impl_HarderPuzzle 1) fuel [.val] 1 false [[], []] 44 [.cell 2 35, .tmp 3] b_impl_HarderPuzzle [.agg [.int .i64 p0_0, .int .i64 p0_1, .sl (.ints .i64 p0_2), .int .i64 p0_3, .int .i64 p0_4, .sl (.ints .i64 p0_5)]] un_impl_HarderPuzzle = F_impl_HarderPuzzle fuel p0_0 p0_1 p0_2 p0_3 p0_4 p0_5 (fun r1 r2 r3 r4 r5 r6 r7 => some (r1, r2, r3, r4, r5, r6, r7)) := f_impl_HarderPuzzle fuel p0_0 p0_1 p0_2 p0_3 p0_4 p0_5 un_impl_HarderPuzzle
theorem sh_impl_HarderPuzzle_of {n : Nat} {p0_0 : Int} {p0_1 : Int} {p0_2 : List Int} {p0_3 : Int} {p0_4 : Int} {p0_5 : List Int} {r : Int × Int × List Int × Int × Int × List Int × Bool} (h : F_impl_HarderPuzzle n p0_0 p0_1 p0_2 p0_3 p0_4 p0_5 (fun r1 r2 r3 r4 r5 r6 r7 => some (r1, r2, r3, r4, r5, r6, r7)) = some r) : sh_impl_HarderPuzzle p0_0 p0_1 p0_2 p0_3 p0_4 p0_5 = some r := val_of (fun n m r hm h => by rw [← u_impl_HarderPuzzle] at h ⊢; exact runFn_mono n_impl_HarderPuzzle hm h) h
theorem m_impl_HarderPuzzle : MeetsO Try.prog 31 o_impl_HarderPuzzle := by
  refine ⟨fun ρ ds K => ?_, ⟨_, meets_run (kp := kp_impl_HarderPuzzle 1) (weak := false) (df := [[], []]) tsOk (ook_list (l := O_impl_HarderPuzzle) (fk := E_impl_HarderPuzzle.fk) (List.forall_mem_cons.2 ⟨m_impl_IsPuzzle, (List.forall_mem_cons.2 ⟨m_impl_Puzzle_solve, (List.forall_mem_cons.2 ⟨m_impl_Puzzle_own, (List.forall_mem_nil _)⟩)⟩)⟩)) mixed Try.func31 (body := b_impl_HarderPuzzle) (by kernel_rfl) (ntmps := 44) (by kernel_rfl) (rs := [.cell 2 35, .tmp 3]) (by kernel_rfl), fun ds out h => ?_⟩, ⟨_, Try.func31, by kernel_rfl, by kernel_rfl⟩⟩
  · show G_impl_HarderPuzzle ds K = (G_impl_HarderPuzzle ds some).bind K
    unfold G_impl_HarderPuzzle
    split
    · cases sh_impl_HarderPuzzle _ _ _ _ _ _ <;> rfl
    · rfl
  · replace h : G_impl_HarderPuzzle ds some = some out := h
    unfold G_impl_HarderPuzzle at h
    split at h
    · obtain ⟨r, hr, h⟩ := Option.bind_eq_some_iff.1 h
      injection h with h
      subst h
      obtain ⟨n, hn⟩ := val_some hr
      replace hn := (u_impl_HarderPuzzle n _ _ _ _ _ _).trans hn
      rw [runFn_bind (K := un_impl_HarderPuzzle) (K' := some) (f := un_impl_HarderPuzzle) n_impl_HarderPuzzle (fun _ => rfl)] at hn
      obtain ⟨o, h1, h2⟩ := Option.bind_eq_some_iff.1 hn
      rw [un_impl_HarderPuzzle_ok h2] at h1
      exact ⟨n, h1⟩
    · cases h
/-! f17 loop.example.g01239.laws.eqIntS -/
noncomputable def b_laws_eqIntS : Code := Try.f17.body.getD .skip
def kp_laws_eqIntS (g : Nat) : Nat → Option Keep := lk [(4, ⟨[], [0, 1, 5], [], [], [], g⟩)]
def O_laws_eqIntS : List (FuncId × Ora) := []
def E_laws_eqIntS : Env := ⟨lk O_laws_eqIntS, fun _ => false⟩
noncomputable def D_laws_eqIntS_0 {ρ : Type} (g fuel : Nat) (p0 : List Int) (p1 : List Int) (n : Nat) (v0 : List Int) (v1 : List Int) (v5 : Int) (Kk : Out → Option ρ) : Option ρ :=
  iter (run TT E_laws_eqIntS (kp_laws_eqIntS g) fuel (cL (cB (cS2 (cS1 (cS2 (cS2 (b_laws_eqIntS)))))))) (nrmAt (kp_laws_eqIntS g) (firstRid (cL (cB (cS2 (cS1 (cS2 (cS2 (b_laws_eqIntS))))))))) n (⟨[.u (.x (.ro (.ints .i64 v0))), .u (.x (.ro (.ints .i64 v1))), uu, uu, uu, .u (.x (.int .i64 v5)), uu, uu, uu, uu, uu, uu, uu, uu, uu, uu, uu, uu, uu, uu, uu, uu, uu, uu, uu, uu], [], [], []⟩) (blkK 0 (seqK (gateAt (kp_laws_eqIntS g) (200000 + firstRid (cS2 (cS2 (cS2 (b_laws_eqIntS)))))) (run TT E_laws_eqIntS (kp_laws_eqIntS g) fuel (cS2 (cS2 (cS2 (b_laws_eqIntS))))) (nrmAt (kp_laws_eqIntS g) (200000 + firstRid (cS2 (cS2 (cS2 (b_laws_eqIntS)))))) (topK TT [.val, .val] false [[]] [.tmp 4] [.x (.sl (.ints .i64 p0)), .x (.sl (.ints .i64 p1))] Kk)))
def S_laws_eqIntS_e {ρ : Type} (p0 : List Int) (p1 : List Int)  (k0 : (List Int → List Int → Int → Option ρ)) (K : Bool → Option ρ) : Option ρ :=
  (bif !decide ((p0.length : Int) = (p1.length : Int)) then K false else k0 p0 p1 (0 : Int))
theorem s_laws_eqIntS_e {ρ : Type} (g fuel : Nat) (p0 : List Int) (p1 : List Int) (Kk : Out → Option ρ) : runFn TT E_laws_eqIntS (kp_laws_eqIntS g) fuel [.val, .val] 2 false [[]] 26 [.tmp 4] b_laws_eqIntS [.x (.sl (.ints .i64 p0)), .x (.sl (.ints .i64 p1))] Kk = S_laws_eqIntS_e p0 p1  (fun v0 v1 v5 => D_laws_eqIntS_0 g fuel p0 p1 fuel v0 v1 v5 Kk) (fun r1 => Kk ⟨[.x (.bool r1)], []⟩) := by
  kernel_rfl
def S_laws_eqIntS_0 {ρ : Type}  (v0 : List Int) (v1 : List Int) (v5 : Int) (b0 : (List Int → List Int → Int → Option ρ)) (K : Bool → Option ρ) : Option ρ :=
  (bif decide (v5 < (v0.length : Int)) then (if 0 ≤ v5 then (if v5 < (v0.length : Int) then (if 0 ≤ v5 then (if v5 < (v1.length : Int) then (bif !decide ((v0.getD v5.toNat 0) = (v1.getD v5.toNat 0)) then K false else b0 v0 v1 (IntKind.i64.wrap (v5 + (1 : Int)))) else none) else none) else none) else none) else K true)
theorem s_laws_eqIntS_0 {ρ : Type} (g fuel : Nat) (p0 : List Int) (p1 : List Int) (n : Nat) (v0 : List Int) (v1 : List Int) (v5 : Int) (Kk : Out → Option ρ) : D_laws_eqIntS_0 g fuel p0 p1  (n + 1) v0 v1 v5 Kk = S_laws_eqIntS_0  v0 v1 v5 (fun v0 v1 v5 => D_laws_eqIntS_0 g fuel p0 p1 n v0 v1 v5 Kk) (fun r1 => Kk ⟨[.x (.bool r1)], []⟩) := by
  kernel_rfl
def F_laws_eqIntS_0 {ρ : Type} (fuel : Nat)   (K : Bool → Option ρ) : Nat → List Int → List Int → Int → Option ρ
  | 0, _, _, _ => none
  | n + 1, v0, v1, v5 => S_laws_eqIntS_0  v0 v1 v5 (F_laws_eqIntS_0 fuel   K n) K
theorem f_laws_eqIntS_0 {ρ : Type} (fuel : Nat) (p0 : List Int) (p1 : List Int) (Kk : Out → Option ρ) : ∀ (n : Nat) (v0 : List Int) (v1 : List Int) (v5 : Int), D_laws_eqIntS_0 1 fuel p0 p1  n v0 v1 v5 Kk = F_laws_eqIntS_0 fuel   (fun r1 => Kk ⟨[.x (.bool r1)], []⟩) n v0 v1 v5 := by
  intro n
  induction n with
  | zero => intros; rfl
  | succ n ih =>
    intro v0 v1 v5
    rw [s_laws_eqIntS_0, F_laws_eqIntS_0]
    try simp only [ih]
def F_laws_eqIntS {ρ : Type} (fuel : Nat) (p0 : List Int) (p1 : List Int)  (K : Bool → Option ρ) : Option ρ := S_laws_eqIntS_e p0 p1  (F_laws_eqIntS_0 fuel   K fuel) K
theorem f_laws_eqIntS {ρ : Type} (fuel : Nat) (p0 : List Int) (p1 : List Int) (Kk : Out → Option ρ) : runFn TT E_laws_eqIntS (kp_laws_eqIntS 1) fuel [.val, .val] 2 false [[]] 26 [.tmp 4] b_laws_eqIntS [.x (.sl (.ints .i64 p0)), .x (.sl (.ints .i64 p1))] Kk = F_laws_eqIntS fuel p0 p1 (fun r1 => Kk ⟨[.x (.bool r1)], []⟩) := by
  rw [s_laws_eqIntS_e, F_laws_eqIntS]
  try simp only [f_laws_eqIntS_0]
noncomputable def sh_laws_eqIntS (p0 : List Int) (p1 : List Int) : Option (Bool) := val fun n => F_laws_eqIntS n p0 p1 (fun r1 => some r1)
noncomputable def G_laws_eqIntS {ρ : Type} : List DU → (Out → Option ρ) → Option ρ
  | [.x (.sl (.ints .i64 p0)), .x (.sl (.ints .i64 p1))], K => (sh_laws_eqIntS p0 p1).bind fun r => K ⟨[.x (.bool r)], []⟩
  | _, _ => none
noncomputable def o_laws_eqIntS : Ora := ⟨[.val, .val], 2, false, G_laws_eqIntS⟩
def un_laws_eqIntS : Out → Option (Bool)
  | ⟨[.x (.bool r1)], []⟩ => some r1
  | _ => none
theorem un_laws_eqIntS_ok {o : Out} {r : Bool} (h : un_laws_eqIntS o = some r) : o = ⟨[.x (.bool r)], []⟩ := by
  unfold un_laws_eqIntS at h
  split at h
  · injection h with h
    subst h
    rfl
  · cases h
theorem n_laws_eqIntS : ∀ k o, E_laws_eqIntS.fn k = some o → Nat1 o := fun k o h => (ook_list (P := Try.prog) (l := O_laws_eqIntS) (fk := E_laws_eqIntS.fk) (List.forall_mem_nil _)).nat k o h
theorem u_laws_eqIntS (fuel : Nat) (p0 : List Int) (p1 : List Int) : runFn TT E_laws_eqIntS (kp_laws_eqIntS 1) fuel [.val, .val] 2 false [[]] 26 [.tmp 4] b_laws_eqIntS [.x (.sl (.ints .i64 p0)), .x (.sl (.ints .i64 p1))] un_laws_eqIntS = F_laws_eqIntS fuel p0 p1 (fun r1 => some r1) := f_laws_eqIntS fuel p0 p1 un_laws_eqIntS
theorem sh_laws_eqIntS_of {n : Nat} {p0 : List Int} {p1 : List Int} {r : Bool} (h : F_laws_eqIntS n p0 p1 (fun r1 => some r1) = some r) : sh_laws_eqIntS p0 p1 = some r := val_of (fun n m r hm h => by rw [← u_laws_eqIntS] at h ⊢; exact runFn_mono n_laws_eqIntS hm h) h
theorem m_laws_eqIntS : MeetsO Try.prog 17 o_laws_eqIntS := by
  refine ⟨fun ρ ds K => ?_, ⟨_, meets_run (kp := kp_laws_eqIntS 1) (weak := false) (df := [[]]) tsOk (ook_list (l := O_laws_eqIntS) (fk := E_laws_eqIntS.fk) (List.forall_mem_nil _)) mixed Try.func17 (body := b_laws_eqIntS) (by kernel_rfl) (ntmps := 26) (by kernel_rfl) (rs := [.tmp 4]) (by kernel_rfl), fun ds out h => ?_⟩, ⟨_, Try.func17, by kernel_rfl, by kernel_rfl⟩⟩
  · show G_laws_eqIntS ds K = (G_laws_eqIntS ds some).bind K
    unfold G_laws_eqIntS
    split
    · cases sh_laws_eqIntS _ _ <;> rfl
    · rfl
  · replace h : G_laws_eqIntS ds some = some out := h
    unfold G_laws_eqIntS at h
    split at h
    · obtain ⟨r, hr, h⟩ := Option.bind_eq_some_iff.1 h
      injection h with h
      subst h
      obtain ⟨n, hn⟩ := val_some hr
      replace hn := (u_laws_eqIntS n _ _).trans hn
      rw [runFn_bind (K := un_laws_eqIntS) (K' := some) (f := un_laws_eqIntS) n_laws_eqIntS (fun _ => rfl)] at hn
      obtain ⟨o, h1, h2⟩ := Option.bind_eq_some_iff.1 hn
      rw [un_laws_eqIntS_ok h2] at h1
      exact ⟨n, h1⟩
    · cases h
/-! f51 loop.example.g01239.laws.eqBoard -/
noncomputable def b_laws_eqBoard : Code := Try.f51.body.getD .skip
def kp_laws_eqBoard (g : Nat) : Nat → Option Keep := lk []
def O_laws_eqBoard : List (FuncId × Ora) := [(17, o_laws_eqIntS)]
def E_laws_eqBoard : Env := ⟨lk O_laws_eqBoard, fun _ => false⟩
def S_laws_eqBoard_e {ρ : Type} (p0_0 : Int) (p0_1 : Int) (p0_2 : List Int) (p1_0 : Int) (p1_1 : Int) (p1_2 : List Int)   (K : Bool → Option ρ) : Option ρ :=
  (bif !decide (p0_0 = p1_0) then K false else (bif !decide (p0_1 = p1_1) then K false else ((sh_laws_eqIntS p0_2 p1_2).bind fun r1 => (bif !r1 then K false else K true))))
theorem s_laws_eqBoard_e {ρ : Type} (g fuel : Nat) (p0_0 : Int) (p0_1 : Int) (p0_2 : List Int) (p1_0 : Int) (p1_1 : Int) (p1_2 : List Int) (Kk : Out → Option ρ) : runFn TT E_laws_eqBoard (kp_laws_eqBoard g) fuel [.val, .val] 2 false [[]] 21 [.tmp 4] b_laws_eqBoard [.agg [.int .i64 p0_0, .int .i64 p0_1, .sl (.ints .i64 p0_2)], .agg [.int .i64 p1_0, .int .i64 p1_1, .sl (.ints .i64 p1_2)]] Kk = S_laws_eqBoard_e p0_0 p0_1 p0_2 p1_0 p1_1 p1_2   (fun r1 => Kk ⟨[.x (.bool r1)], []⟩) := by
  kernel_rfl
def F_laws_eqBoard {ρ : Type} (fuel : Nat) (p0_0 : Int) (p0_1 : Int) (p0_2 : List Int) (p1_0 : Int) (p1_1 : Int) (p1_2 : List Int)  (K : Bool → Option ρ) : Option ρ := S_laws_eqBoard_e p0_0 p0_1 p0_2 p1_0 p1_1 p1_2   K
theorem f_laws_eqBoard {ρ : Type} (fuel : Nat) (p0_0 : Int) (p0_1 : Int) (p0_2 : List Int) (p1_0 : Int) (p1_1 : Int) (p1_2 : List Int) (Kk : Out → Option ρ) : runFn TT E_laws_eqBoard (kp_laws_eqBoard 1) fuel [.val, .val] 2 false [[]] 21 [.tmp 4] b_laws_eqBoard [.agg [.int .i64 p0_0, .int .i64 p0_1, .sl (.ints .i64 p0_2)], .agg [.int .i64 p1_0, .int .i64 p1_1, .sl (.ints .i64 p1_2)]] Kk = F_laws_eqBoard fuel p0_0 p0_1 p0_2 p1_0 p1_1 p1_2 (fun r1 => Kk ⟨[.x (.bool r1)], []⟩) := by
  rw [s_laws_eqBoard_e, F_laws_eqBoard]
noncomputable def sh_laws_eqBoard (p0_0 : Int) (p0_1 : Int) (p0_2 : List Int) (p1_0 : Int) (p1_1 : Int) (p1_2 : List Int) : Option (Bool) := F_laws_eqBoard 0 p0_0 p0_1 p0_2 p1_0 p1_1 p1_2 (fun r1 => some r1)
noncomputable def G_laws_eqBoard {ρ : Type} : List DU → (Out → Option ρ) → Option ρ
  | [.agg [.int .i64 p0_0, .int .i64 p0_1, .sl (.ints .i64 p0_2)], .agg [.int .i64 p1_0, .int .i64 p1_1, .sl (.ints .i64 p1_2)]], K => (sh_laws_eqBoard p0_0 p0_1 p0_2 p1_0 p1_1 p1_2).bind fun r => K ⟨[.x (.bool r)], []⟩
  | _, _ => none
noncomputable def o_laws_eqBoard : Ora := ⟨[.val, .val], 2, false, G_laws_eqBoard⟩
def un_laws_eqBoard : Out → Option (Bool)
  | ⟨[.x (.bool r1)], []⟩ => some r1
  | _ => none
theorem un_laws_eqBoard_ok {o : Out} {r : Bool} (h : un_laws_eqBoard o = some r) : o = ⟨[.x (.bool r)], []⟩ := by
  unfold un_laws_eqBoard at h
  split at h
  · injection h with h
    subst h
    rfl
  · cases h
theorem n_laws_eqBoard : ∀ k o, E_laws_eqBoard.fn k = some o → Nat1 o := fun k o h => (ook_list (P := Try.prog) (l := O_laws_eqBoard) (fk := E_laws_eqBoard.fk) (List.forall_mem_cons.2 ⟨m_laws_eqIntS, (List.forall_mem_nil _)⟩)).nat k o h
theorem u_laws_eqBoard (fuel : Nat) (p0_0 : Int) (p0_1 : Int) (p0_2 : List Int) (p1_0 : Int) (p1_1 : Int) (p1_2 : List Int) : runFn TT E_laws_eqBoard (kp_laws_eqBoard 1) fuel [.val, .val] 2 false [[]] 21 [.tmp 4] b_laws_eqBoard [.agg [.int .i64 p0_0, .int .i64 p0_1, .sl (.ints .i64 p0_2)], .agg [.int .i64 p1_0, .int .i64 p1_1, .sl (.ints .i64 p1_2)]] un_laws_eqBoard = F_laws_eqBoard fuel p0_0 p0_1 p0_2 p1_0 p1_1 p1_2 (fun r1 => some r1) := f_laws_eqBoard fuel p0_0 p0_1 p0_2 p1_0 p1_1 p1_2 un_laws_eqBoard
theorem m_laws_eqBoard : MeetsO Try.prog 51 o_laws_eqBoard := by
  refine ⟨fun ρ ds K => ?_, ⟨_, meets_run (kp := kp_laws_eqBoard 1) (weak := false) (df := [[]]) tsOk (ook_list (l := O_laws_eqBoard) (fk := E_laws_eqBoard.fk) (List.forall_mem_cons.2 ⟨m_laws_eqIntS, (List.forall_mem_nil _)⟩)) mixed Try.func51 (body := b_laws_eqBoard) (by kernel_rfl) (ntmps := 21) (by kernel_rfl) (rs := [.tmp 4]) (by kernel_rfl), fun ds out h => ?_⟩, ⟨_, Try.func51, by kernel_rfl, by kernel_rfl⟩⟩
  · show G_laws_eqBoard ds K = (G_laws_eqBoard ds some).bind K
    unfold G_laws_eqBoard
    split
    · cases sh_laws_eqBoard _ _ _ _ _ _ <;> rfl
    · rfl
  · replace h : G_laws_eqBoard ds some = some out := h
    unfold G_laws_eqBoard at h
    split at h
    · obtain ⟨r, hr, h⟩ := Option.bind_eq_some_iff.1 h
      injection h with h
      subst h
      have hn := (u_laws_eqBoard 0 _ _ _ _ _ _).trans hr
      rw [runFn_bind (K := un_laws_eqBoard) (K' := some) (f := un_laws_eqBoard) n_laws_eqBoard (fun _ => rfl)] at hn
      obtain ⟨o, h1, h2⟩ := Option.bind_eq_some_iff.1 hn
      rw [un_laws_eqBoard_ok h2] at h1
      exact ⟨0, h1⟩
    · cases h
/-! f52 loop.example.g01239.laws.eqLeaper -/
noncomputable def b_laws_eqLeaper : Code := Try.f52.body.getD .skip
def kp_laws_eqLeaper (g : Nat) : Nat → Option Keep := lk []
def O_laws_eqLeaper : List (FuncId × Ora) := []
def E_laws_eqLeaper : Env := ⟨lk O_laws_eqLeaper, fun _ => false⟩
def S_laws_eqLeaper_e {ρ : Type} (p0_0 : Int) (p0_1 : Int) (p1_0 : Int) (p1_1 : Int)   (K : Bool → Option ρ) : Option ρ :=
  (bif !decide (p0_0 = p1_0) then K false else (bif !decide (p0_1 = p1_1) then K false else K true))
theorem s_laws_eqLeaper_e {ρ : Type} (g fuel : Nat) (p0_0 : Int) (p0_1 : Int) (p1_0 : Int) (p1_1 : Int) (Kk : Out → Option ρ) : runFn TT E_laws_eqLeaper (kp_laws_eqLeaper g) fuel [.val, .val] 2 false [[]] 15 [.tmp 4] b_laws_eqLeaper [.agg [.int .i64 p0_0, .int .i64 p0_1], .agg [.int .i64 p1_0, .int .i64 p1_1]] Kk = S_laws_eqLeaper_e p0_0 p0_1 p1_0 p1_1   (fun r1 => Kk ⟨[.x (.bool r1)], []⟩) := by
  kernel_rfl
def F_laws_eqLeaper {ρ : Type} (fuel : Nat) (p0_0 : Int) (p0_1 : Int) (p1_0 : Int) (p1_1 : Int)  (K : Bool → Option ρ) : Option ρ := S_laws_eqLeaper_e p0_0 p0_1 p1_0 p1_1   K
theorem f_laws_eqLeaper {ρ : Type} (fuel : Nat) (p0_0 : Int) (p0_1 : Int) (p1_0 : Int) (p1_1 : Int) (Kk : Out → Option ρ) : runFn TT E_laws_eqLeaper (kp_laws_eqLeaper 1) fuel [.val, .val] 2 false [[]] 15 [.tmp 4] b_laws_eqLeaper [.agg [.int .i64 p0_0, .int .i64 p0_1], .agg [.int .i64 p1_0, .int .i64 p1_1]] Kk = F_laws_eqLeaper fuel p0_0 p0_1 p1_0 p1_1 (fun r1 => Kk ⟨[.x (.bool r1)], []⟩) := by
  rw [s_laws_eqLeaper_e, F_laws_eqLeaper]
noncomputable def sh_laws_eqLeaper (p0_0 : Int) (p0_1 : Int) (p1_0 : Int) (p1_1 : Int) : Option (Bool) := F_laws_eqLeaper 0 p0_0 p0_1 p1_0 p1_1 (fun r1 => some r1)
noncomputable def G_laws_eqLeaper {ρ : Type} : List DU → (Out → Option ρ) → Option ρ
  | [.agg [.int .i64 p0_0, .int .i64 p0_1], .agg [.int .i64 p1_0, .int .i64 p1_1]], K => (sh_laws_eqLeaper p0_0 p0_1 p1_0 p1_1).bind fun r => K ⟨[.x (.bool r)], []⟩
  | _, _ => none
noncomputable def o_laws_eqLeaper : Ora := ⟨[.val, .val], 2, false, G_laws_eqLeaper⟩
def un_laws_eqLeaper : Out → Option (Bool)
  | ⟨[.x (.bool r1)], []⟩ => some r1
  | _ => none
theorem un_laws_eqLeaper_ok {o : Out} {r : Bool} (h : un_laws_eqLeaper o = some r) : o = ⟨[.x (.bool r)], []⟩ := by
  unfold un_laws_eqLeaper at h
  split at h
  · injection h with h
    subst h
    rfl
  · cases h
theorem n_laws_eqLeaper : ∀ k o, E_laws_eqLeaper.fn k = some o → Nat1 o := fun k o h => (ook_list (P := Try.prog) (l := O_laws_eqLeaper) (fk := E_laws_eqLeaper.fk) (List.forall_mem_nil _)).nat k o h
theorem u_laws_eqLeaper (fuel : Nat) (p0_0 : Int) (p0_1 : Int) (p1_0 : Int) (p1_1 : Int) : runFn TT E_laws_eqLeaper (kp_laws_eqLeaper 1) fuel [.val, .val] 2 false [[]] 15 [.tmp 4] b_laws_eqLeaper [.agg [.int .i64 p0_0, .int .i64 p0_1], .agg [.int .i64 p1_0, .int .i64 p1_1]] un_laws_eqLeaper = F_laws_eqLeaper fuel p0_0 p0_1 p1_0 p1_1 (fun r1 => some r1) := f_laws_eqLeaper fuel p0_0 p0_1 p1_0 p1_1 un_laws_eqLeaper
theorem m_laws_eqLeaper : MeetsO Try.prog 52 o_laws_eqLeaper := by
  refine ⟨fun ρ ds K => ?_, ⟨_, meets_run (kp := kp_laws_eqLeaper 1) (weak := false) (df := [[]]) tsOk (ook_list (l := O_laws_eqLeaper) (fk := E_laws_eqLeaper.fk) (List.forall_mem_nil _)) mixed Try.func52 (body := b_laws_eqLeaper) (by kernel_rfl) (ntmps := 15) (by kernel_rfl) (rs := [.tmp 4]) (by kernel_rfl), fun ds out h => ?_⟩, ⟨_, Try.func52, by kernel_rfl, by kernel_rfl⟩⟩
  · show G_laws_eqLeaper ds K = (G_laws_eqLeaper ds some).bind K
    unfold G_laws_eqLeaper
    split
    · cases sh_laws_eqLeaper _ _ _ _ <;> rfl
    · rfl
  · replace h : G_laws_eqLeaper ds some = some out := h
    unfold G_laws_eqLeaper at h
    split at h
    · obtain ⟨r, hr, h⟩ := Option.bind_eq_some_iff.1 h
      injection h with h
      subst h
      have hn := (u_laws_eqLeaper 0 _ _ _ _).trans hr
      rw [runFn_bind (K := un_laws_eqLeaper) (K' := some) (f := un_laws_eqLeaper) n_laws_eqLeaper (fun _ => rfl)] at hn
      obtain ⟨o, h1, h2⟩ := Option.bind_eq_some_iff.1 hn
      rw [un_laws_eqLeaper_ok h2] at h1
      exact ⟨0, h1⟩
    · cases h
/-! f14 loop.example.g01239.laws.eqPuzzle -/
noncomputable def b_laws_eqPuzzle : Code := Try.f14.body.getD .skip
def kp_laws_eqPuzzle (g : Nat) : Nat → Option Keep := lk []
def O_laws_eqPuzzle : List (FuncId × Ora) := [(17, o_laws_eqIntS), (51, o_laws_eqBoard), (52, o_laws_eqLeaper)]
def E_laws_eqPuzzle : Env := ⟨lk O_laws_eqPuzzle, fun _ => false⟩
def S_laws_eqPuzzle_e {ρ : Type} (p0_0 : Int) (p0_1 : Int) (p0_2 : List Int) (p0_3 : Int) (p0_4 : Int) (p0_5 : List Int) (p1_0 : Int) (p1_1 : Int) (p1_2 : List Int) (p1_3 : Int) (p1_4 : Int) (p1_5 : List Int)   (K : Bool → Option ρ) : Option ρ :=
  ((sh_laws_eqBoard p0_0 p0_1 p0_2 p1_0 p1_1 p1_2).bind fun r1 => (bif !r1 then K false else ((sh_laws_eqLeaper p0_3 p0_4 p1_3 p1_4).bind fun r2 => (bif !r2 then K false else ((sh_laws_eqIntS p0_5 p1_5).bind fun r3 => (bif !r3 then K false else K true))))))
theorem s_laws_eqPuzzle_e {ρ : Type} (g fuel : Nat) (p0_0 : Int) (p0_1 : Int) (p0_2 : List Int) (p0_3 : Int) (p0_4 : Int) (p0_5 : List Int) (p1_0 : Int) (p1_1 : Int) (p1_2 : List Int) (p1_3 : Int) (p1_4 : Int) (p1_5 : List Int) (Kk : Out → Option ρ) : runFn TT E_laws_eqPuzzle (kp_laws_eqPuzzle g) fuel [.val, .val] 2 false [[]] 23 [.tmp 4] b_laws_eqPuzzle [.agg [.int .i64 p0_0, .int .i64 p0_1, .sl (.ints .i64 p0_2), .int .i64 p0_3, .int .i64 p0_4, .sl (.ints .i64 p0_5)], .agg [.int .i64 p1_0, .int .i64 p1_1, .sl (.ints .i64 p1_2), .int .i64 p1_3, .int .i64 p1_4, .sl (.ints .i64 p1_5)]] Kk = S_laws_eqPuzzle_e p0_0 p0_1 p0_2 p0_3 p0_4 p0_5 p1_0 p1_1 p1_2 p1_3 p1_4 p1_5   (fun r1 => Kk ⟨[.x (.bool r1)], []⟩) := by
  kernel_rfl
def F_laws_eqPuzzle {ρ : Type} (fuel : Nat) (p0_0 : Int) (p0_1 : Int) (p0_2 : List Int) (p0_3 : Int) (p0_4 : Int) (p0_5 : List Int) (p1_0 : Int) (p1_1 : Int) (p1_2 : List Int) (p1_3 : Int) (p1_4 : Int) (p1_5 : List Int)  (K : Bool → Option ρ) : Option ρ := S_laws_eqPuzzle_e p0_0 p0_1 p0_2 p0_3 p0_4 p0_5 p1_0 p1_1 p1_2 p1_3 p1_4 p1_5   K
theorem f_laws_eqPuzzle {ρ : Type} (fuel : Nat) (p0_0 : Int) (p0_1 : Int) (p0_2 : List Int) (p0_3 : Int) (p0_4 : Int) (p0_5 : List Int) (p1_0 : Int) (p1_1 : Int) (p1_2 : List Int) (p1_3 : Int) (p1_4 : Int) (p1_5 : List Int) (Kk : Out → Option ρ) : runFn TT E_laws_eqPuzzle (kp_laws_eqPuzzle 1) fuel [.val, .val] 2 false [[]] 23 [.tmp 4] b_laws_eqPuzzle [.agg [.int .i64 p0_0, .int .i64 p0_1, .sl (.ints .i64 p0_2), .int .i64 p0_3, .int .i64 p0_4, .sl (.ints .i64 p0_5)], .agg [.int .i64 p1_0, .int .i64 p1_1, .sl (.ints .i64 p1_2), .int .i64 p1_3, .int .i64 p1_4, .sl (.ints .i64 p1_5)]] Kk = F_laws_eqPuzzle fuel p0_0 p0_1 p0_2 p0_3 p0_4 p0_5 p1_0 p1_1 p1_2 p1_3 p1_4 p1_5 (fun r1 => Kk ⟨[.x (.bool r1)], []⟩) := by
  rw [s_laws_eqPuzzle_e, F_laws_eqPuzzle]
noncomputable def sh_laws_eqPuzzle (p0_0 : Int) (p0_1 : Int) (p0_2 : List Int) (p0_3 : Int) (p0_4 : Int) (p0_5 : List Int) (p1_0 : Int) (p1_1 : Int) (p1_2 : List Int) (p1_3 : Int) (p1_4 : Int) (p1_5 : List Int) : Option (Bool) := F_laws_eqPuzzle 0 p0_0 p0_1 p0_2 p0_3 p0_4 p0_5 p1_0 p1_1 p1_2 p1_3 p1_4 p1_5 (fun r1 => some r1)
noncomputable def G_laws_eqPuzzle {ρ : Type} : List DU → (Out → Option ρ) → Option ρ
  | [.agg [.int .i64 p0_0, .int .i64 p0_1, .sl (.ints .i64 p0_2), .int .i64 p0_3, .int .i64 p0_4, .sl (.ints .i64 p0_5)], .agg [.int .i64 p1_0, .int .i64 p1_1, .sl (.ints .i64 p1_2), .int .i64 p1_3, .int .i64 p1_4, .sl (.ints .i64 p1_5)]], K => (sh_laws_eqPuzzle p0_0 p0_1 p0_2 p0_3 p0_4 p0_5 p1_0 p1_1 p1_2 p1_3 p1_4 p1_5).bind fun r => K ⟨[.x (.bool r)], []⟩
  | _, _ => none
noncomputable def o_laws_eqPuzzle : Ora := ⟨[.val, .val], 2, false, G_laws_eqPuzzle⟩
def un_laws_eqPuzzle : Out → Option (Bool)
  | ⟨[.x (.bool r1)], []⟩ => some r1
  | _ => none
theorem un_laws_eqPuzzle_ok {o : Out} {r : Bool} (h : un_laws_eqPuzzle o = some r) : o = ⟨[.x (.bool r)], []⟩ := by
  unfold un_laws_eqPuzzle at h
  split at h
  · injection h with h
    subst h
    rfl
  · cases h
theorem n_laws_eqPuzzle : ∀ k o, E_laws_eqPuzzle.fn k = some o → Nat1 o := fun k o h => (ook_list (P := Try.prog) (l := O_laws_eqPuzzle) (fk := E_laws_eqPuzzle.fk) (List.forall_mem_cons.2 ⟨m_laws_eqIntS, (List.forall_mem_cons.2 ⟨m_laws_eqBoard, (List.forall_mem_cons.2 ⟨m_laws_eqLeaper, (List.forall_mem_nil _)⟩)⟩)⟩)).nat k o h
theorem u_laws_eqPuzzle (fuel : Nat) (p0_0 : Int) (p0_1 : Int) (p0_2 : List Int) (p0_3 : Int) (p0_4 : Int) (p0_5 : List Int) (p1_0 : Int) (p1_1 : Int) (p1_2 : List Int) (p1_3 : Int) (p1_4 : Int) (p1_5 : List Int) : runFn TT E_laws_eqPuzzle (kp_laws_eqPuzzle 1) fuel [.val, .val] 2 false [[]] 23 [.tmp 4] b_laws_eqPuzzle [.agg [.int .i64 p0_0, .int .i64 p0_1, .sl (.ints .i64 p0_2), .int .i64 p0_3, .int .i64 p0_4, .sl (.ints .i64 p0_5)], .agg [.int .i64 p1_0, .int .i64 p1_1, .sl (.ints .i64 p1_2), .int .i64 p1_3, .int .i64 p1_4, .sl (.ints .i64 p1_5)]] un_laws_eqPuzzle = F_laws_eqPuzzle fuel p0_0 p0_1 p0_2 p0_3 p0_4 p0_5 p1_0 p1_1 p1_2 p1_3 p1_4 p1_5 (fun r1 => some r1) := f_laws_eqPuzzle fuel p0_0 p0_1 p0_2 p0_3 p0_4 p0_5 p1_0 p1_1 p1_2 p1_3 p1_4 p1_5 un_laws_eqPuzzle
theorem m_laws_eqPuzzle : MeetsO Try.prog 14 o_laws_eqPuzzle := by
  refine ⟨fun ρ ds K => ?_, ⟨_, meets_run (kp := kp_laws_eqPuzzle 1) (weak := false) (df := [[]]) tsOk (ook_list (l := O_laws_eqPuzzle) (fk := E_laws_eqPuzzle.fk) (List.forall_mem_cons.2 ⟨m_laws_eqIntS, (List.forall_mem_cons.2 ⟨m_laws_eqBoard, (List.forall_mem_cons.2 ⟨m_laws_eqLeaper, (List.forall_mem_nil _)⟩)⟩)⟩)) mixed Try.func14 (body := b_laws_eqPuzzle) (by kernel_rfl) (ntmps := 23) (by kernel_rfl) (rs := [.tmp 4]) (by kernel_rfl), fun ds out h => ?_⟩, ⟨_, Try.func14, by kernel_rfl, by kernel_rfl⟩⟩
  · show G_laws_eqPuzzle ds K = (G_laws_eqPuzzle ds some).bind K
    unfold G_laws_eqPuzzle
    split
    · cases sh_laws_eqPuzzle _ _ _ _ _ _ _ _ _ _ _ _ <;> rfl
    · rfl
  · replace h : G_laws_eqPuzzle ds some = some out := h
    unfold G_laws_eqPuzzle at h
    split at h
    · obtain ⟨r, hr, h⟩ := Option.bind_eq_some_iff.1 h
      injection h with h
      subst h
      have hn := (u_laws_eqPuzzle 0 _ _ _ _ _ _ _ _ _ _ _ _).trans hr
      rw [runFn_bind (K := un_laws_eqPuzzle) (K' := some) (f := un_laws_eqPuzzle) n_laws_eqPuzzle (fun _ => rfl)] at hn
      obtain ⟨o, h1, h2⟩ := Option.bind_eq_some_iff.1 hn
      rw [un_laws_eqPuzzle_ok h2] at h1
      exact ⟨0, h1⟩
    · cases h
/-! f19 loop.example.g01239.laws.markIntS -/
noncomputable def b_laws_markIntS : Code := Try.f19.body.getD .skip
def kp_laws_markIntS (g : Nat) : Nat → Option Keep := lk [(2, ⟨[], [0, 1, 5], [], [], [], g⟩)]
def O_laws_markIntS : List (FuncId × Ora) := []
def E_laws_markIntS : Env := ⟨lk O_laws_markIntS, fun _ => false⟩
noncomputable def D_laws_markIntS_0 {ρ : Type} (g fuel : Nat) (p0 : List Int) (p1 : Int) (n : Nat) (v0 : List Int) (v1 : Int) (v5 : Int) (Kk : Out → Option ρ) : Option ρ :=
  iter (run TT E_laws_markIntS (kp_laws_markIntS g) fuel (cL (cB (cS2 (cS1 (cS2 (b_laws_markIntS))))))) (nrmAt (kp_laws_markIntS g) (firstRid (cL (cB (cS2 (cS1 (cS2 (b_laws_markIntS)))))))) n (⟨[.u (.x (.own 0 (.ints .i64 v0))), .u (.x (.int .i64 v1)), uu, uu, uu, .u (.x (.int .i64 v5)), uu, uu, uu, uu, uu, uu, uu, uu, uu, uu, uu, uu, uu], [], [(0, .ints .i64 v0)], []⟩) (blkK 0 (seqK (gateAt (kp_laws_markIntS g) (200000 + firstRid (cS2 (cS2 (b_laws_markIntS))))) (run TT E_laws_markIntS (kp_laws_markIntS g) fuel (cS2 (cS2 (b_laws_markIntS)))) (nrmAt (kp_laws_markIntS g) (200000 + firstRid (cS2 (cS2 (b_laws_markIntS))))) (topK TT [.wr, .val] false [[]] [.tmp 4] [.x (.sl (.ints .i64 p0)), .x (.int .i64 p1)] Kk)))
def S_laws_markIntS_e {ρ : Type} (p0 : List Int) (p1 : Int)  (k0 : (List Int → Int → Int → Option ρ)) : Option ρ :=
  k0 p0 p1 (0 : Int)
theorem s_laws_markIntS_e {ρ : Type} (g fuel : Nat) (p0 : List Int) (p1 : Int) (Kk : Out → Option ρ) : runFn TT E_laws_markIntS (kp_laws_markIntS g) fuel [.wr, .val] 2 false [[]] 19 [.tmp 4] b_laws_markIntS [.x (.sl (.ints .i64 p0)), .x (.int .i64 p1)] Kk = S_laws_markIntS_e p0 p1  (fun v0 v1 v5 => D_laws_markIntS_0 g fuel p0 p1 fuel v0 v1 v5 Kk) := by
  kernel_rfl
def S_laws_markIntS_0 {ρ : Type}  (v0 : List Int) (v1 : Int) (v5 : Int) (b0 : (List Int → Int → Int → Option ρ)) (K : Int → List Int → Option ρ) : Option ρ :=
  (bif decide (v5 < (v0.length : Int)) then (if 0 ≤ v5 then (if v5 < (v0.length : Int) then b0 (v0.set v5.toNat v1) (IntKind.i64.wrap (v1 + (1 : Int))) (IntKind.i64.wrap (v5 + (1 : Int))) else none) else none) else K v1 v0)
theorem s_laws_markIntS_0 {ρ : Type} (g fuel : Nat) (p0 : List Int) (p1 : Int) (n : Nat) (v0 : List Int) (v1 : Int) (v5 : Int) (Kk : Out → Option ρ) : D_laws_markIntS_0 g fuel p0 p1  (n + 1) v0 v1 v5 Kk = S_laws_markIntS_0  v0 v1 v5 (fun v0 v1 v5 => D_laws_markIntS_0 g fuel p0 p1 n v0 v1 v5 Kk) (fun r1 r2 => Kk ⟨[.x (.int .i64 r1)], [.x (.sl (.ints .i64 r2))]⟩) := by
  kernel_rfl
def F_laws_markIntS_0 {ρ : Type} (fuel : Nat)   (K : Int → List Int → Option ρ) : Nat → List Int → Int → Int → Option ρ
  | 0, _, _, _ => none
  | n + 1, v0, v1, v5 => S_laws_markIntS_0  v0 v1 v5 (F_laws_markIntS_0 fuel   K n) K
theorem f_laws_markIntS_0 {ρ : Type} (fuel : Nat) (p0 : List Int) (p1 : Int) (Kk : Out → Option ρ) : ∀ (n : Nat) (v0 : List Int) (v1 : Int) (v5 : Int), D_laws_markIntS_0 1 fuel p0 p1  n v0 v1 v5 Kk = F_laws_markIntS_0 fuel   (fun r1 r2 => Kk ⟨[.x (.int .i64 r1)], [.x (.sl (.ints .i64 r2))]⟩) n v0 v1 v5 := by
  intro n
  induction n with
  | zero => intros; rfl
  | succ n ih =>
    intro v0 v1 v5
    rw [s_laws_markIntS_0, F_laws_markIntS_0]
    try simp only [ih]
def F_laws_markIntS {ρ : Type} (fuel : Nat) (p0 : List Int) (p1 : Int)  (K : Int → List Int → Option ρ) : Option ρ := S_laws_markIntS_e p0 p1  (F_laws_markIntS_0 fuel   K fuel)
theorem f_laws_markIntS {ρ : Type} (fuel : Nat) (p0 : List Int) (p1 : Int) (Kk : Out → Option ρ) : runFn TT E_laws_markIntS (kp_laws_markIntS 1) fuel [.wr, .val] 2 false [[]] 19 [.tmp 4] b_laws_markIntS [.x (.sl (.ints .i64 p0)), .x (.int .i64 p1)] Kk = F_laws_markIntS fuel p0 p1 (fun r1 r2 => Kk ⟨[.x (.int .i64 r1)], [.x (.sl (.ints .i64 r2))]⟩) := by
  rw [s_laws_markIntS_e, F_laws_markIntS]
  try simp only [f_laws_markIntS_0]
noncomputable def sh_laws_markIntS (p0 : List Int) (p1 : Int) : Option (Int × List Int) := val fun n => F_laws_markIntS n p0 p1 (fun r1 r2 => some (r1, r2))
noncomputable def G_laws_markIntS {ρ : Type} : List DU → (Out → Option ρ) → Option ρ
  | [.x (.sl (.ints .i64 p0)), .x (.int .i64 p1)], K => (sh_laws_markIntS p0 p1).bind fun r => K ⟨[.x (.int .i64 r.1)], [.x (.sl (.ints .i64 r.2))]⟩
  | _, _ => none
noncomputable def o_laws_markIntS : Ora := ⟨[.wr, .val], 2, false, G_laws_markIntS⟩
def un_laws_markIntS : Out → Option (Int × List Int)
  | ⟨[.x (.int .i64 r1)], [.x (.sl (.ints .i64 r2))]⟩ => some (r1, r2)
  | _ => none
theorem un_laws_markIntS_ok {o : Out} {r : Int × List Int} (h : un_laws_markIntS o = some r) : o = ⟨[.x (.int .i64 r.1)], [.x (.sl (.ints .i64 r.2))]⟩ := by
  unfold un_laws_markIntS at h
  split at h
  · injection h with h
    subst h
    rfl
  · cases h
theorem n_laws_markIntS : ∀ k o, E_laws_markIntS.fn k = some o → Nat1 o := fun k o h => (ook_list (P := Try.prog) (l := O_laws_markIntS) (fk := E_laws_markIntS.fk) (List.forall_mem_nil _)).nat k o h
theorem u_laws_markIntS (fuel : Nat) (p0 : List Int) (p1 : Int) : runFn TT E_laws_markIntS (kp_laws_markIntS 1) fuel [.wr, .val] 2 false [[]] 19 [.tmp 4] b_laws_markIntS [.x (.sl (.ints .i64 p0)), .x (.int .i64 p1)] un_laws_markIntS = F_laws_markIntS fuel p0 p1 (fun r1 r2 => some (r1, r2)) := f_laws_markIntS fuel p0 p1 un_laws_markIntS
theorem sh_laws_markIntS_of {n : Nat} {p0 : List Int} {p1 : Int} {r : Int × List Int} (h : F_laws_markIntS n p0 p1 (fun r1 r2 => some (r1, r2)) = some r) : sh_laws_markIntS p0 p1 = some r := val_of (fun n m r hm h => by rw [← u_laws_markIntS] at h ⊢; exact runFn_mono n_laws_markIntS hm h) h
theorem m_laws_markIntS : MeetsO Try.prog 19 o_laws_markIntS := by
  refine ⟨fun ρ ds K => ?_, ⟨_, meets_run (kp := kp_laws_markIntS 1) (weak := false) (df := [[]]) tsOk (ook_list (l := O_laws_markIntS) (fk := E_laws_markIntS.fk) (List.forall_mem_nil _)) mixed Try.func19 (body := b_laws_markIntS) (by kernel_rfl) (ntmps := 19) (by kernel_rfl) (rs := [.tmp 4]) (by kernel_rfl), fun ds out h => ?_⟩, ⟨_, Try.func19, by kernel_rfl, by kernel_rfl⟩⟩
  · show G_laws_markIntS ds K = (G_laws_markIntS ds some).bind K
    unfold G_laws_markIntS
    split
    · cases sh_laws_markIntS _ _ <;> rfl
    · rfl
  · replace h : G_laws_markIntS ds some = some out := h
    unfold G_laws_markIntS at h
    split at h
    · obtain ⟨r, hr, h⟩ := Option.bind_eq_some_iff.1 h
      injection h with h
      subst h
      obtain ⟨n, hn⟩ := val_some hr
      replace hn := (u_laws_markIntS n _ _).trans hn
      rw [runFn_bind (K := un_laws_markIntS) (K' := some) (f := un_laws_markIntS) n_laws_markIntS (fun _ => rfl)] at hn
      obtain ⟨o, h1, h2⟩ := Option.bind_eq_some_iff.1 hn
      rw [un_laws_markIntS_ok h2] at h1
      exact ⟨n, h1⟩
    · cases h
/-! f53 loop.example.g01239.laws.markBoard -/
noncomputable def b_laws_markBoard : Code := Try.f53.body.getD .skip
def kp_laws_markBoard (g : Nat) : Nat → Option Keep := lk []
def O_laws_markBoard : List (FuncId × Ora) := [(19, o_laws_markIntS)]
def E_laws_markBoard : Env := ⟨lk O_laws_markBoard, fun _ => false⟩
def S_laws_markBoard_e {ρ : Type} (p0_0 : Int) (p0_1 : Int) (p0_2 : List Int) (p1 : Int)   (K : Int → Int → Int → List Int → Option ρ) : Option ρ :=
  ((sh_laws_markIntS p0_2 p1).bind fun r1 => K r1.1 p0_0 p0_1 r1.2)
theorem s_laws_markBoard_e {ρ : Type} (g fuel : Nat) (p0_0 : Int) (p0_1 : Int) (p0_2 : List Int) (p1 : Int) (Kk : Out → Option ρ) : runFn TT E_laws_markBoard (kp_laws_markBoard g) fuel [.wr, .val] 2 false [[]] 10 [.tmp 4] b_laws_markBoard [.agg [.int .i64 p0_0, .int .i64 p0_1, .sl (.ints .i64 p0_2)], .x (.int .i64 p1)] Kk = S_laws_markBoard_e p0_0 p0_1 p0_2 p1   (fun r1 r2 r3 r4 => Kk ⟨[.x (.int .i64 r1)], [.agg [.int .i64 r2, .int .i64 r3, .sl (.ints .i64 r4)]]⟩) := by
  kernel_rfl
def F_laws_markBoard {ρ : Type} (fuel : Nat) (p0_0 : Int) (p0_1 : Int) (p0_2 : List Int) (p1 : Int)  (K : Int → Int → Int → List Int → Option ρ) : Option ρ := S_laws_markBoard_e p0_0 p0_1 p0_2 p1   K
theorem f_laws_markBoard {ρ : Type} (fuel : Nat) (p0_0 : Int) (p0_1 : Int) (p0_2 : List Int) (p1 : Int) (Kk : Out → Option ρ) : runFn TT E_laws_markBoard (kp_laws_markBoard 1) fuel [.wr, .val] 2 false [[]] 10 [.tmp 4] b_laws_markBoard [.agg [.int .i64 p0_0, .int .i64 p0_1, .sl (.ints .i64 p0_2)], .x (.int .i64 p1)] Kk = F_laws_markBoard fuel p0_0 p0_1 p0_2 p1 (fun r1 r2 r3 r4 => Kk ⟨[.x (.int .i64 r1)], [.agg [.int .i64 r2, .int .i64 r3, .sl (.ints .i64 r4)]]⟩) := by
  rw [s_laws_markBoard_e, F_laws_markBoard]
noncomputable def sh_laws_markBoard (p0_0 : Int) (p0_1 : Int) (p0_2 : List Int) (p1 : Int) : Option (Int × Int × Int × List Int) := F_laws_markBoard 0 p0_0 p0_1 p0_2 p1 (fun r1 r2 r3 r4 => some (r1, r2, r3, r4))
noncomputable def G_laws_markBoard {ρ : Type} : List DU → (Out → Option ρ) → Option ρ
  | [.agg [.int .i64 p0_0, .int .i64 p0_1, .sl (.ints .i64 p0_2)], .x (.int .i64 p1)], K => (sh_laws_markBoard p0_0 p0_1 p0_2 p1).bind fun r => K ⟨[.x (.int .i64 r.1)], [.agg [.int .i64 r.2.1, .int .i64 r.2.2.1, .sl (.ints .i64 r.2.2.2)]]⟩
  | _, _ => none
noncomputable def o_laws_markBoard : Ora := ⟨[.wr, .val], 2, false, G_laws_markBoard⟩
def un_laws_markBoard : Out → Option (Int × Int × Int × List Int)
  | ⟨[.x (.int .i64 r1)], [.agg [.int .i64 r2, .int .i64 r3, .sl (.ints .i64 r4)]]⟩ => some (r1, r2, r3, r4)
  | _ => none
theorem un_laws_markBoard_ok {o : Out} {r : Int × Int × Int × List Int} (h : un_laws_markBoard o = some r) : o = ⟨[.x (.int .i64 r.1)], [.agg [.int .i64 r.2.1, .int .i64 r.2.2.1, .sl (.ints .i64 r.2.2.2)]]⟩ := by
  unfold un_laws_markBoard at h
  split at h
  · injection h with h
    subst h
    rfl
  · cases h
theorem n_laws_markBoard : ∀ k o, E_laws_markBoard.fn k = some o → Nat1 o := fun k o h => (ook_list (P := Try.prog) (l := O_laws_markBoard) (fk := E_laws_markBoard.fk) (List.forall_mem_cons.2 ⟨m_laws_markIntS, (List.forall_mem_nil _)⟩)).nat k o h
theorem u_laws_markBoard (fuel : Nat) (p0_0 : Int) (p0_1 : Int) (p0_2 : List Int) (p1 : Int) : runFn TT E_laws_markBoard (kp_laws_markBoard 1) fuel [.wr, .val] 2 false [[]] 10 [.tmp 4] b_laws_markBoard [.agg [.int .i64 p0_0, .int .i64 p0_1, .sl (.ints .i64 p0_2)], .x (.int .i64 p1)] un_laws_markBoard = F_laws_markBoard fuel p0_0 p0_1 p0_2 p1 (fun r1 r2 r3 r4 => some (r1, r2, r3, r4)) := f_laws_markBoard fuel p0_0 p0_1 p0_2 p1 un_laws_markBoard
theorem m_laws_markBoard : MeetsO Try.prog 53 o_laws_markBoard := by
  refine ⟨fun ρ ds K => ?_, ⟨_, meets_run (kp := kp_laws_markBoard 1) (weak := false) (df := [[]]) tsOk (ook_list (l := O_laws_markBoard) (fk := E_laws_markBoard.fk) (List.forall_mem_cons.2 ⟨m_laws_markIntS, (List.forall_mem_nil _)⟩)) mixed Try.func53 (body := b_laws_markBoard) (by kernel_rfl) (ntmps := 10) (by kernel_rfl) (rs := [.tmp 4]) (by kernel_rfl), fun ds out h => ?_⟩, ⟨_, Try.func53, by kernel_rfl, by kernel_rfl⟩⟩
  · show G_laws_markBoard ds K = (G_laws_markBoard ds some).bind K
    unfold G_laws_markBoard
    split
    · cases sh_laws_markBoard _ _ _ _ <;> rfl
    · rfl
  · replace h : G_laws_markBoard ds some = some out := h
    unfold G_laws_markBoard at h
    split at h
    · obtain ⟨r, hr, h⟩ := Option.bind_eq_some_iff.1 h
      injection h with h
      subst h
      have hn := (u_laws_markBoard 0 _ _ _ _).trans hr
      rw [runFn_bind (K := un_laws_markBoard) (K' := some) (f := un_laws_markBoard) n_laws_markBoard (fun _ => rfl)] at hn
      obtain ⟨o, h1, h2⟩ := Option.bind_eq_some_iff.1 hn
      rw [un_laws_markBoard_ok h2] at h1
      exact ⟨0, h1⟩
    · cases h
/-! f18 loop.example.g01239.laws.markPuzzle -/
noncomputable def b_laws_markPuzzle : Code := Try.f18.body.getD .skip
def kp_laws_markPuzzle (g : Nat) : Nat → Option Keep := lk []
def O_laws_markPuzzle : List (FuncId × Ora) := [(19, o_laws_markIntS), (53, o_laws_markBoard)]
def E_laws_markPuzzle : Env := ⟨lk O_laws_markPuzzle, fun _ => false⟩
def S_laws_markPuzzle_e {ρ : Type} (p0_0 : Int) (p0_1 : Int) (p0_2 : List Int) (p0_3 : Int) (p0_4 : Int) (p0_5 : List Int) (p1 : Int)   (K : Int → Int → Int → List Int → Int → Int → List Int → Option ρ) : Option ρ :=
  ((sh_laws_markBoard p0_0 p0_1 p0_2 p1).bind fun r1 => ((sh_laws_markIntS p0_5 r1.1).bind fun r2 => K r2.1 p0_0 p0_1 r1.2.2.2 p0_3 p0_4 r2.2))
theorem s_laws_markPuzzle_e {ρ : Type} (g fuel : Nat) (p0_0 : Int) (p0_1 : Int) (p0_2 : List Int) (p0_3 : Int) (p0_4 : Int) (p0_5 : List Int) (p1 : Int) (Kk : Out → Option ρ) : runFn TT E_laws_markPuzzle (kp_laws_markPuzzle g) fuel [.wr, .val] 2 false [[]] 14 [.tmp 4] b_laws_markPuzzle [.agg [.int .i64 p0_0, .int .i64 p0_1, .sl (.ints .i64 p0_2), .int .i64 p0_3, .int .i64 p0_4, .sl (.ints .i64 p0_5)], .x (.int .i64 p1)] Kk = S_laws_markPuzzle_e p0_0 p0_1 p0_2 p0_3 p0_4 p0_5 p1   (fun r1 r2 r3 r4 r5 r6 r7 => Kk ⟨[.x (.int .i64 r1)], [.agg [.int .i64 r2, .int .i64 r3, .sl (.ints .i64 r4), .int .i64 r5, .int .i64 r6, .sl (.ints .i64 r7)]]⟩) := by
  kernel_rfl
def F_laws_markPuzzle {ρ : Type} (fuel : Nat) (p0_0 : Int) (p0_1 : Int) (p0_2 : List Int) (p0_3 : Int) (p0_4 : Int) (p0_5 : List Int) (p1 : Int)  (K : Int → Int → Int → List Int → Int → Int → List Int → Option ρ) : Option ρ := S_laws_markPuzzle_e p0_0 p0_1 p0_2 p0_3 p0_4 p0_5 p1   K
theorem f_laws_markPuzzle {ρ : Type} (fuel : Nat) (p0_0 : Int) (p0_1 : Int) (p0_2 : List Int) (p0_3 : Int) (p0_4 : Int) (p0_5 : List Int) (p1 : Int) (Kk : Out → Option ρ) : runFn TT E_laws_markPuzzle (kp_laws_markPuzzle 1) fuel [.wr, .val] 2 false [[]] 14 [.tmp 4] b_laws_markPuzzle [.agg [.int .i64 p0_0, .int .i64 p0_1, .sl (.ints .i64 p0_2), .int .i64 p0_3, .int .i64 p0_4, .sl (.ints .i64 p0_5)], .x (.int .i64 p1)] Kk = F_laws_markPuzzle fuel p0_0 p0_1 p0_2 p0_3 p0_4 p0_5 p1 (fun r1 r2 r3 r4 r5 r6 r7 => Kk ⟨[.x (.int .i64 r1)], [.agg [.int .i64 r2, .int .i64 r3, .sl (.ints .i64 r4), .int .i64 r5, .int .i64 r6, .sl (.ints .i64 r7)]]⟩) := by
  rw [s_laws_markPuzzle_e, F_laws_markPuzzle]
noncomputable def sh_laws_markPuzzle (p0_0 : Int) (p0_1 : Int) (p0_2 : List Int) (p0_3 : Int) (p0_4 : Int) (p0_5 : List Int) (p1 : Int) : Option (Int × Int × Int × List Int × Int × Int × List Int) := F_laws_markPuzzle 0 p0_0 p0_1 p0_2 p0_3 p0_4 p0_5 p1 (fun r1 r2 r3 r4 r5 r6 r7 => some (r1, r2, r3, r4, r5, r6, r7))
noncomputable def G_laws_markPuzzle {ρ : Type} : List DU → (Out → Option ρ) → Option ρ
  | [.agg [.int .i64 p0_0, .int .i64 p0_1, .sl (.ints .i64 p0_2), .int .i64 p0_3, .int .i64 p0_4, .sl (.ints .i64 p0_5)], .x (.int .i64 p1)], K => (sh_laws_markPuzzle p0_0 p0_1 p0_2 p0_3 p0_4 p0_5 p1).bind fun r => K ⟨[.x (.int .i64 r.1)], [.agg [.int .i64 r.2.1, .int .i64 r.2.2.1, .sl (.ints .i64 r.2.2.2.1), .int .i64 r.2.2.2.2.1, .int .i64 r.2.2.2.2.2.1, .sl (.ints .i64 r.2.2.2.2.2.2)]]⟩
  | _, _ => none
noncomputable def o_laws_markPuzzle : Ora := ⟨[.wr, .val], 2, false, G_laws_markPuzzle⟩
def un_laws_markPuzzle : Out → Option (Int × Int × Int × List Int × Int × Int × List Int)
  | ⟨[.x (.int .i64 r1)], [.agg [.int .i64 r2, .int .i64 r3, .sl (.ints .i64 r4), .int .i64 r5, .int .i64 r6, .sl (.ints .i64 r7)]]⟩ => some (r1, r2, r3, r4, r5, r6, r7)
  | _ => none
theorem un_laws_markPuzzle_ok {o : Out} {r : Int × Int × Int × List Int × Int × Int × List Int} (h : un_laws_markPuzzle o = some r) : o = ⟨[.x (.int .i64 r.1)], [.agg [.int .i64 r.2.1, .int .i64 r.2.2.1, .sl (.ints .i64 r.2.2.2.1), .int .i64 r.2.2.2.2.1, .int .i64 r.2.2.2.2.2.1, .sl (.ints .i64 r.2.2.2.2.2.2)]]⟩ := by
  unfold un_laws_markPuzzle at h
  split at h
  · injection h with h
    subst h
    rfl
  · cases h
theorem n_laws_markPuzzle : ∀ k o, E_laws_markPuzzle.fn k = some o → Nat1 o := fun k o h => (ook_list (P := Try.prog) (l := O_laws_markPuzzle) (fk := E_laws_markPuzzle.fk) (List.forall_mem_cons.2 ⟨m_laws_markIntS, (List.forall_mem_cons.2 ⟨m_laws_markBoard, (List.forall_mem_nil _)⟩)⟩)).nat k o h
theorem u_laws_markPuzzle (fuel : Nat) (p0_0 : Int) (p0_1 : Int) (p0_2 : List Int) (p0_3 : Int) (p0_4 : Int) (p0_5 : List Int) (p1 : Int) : runFn TT E_laws_markPuzzle (kp_laws_markPuzzle 1) fuel [.wr, .val] 2 false [[]] 14 [.tmp 4] b_laws_markPuzzle [.agg [.int .i64 p0_0, .int .i64 p0_1, .sl (.ints .i64 p0_2), .int .i64 p0_3, .int .i64 p0_4, .sl (.ints .i64 p0_5)], .x (.int .i64 p1)] un_laws_markPuzzle = F_laws_markPuzzle fuel p0_0 p0_1 p0_2 p0_3 p0_4 p0_5 p1 (fun r1 r2 r3 r4 r5 r6 r7 => some (r1, r2, r3, r4, r5, r6, r7)) := f_laws_markPuzzle fuel p0_0 p0_1 p0_2 p0_3 p0_4 p0_5 p1 un_laws_markPuzzle
theorem m_laws_markPuzzle : MeetsO Try.prog 18 o_laws_markPuzzle := by
  refine ⟨fun ρ ds K => ?_, ⟨_, meets_run (kp := kp_laws_markPuzzle 1) (weak := false) (df := [[]]) tsOk (ook_list (l := O_laws_markPuzzle) (fk := E_laws_markPuzzle.fk) (List.forall_mem_cons.2 ⟨m_laws_markIntS, (List.forall_mem_cons.2 ⟨m_laws_markBoard, (List.forall_mem_nil _)⟩)⟩)) mixed Try.func18 (body := b_laws_markPuzzle) (by kernel_rfl) (ntmps := 14) (by kernel_rfl) (rs := [.tmp 4]) (by kernel_rfl), fun ds out h => ?_⟩, ⟨_, Try.func18, by kernel_rfl, by kernel_rfl⟩⟩
  · show G_laws_markPuzzle ds K = (G_laws_markPuzzle ds some).bind K
    unfold G_laws_markPuzzle
    split
    · cases sh_laws_markPuzzle _ _ _ _ _ _ _ <;> rfl
    · rfl
  · replace h : G_laws_markPuzzle ds some = some out := h
    unfold G_laws_markPuzzle at h
    split at h
    · obtain ⟨r, hr, h⟩ := Option.bind_eq_some_iff.1 h
      injection h with h
      subst h
      have hn := (u_laws_markPuzzle 0 _ _ _ _ _ _ _).trans hr
      rw [runFn_bind (K := un_laws_markPuzzle) (K' := some) (f := un_laws_markPuzzle) n_laws_markPuzzle (fun _ => rfl)] at hn
      obtain ⟨o, h1, h2⟩ := Option.bind_eq_some_iff.1 hn
      rw [un_laws_markPuzzle_ok h2] at h1
      exact ⟨0, h1⟩
    · cases h
/-! f20 loop.example.g01239.laws.heldIntS -/
noncomputable def b_laws_heldIntS : Code := Try.f20.body.getD .skip
def kp_laws_heldIntS (g : Nat) : Nat → Option Keep := lk [(2, ⟨[], [0, 1, 5], [], [], [], g⟩)]
def O_laws_heldIntS : List (FuncId × Ora) := []
def E_laws_heldIntS : Env := ⟨lk O_laws_heldIntS, fun _ => false⟩
noncomputable def D_laws_heldIntS_0 {ρ : Type} (g fuel : Nat) (p0 : List Int) (p1 : Int) (n : Nat) (v0 : List Int) (v1 : Int) (v5 : Int) (Kk : Out → Option ρ) : Option ρ :=
  iter (run TT E_laws_heldIntS (kp_laws_heldIntS g) fuel (cL (cB (cS2 (cS1 (cS2 (b_laws_heldIntS))))))) (nrmAt (kp_laws_heldIntS g) (firstRid (cL (cB (cS2 (cS1 (cS2 (b_laws_heldIntS)))))))) n (⟨[.u (.x (.ro (.ints .i64 v0))), .u (.x (.int .i64 v1)), uu, uu, uu, .u (.x (.int .i64 v5)), uu, uu, uu, uu, uu, uu, uu, uu, uu, uu, uu, uu, uu, uu, uu], [], [], []⟩) (blkK 0 (seqK (gateAt (kp_laws_heldIntS g) (200000 + firstRid (cS2 (cS2 (b_laws_heldIntS))))) (run TT E_laws_heldIntS (kp_laws_heldIntS g) fuel (cS2 (cS2 (b_laws_heldIntS)))) (nrmAt (kp_laws_heldIntS g) (200000 + firstRid (cS2 (cS2 (b_laws_heldIntS))))) (topK TT [.val, .val] false [[]] [.tmp 4] [.x (.sl (.ints .i64 p0)), .x (.int .i64 p1)] Kk)))
def S_laws_heldIntS_e {ρ : Type} (p0 : List Int) (p1 : Int)  (k0 : (List Int → Int → Int → Option ρ)) : Option ρ :=
  k0 p0 p1 (0 : Int)
theorem s_laws_heldIntS_e {ρ : Type} (g fuel : Nat) (p0 : List Int) (p1 : Int) (Kk : Out → Option ρ) : runFn TT E_laws_heldIntS (kp_laws_heldIntS g) fuel [.val, .val] 2 false [[]] 21 [.tmp 4] b_laws_heldIntS [.x (.sl (.ints .i64 p0)), .x (.int .i64 p1)] Kk = S_laws_heldIntS_e p0 p1  (fun v0 v1 v5 => D_laws_heldIntS_0 g fuel p0 p1 fuel v0 v1 v5 Kk) := by
  kernel_rfl
def S_laws_heldIntS_0 {ρ : Type}  (v0 : List Int) (v1 : Int) (v5 : Int) (b0 : (List Int → Int → Int → Option ρ)) (K : Int → Option ρ) : Option ρ :=
  (bif decide (v5 < (v0.length : Int)) then (if 0 ≤ v5 then (if v5 < (v0.length : Int) then (bif !decide ((v0.getD v5.toNat 0) = v1) then K (-1 : Int) else b0 v0 (IntKind.i64.wrap (v1 + (1 : Int))) (IntKind.i64.wrap (v5 + (1 : Int)))) else none) else none) else K v1)
theorem s_laws_heldIntS_0 {ρ : Type} (g fuel : Nat) (p0 : List Int) (p1 : Int) (n : Nat) (v0 : List Int) (v1 : Int) (v5 : Int) (Kk : Out → Option ρ) : D_laws_heldIntS_0 g fuel p0 p1  (n + 1) v0 v1 v5 Kk = S_laws_heldIntS_0  v0 v1 v5 (fun v0 v1 v5 => D_laws_heldIntS_0 g fuel p0 p1 n v0 v1 v5 Kk) (fun r1 => Kk ⟨[.x (.int .i64 r1)], []⟩) := by
  kernel_rfl
def F_laws_heldIntS_0 {ρ : Type} (fuel : Nat)   (K : Int → Option ρ) : Nat → List Int → Int → Int → Option ρ
  | 0, _, _, _ => none
  | n + 1, v0, v1, v5 => S_laws_heldIntS_0  v0 v1 v5 (F_laws_heldIntS_0 fuel   K n) K
theorem f_laws_heldIntS_0 {ρ : Type} (fuel : Nat) (p0 : List Int) (p1 : Int) (Kk : Out → Option ρ) : ∀ (n : Nat) (v0 : List Int) (v1 : Int) (v5 : Int), D_laws_heldIntS_0 1 fuel p0 p1  n v0 v1 v5 Kk = F_laws_heldIntS_0 fuel   (fun r1 => Kk ⟨[.x (.int .i64 r1)], []⟩) n v0 v1 v5 := by
  intro n
  induction n with
  | zero => intros; rfl
  | succ n ih =>
    intro v0 v1 v5
    rw [s_laws_heldIntS_0, F_laws_heldIntS_0]
    try simp only [ih]
def F_laws_heldIntS {ρ : Type} (fuel : Nat) (p0 : List Int) (p1 : Int)  (K : Int → Option ρ) : Option ρ := S_laws_heldIntS_e p0 p1  (F_laws_heldIntS_0 fuel   K fuel)
theorem f_laws_heldIntS {ρ : Type} (fuel : Nat) (p0 : List Int) (p1 : Int) (Kk : Out → Option ρ) : runFn TT E_laws_heldIntS (kp_laws_heldIntS 1) fuel [.val, .val] 2 false [[]] 21 [.tmp 4] b_laws_heldIntS [.x (.sl (.ints .i64 p0)), .x (.int .i64 p1)] Kk = F_laws_heldIntS fuel p0 p1 (fun r1 => Kk ⟨[.x (.int .i64 r1)], []⟩) := by
  rw [s_laws_heldIntS_e, F_laws_heldIntS]
  try simp only [f_laws_heldIntS_0]
noncomputable def sh_laws_heldIntS (p0 : List Int) (p1 : Int) : Option (Int) := val fun n => F_laws_heldIntS n p0 p1 (fun r1 => some r1)
noncomputable def G_laws_heldIntS {ρ : Type} : List DU → (Out → Option ρ) → Option ρ
  | [.x (.sl (.ints .i64 p0)), .x (.int .i64 p1)], K => (sh_laws_heldIntS p0 p1).bind fun r => K ⟨[.x (.int .i64 r)], []⟩
  | _, _ => none
noncomputable def o_laws_heldIntS : Ora := ⟨[.val, .val], 2, false, G_laws_heldIntS⟩
def un_laws_heldIntS : Out → Option (Int)
  | ⟨[.x (.int .i64 r1)], []⟩ => some r1
  | _ => none
theorem un_laws_heldIntS_ok {o : Out} {r : Int} (h : un_laws_heldIntS o = some r) : o = ⟨[.x (.int .i64 r)], []⟩ := by
  unfold un_laws_heldIntS at h
  split at h
  · injection h with h
    subst h
    rfl
  · cases h
theorem n_laws_heldIntS : ∀ k o, E_laws_heldIntS.fn k = some o → Nat1 o := fun k o h => (ook_list (P := Try.prog) (l := O_laws_heldIntS) (fk := E_laws_heldIntS.fk) (List.forall_mem_nil _)).nat k o h
theorem u_laws_heldIntS (fuel : Nat) (p0 : List Int) (p1 : Int) : runFn TT E_laws_heldIntS (kp_laws_heldIntS 1) fuel [.val, .val] 2 false [[]] 21 [.tmp 4] b_laws_heldIntS [.x (.sl (.ints .i64 p0)), .x (.int .i64 p1)] un_laws_heldIntS = F_laws_heldIntS fuel p0 p1 (fun r1 => some r1) := f_laws_heldIntS fuel p0 p1 un_laws_heldIntS
theorem sh_laws_heldIntS_of {n : Nat} {p0 : List Int} {p1 : Int} {r : Int} (h : F_laws_heldIntS n p0 p1 (fun r1 => some r1) = some r) : sh_laws_heldIntS p0 p1 = some r := val_of (fun n m r hm h => by rw [← u_laws_heldIntS] at h ⊢; exact runFn_mono n_laws_heldIntS hm h) h
theorem m_laws_heldIntS : MeetsO Try.prog 20 o_laws_heldIntS := by
  refine ⟨fun ρ ds K => ?_, ⟨_, meets_run (kp := kp_laws_heldIntS 1) (weak := false) (df := [[]]) tsOk (ook_list (l := O_laws_heldIntS) (fk := E_laws_heldIntS.fk) (List.forall_mem_nil _)) mixed Try.func20 (body := b_laws_heldIntS) (by kernel_rfl) (ntmps := 21) (by kernel_rfl) (rs := [.tmp 4]) (by kernel_rfl), fun ds out h => ?_⟩, ⟨_, Try.func20, by kernel_rfl, by kernel_rfl⟩⟩
  · show G_laws_heldIntS ds K = (G_laws_heldIntS ds some).bind K
    unfold G_laws_heldIntS
    split
    · cases sh_laws_heldIntS _ _ <;> rfl
    · rfl
  · replace h : G_laws_heldIntS ds some = some out := h
    unfold G_laws_heldIntS at h
    split at h
    · obtain ⟨r, hr, h⟩ := Option.bind_eq_some_iff.1 h
      injection h with h
      subst h
      obtain ⟨n, hn⟩ := val_some hr
      replace hn := (u_laws_heldIntS n _ _).trans hn
      rw [runFn_bind (K := un_laws_heldIntS) (K' := some) (f := un_laws_heldIntS) n_laws_heldIntS (fun _ => rfl)] at hn
      obtain ⟨o, h1, h2⟩ := Option.bind_eq_some_iff.1 hn
      rw [un_laws_heldIntS_ok h2] at h1
      exact ⟨n, h1⟩
    · cases h
/-! f61 loop.example.g01239.laws.heldBoard -/
noncomputable def b_laws_heldBoard : Code := Try.f61.body.getD .skip
def kp_laws_heldBoard (g : Nat) : Nat → Option Keep := lk []
def O_laws_heldBoard : List (FuncId × Ora) := [(20, o_laws_heldIntS)]
def E_laws_heldBoard : Env := ⟨lk O_laws_heldBoard, fun _ => false⟩
def S_laws_heldBoard_e {ρ : Type} (p0_0 : Int) (p0_1 : Int) (p0_2 : List Int) (p1 : Int)   (K : Int → Option ρ) : Option ρ :=
  ((sh_laws_heldIntS p0_2 p1).bind fun r1 => (bif decide (r1 < (0 : Int)) then K (-1 : Int) else K r1))
theorem s_laws_heldBoard_e {ρ : Type} (g fuel : Nat) (p0_0 : Int) (p0_1 : Int) (p0_2 : List Int) (p1 : Int) (Kk : Out → Option ρ) : runFn TT E_laws_heldBoard (kp_laws_heldBoard g) fuel [.val, .val] 2 false [[]] 12 [.tmp 4] b_laws_heldBoard [.agg [.int .i64 p0_0, .int .i64 p0_1, .sl (.ints .i64 p0_2)], .x (.int .i64 p1)] Kk = S_laws_heldBoard_e p0_0 p0_1 p0_2 p1   (fun r1 => Kk ⟨[.x (.int .i64 r1)], []⟩) := by
  kernel_rfl
def F_laws_heldBoard {ρ : Type} (fuel : Nat) (p0_0 : Int) (p0_1 : Int) (p0_2 : List Int) (p1 : Int)  (K : Int → Option ρ) : Option ρ := S_laws_heldBoard_e p0_0 p0_1 p0_2 p1   K
theorem f_laws_heldBoard {ρ : Type} (fuel : Nat) (p0_0 : Int) (p0_1 : Int) (p0_2 : List Int) (p1 : Int) (Kk : Out → Option ρ) : runFn TT E_laws_heldBoard (kp_laws_heldBoard 1) fuel [.val, .val] 2 false [[]] 12 [.tmp 4] b_laws_heldBoard [.agg [.int .i64 p0_0, .int .i64 p0_1, .sl (.ints .i64 p0_2)], .x (.int .i64 p1)] Kk = F_laws_heldBoard fuel p0_0 p0_1 p0_2 p1 (fun r1 => Kk ⟨[.x (.int .i64 r1)], []⟩) := by
  rw [s_laws_heldBoard_e, F_laws_heldBoard]
noncomputable def sh_laws_heldBoard (p0_0 : Int) (p0_1 : Int) (p0_2 : List Int) (p1 : Int) : Option (Int) := F_laws_heldBoard 0 p0_0 p0_1 p0_2 p1 (fun r1 => some r1)
noncomputable def G_laws_heldBoard {ρ : Type} : List DU → (Out → Option ρ) → Option ρ
  | [.agg [.int .i64 p0_0, .int .i64 p0_1, .sl (.ints .i64 p0_2)], .x (.int .i64 p1)], K => (sh_laws_heldBoard p0_0 p0_1 p0_2 p1).bind fun r => K ⟨[.x (.int .i64 r)], []⟩
  | _, _ => none
noncomputable def o_laws_heldBoard : Ora := ⟨[.val, .val], 2, false, G_laws_heldBoard⟩
def un_laws_heldBoard : Out → Option (Int)
  | ⟨[.x (.int .i64 r1)], []⟩ => some r1
  | _ => none
theorem un_laws_heldBoard_ok {o : Out} {r : Int} (h : un_laws_heldBoard o = some r) : o = ⟨[.x (.int .i64 r)], []⟩ := by
  unfold un_laws_heldBoard at h
  split at h
  · injection h with h
    subst h
    rfl
  · cases h
theorem n_laws_heldBoard : ∀ k o, E_laws_heldBoard.fn k = some o → Nat1 o := fun k o h => (ook_list (P := Try.prog) (l := O_laws_heldBoard) (fk := E_laws_heldBoard.fk) (List.forall_mem_cons.2 ⟨m_laws_heldIntS, (List.forall_mem_nil _)⟩)).nat k o h
theorem u_laws_heldBoard (fuel : Nat) (p0_0 : Int) (p0_1 : Int) (p0_2 : List Int) (p1 : Int) : runFn TT E_laws_heldBoard (kp_laws_heldBoard 1) fuel [.val, .val] 2 false [[]] 12 [.tmp 4] b_laws_heldBoard [.agg [.int .i64 p0_0, .int .i64 p0_1, .sl (.ints .i64 p0_2)], .x (.int .i64 p1)] un_laws_heldBoard = F_laws_heldBoard fuel p0_0 p0_1 p0_2 p1 (fun r1 => some r1) := f_laws_heldBoard fuel p0_0 p0_1 p0_2 p1 un_laws_heldBoard
theorem m_laws_heldBoard : MeetsO Try.prog 61 o_laws_heldBoard := by
  refine ⟨fun ρ ds K => ?_, ⟨_, meets_run (kp := kp_laws_heldBoard 1) (weak := false) (df := [[]]) tsOk (ook_list (l := O_laws_heldBoard) (fk := E_laws_heldBoard.fk) (List.forall_mem_cons.2 ⟨m_laws_heldIntS, (List.forall_mem_nil _)⟩)) mixed Try.func61 (body := b_laws_heldBoard) (by kernel_rfl) (ntmps := 12) (by kernel_rfl) (rs := [.tmp 4]) (by kernel_rfl), fun ds out h => ?_⟩, ⟨_, Try.func61, by kernel_rfl, by kernel_rfl⟩⟩
  · show G_laws_heldBoard ds K = (G_laws_heldBoard ds some).bind K
    unfold G_laws_heldBoard
    split
    · cases sh_laws_heldBoard _ _ _ _ <;> rfl
    · rfl
  · replace h : G_laws_heldBoard ds some = some out := h
    unfold G_laws_heldBoard at h
    split at h
    · obtain ⟨r, hr, h⟩ := Option.bind_eq_some_iff.1 h
      injection h with h
      subst h
      have hn := (u_laws_heldBoard 0 _ _ _ _).trans hr
      rw [runFn_bind (K := un_laws_heldBoard) (K' := some) (f := un_laws_heldBoard) n_laws_heldBoard (fun _ => rfl)] at hn
      obtain ⟨o, h1, h2⟩ := Option.bind_eq_some_iff.1 hn
      rw [un_laws_heldBoard_ok h2] at h1
      exact ⟨0, h1⟩
    · cases h
/-! f32 loop.example.g01239.laws.heldPuzzle -/
noncomputable def b_laws_heldPuzzle : Code := Try.f32.body.getD .skip
def kp_laws_heldPuzzle (g : Nat) : Nat → Option Keep := lk []
def O_laws_heldPuzzle : List (FuncId × Ora) := [(20, o_laws_heldIntS), (61, o_laws_heldBoard)]
def E_laws_heldPuzzle : Env := ⟨lk O_laws_heldPuzzle, fun _ => false⟩
def S_laws_heldPuzzle_e {ρ : Type} (p0_0 : Int) (p0_1 : Int) (p0_2 : List Int) (p0_3 : Int) (p0_4 : Int) (p0_5 : List Int) (p1 : Int)   (K : Int → Option ρ) : Option ρ :=
  ((sh_laws_heldBoard p0_0 p0_1 p0_2 p1).bind fun r1 => (bif decide (r1 < (0 : Int)) then K (-1 : Int) else ((sh_laws_heldIntS p0_5 r1).bind fun r2 => (bif decide (r2 < (0 : Int)) then K (-1 : Int) else K r2))))
theorem s_laws_heldPuzzle_e {ρ : Type} (g fuel : Nat) (p0_0 : Int) (p0_1 : Int) (p0_2 : List Int) (p0_3 : Int) (p0_4 : Int) (p0_5 : List Int) (p1 : Int) (Kk : Out → Option ρ) : runFn TT E_laws_heldPuzzle (kp_laws_heldPuzzle g) fuel [.val, .val] 2 false [[]] 18 [.tmp 4] b_laws_heldPuzzle [.agg [.int .i64 p0_0, .int .i64 p0_1, .sl (.ints .i64 p0_2), .int .i64 p0_3, .int .i64 p0_4, .sl (.ints .i64 p0_5)], .x (.int .i64 p1)] Kk = S_laws_heldPuzzle_e p0_0 p0_1 p0_2 p0_3 p0_4 p0_5 p1   (fun r1 => Kk ⟨[.x (.int .i64 r1)], []⟩) := by
  kernel_rfl
def F_laws_heldPuzzle {ρ : Type} (fuel : Nat) (p0_0 : Int) (p0_1 : Int) (p0_2 : List Int) (p0_3 : Int) (p0_4 : Int) (p0_5 : List Int) (p1 : Int)  (K : Int → Option ρ) : Option ρ := S_laws_heldPuzzle_e p0_0 p0_1 p0_2 p0_3 p0_4 p0_5 p1   K
theorem f_laws_heldPuzzle {ρ : Type} (fuel : Nat) (p0_0 : Int) (p0_1 : Int) (p0_2 : List Int) (p0_3 : Int) (p0_4 : Int) (p0_5 : List Int) (p1 : Int) (Kk : Out → Option ρ) : runFn TT E_laws_heldPuzzle (kp_laws_heldPuzzle 1) fuel [.val, .val] 2 false [[]] 18 [.tmp 4] b_laws_heldPuzzle [.agg [.int .i64 p0_0, .int .i64 p0_1, .sl (.ints .i64 p0_2), .int .i64 p0_3, .int .i64 p0_4, .sl (.ints .i64 p0_5)], .x (.int .i64 p1)] Kk = F_laws_heldPuzzle fuel p0_0 p0_1 p0_2 p0_3 p0_4 p0_5 p1 (fun r1 => Kk ⟨[.x (.int .i64 r1)], []⟩) := by
  rw [s_laws_heldPuzzle_e, F_laws_heldPuzzle]
noncomputable def sh_laws_heldPuzzle (p0_0 : Int) (p0_1 : Int) (p0_2 : List Int) (p0_3 : Int) (p0_4 : Int) (p0_5 : List Int) (p1 : Int) : Option (Int) := F_laws_heldPuzzle 0 p0_0 p0_1 p0_2 p0_3 p0_4 p0_5 p1 (fun r1 => some r1)
noncomputable def G_laws_heldPuzzle {ρ : Type} : List DU → (Out → Option ρ) → Option ρ
  | [.agg [.int .i64 p0_0, .int .i64 p0_1, .sl (.ints .i64 p0_2), .int .i64 p0_3, .int .i64 p0_4, .sl (.ints .i64 p0_5)], .x (.int .i64 p1)], K => (sh_laws_heldPuzzle p0_0 p0_1 p0_2 p0_3 p0_4 p0_5 p1).bind fun r => K ⟨[.x (.int .i64 r)], []⟩
  | _, _ => none
noncomputable def o_laws_heldPuzzle : Ora := ⟨[.val, .val], 2, false, G_laws_heldPuzzle⟩
def un_laws_heldPuzzle : Out → Option (Int)
  | ⟨[.x (.int .i64 r1)], []⟩ => some r1
  | _ => none
theorem un_laws_heldPuzzle_ok {o : Out} {r : Int} (h : un_laws_heldPuzzle o = some r) : o = ⟨[.x (.int .i64 r)], []⟩ := by
  unfold un_laws_heldPuzzle at h
  split at h
  · injection h with h
    subst h
    rfl
  · cases h
theorem n_laws_heldPuzzle : ∀ k o, E_laws_heldPuzzle.fn k = some o → Nat1 o := fun k o h => (ook_list (P := Try.prog) (l := O_laws_heldPuzzle) (fk := E_laws_heldPuzzle.fk) (List.forall_mem_cons.2 ⟨m_laws_heldIntS, (List.forall_mem_cons.2 ⟨m_laws_heldBoard, (List.forall_mem_nil _)⟩)⟩)).nat k o h
theorem u_laws_heldPuzzle (fuel : Nat) (p0_0 : Int) (p0_1 : Int) (p0_2 : List Int) (p0_3 : Int) (p0_4 : Int) (p0_5 : List Int) (p1 : Int) : runFn TT E_laws_heldPuzzle (kp_laws_heldPuzzle 1) fuel [.val, .val] 2 false [[]] 18 [.tmp 4] b_laws_heldPuzzle [.agg [.int .i64 p0_0, .int .i64 p0_1, .sl (.ints .i64 p0_2), .int .i64 p0_3, .int .i64 p0_4, .sl (.ints .i64 p0_5)], .x (.int .i64 p1)] un_laws_heldPuzzle = F_laws_heldPuzzle fuel p0_0 p0_1 p0_2 p0_3 p0_4 p0_5 p1 (fun r1 => some r1) := f_laws_heldPuzzle fuel p0_0 p0_1 p0_2 p0_3 p0_4 p0_5 p1 un_laws_heldPuzzle
theorem m_laws_heldPuzzle : MeetsO Try.prog 32 o_laws_heldPuzzle := by
  refine ⟨fun ρ ds K => ?_, ⟨_, meets_run (kp := kp_laws_heldPuzzle 1) (weak := false) (df := [[]]) tsOk (ook_list (l := O_laws_heldPuzzle) (fk := E_laws_heldPuzzle.fk) (List.forall_mem_cons.2 ⟨m_laws_heldIntS, (List.forall_mem_cons.2 ⟨m_laws_heldBoard, (List.forall_mem_nil _)⟩)⟩)) mixed Try.func32 (body := b_laws_heldPuzzle) (by kernel_rfl) (ntmps := 18) (by kernel_rfl) (rs := [.tmp 4]) (by kernel_rfl), fun ds out h => ?_⟩, ⟨_, Try.func32, by kernel_rfl, by kernel_rfl⟩⟩
  · show G_laws_heldPuzzle ds K = (G_laws_heldPuzzle ds some).bind K
    unfold G_laws_heldPuzzle
    split
    · cases sh_laws_heldPuzzle _ _ _ _ _ _ _ <;> rfl
    · rfl
  · replace h : G_laws_heldPuzzle ds some = some out := h
    unfold G_laws_heldPuzzle at h
    split at h
    · obtain ⟨r, hr, h⟩ := Option.bind_eq_some_iff.1 h
      injection h with h
      subst h
      have hn := (u_laws_heldPuzzle 0 _ _ _ _ _ _ _).trans hr
      rw [runFn_bind (K := un_laws_heldPuzzle) (K' := some) (f := un_laws_heldPuzzle) n_laws_heldPuzzle (fun _ => rfl)] at hn
      obtain ⟨o, h1, h2⟩ := Option.bind_eq_some_iff.1 hn
      rw [un_laws_heldPuzzle_ok h2] at h1
      exact ⟨0, h1⟩
    · cases h
/-! f8 loop.example.g01239.laws.FnExactHarderPuzzle -/
noncomputable def b_laws_FnExactHarderPuzzle : Code := Try.f8.body.getD .skip
def kp_laws_FnExactHarderPuzzle (g : Nat) : Nat → Option Keep := lk []
def O_laws_FnExactHarderPuzzle : List (FuncId × Ora) := [(10, o_laws_szPuzzle), (12, o_laws_toPuzzle), (14, o_laws_eqPuzzle), (18, o_laws_markPuzzle), (30, o_spec_HarderPuzzle), (31, o_impl_HarderPuzzle), (32, o_laws_heldPuzzle)]
def E_laws_FnExactHarderPuzzle : Env := ⟨lk O_laws_FnExactHarderPuzzle, fun _ => false⟩
def S_laws_FnExactHarderPuzzle_e {ρ : Type} (p0_0 : Int) (p0_1 : Int) (p0_2 : List Int) (p0_3 : Int) (p0_4 : Int) (p0_5 : List Int)   (K : Bool → Option ρ) : Option ρ :=
  ((sh_laws_szPuzzle p0_0 p0_1 p0_2 p0_3 p0_4 p0_5 (1048576 : Int)).bind fun r1 => (bif decide (r1 < (0 : Int)) then K true else ((sh_laws_toPuzzle p0_0 p0_1 p0_2 p0_3 p0_4 p0_5).bind fun r2 => ((sh_spec_HarderPuzzle r2.1 r2.2.1 r2.2.2.1 r2.2.2.2.1 r2.2.2.2.2.1 r2.2.2.2.2.2).bind fun r3 => ((sh_laws_toPuzzle p0_0 p0_1 p0_2 p0_3 p0_4 p0_5).bind fun r4 => ((sh_impl_HarderPuzzle r4.1 r4.2.1 r4.2.2.1 r4.2.2.2.1 r4.2.2.2.2.1 r4.2.2.2.2.2).bind fun r5 => ((sh_laws_eqPuzzle r5.1 r5.2.1 r5.2.2.1 r5.2.2.2.1 r5.2.2.2.2.1 r5.2.2.2.2.2.1 r3.1 r3.2.1 r3.2.2.1 r3.2.2.2.1 r3.2.2.2.2.1 r3.2.2.2.2.2.1).bind fun r6 => (bif !r6 then K false else (bif !(r5.2.2.2.2.2.2 == r3.2.2.2.2.2.2) then K false else ((sh_laws_toPuzzle p0_0 p0_1 p0_2 p0_3 p0_4 p0_5).bind fun r7 => ((sh_laws_eqPuzzle r4.1 r4.2.1 r4.2.2.1 r4.2.2.2.1 r4.2.2.2.2.1 r4.2.2.2.2.2 r7.1 r7.2.1 r7.2.2.1 r7.2.2.2.1 r7.2.2.2.2.1 r7.2.2.2.2.2).bind fun r8 => (bif !r8 then K false else ((sh_laws_markPuzzle r4.1 r4.2.1 r4.2.2.1 r4.2.2.2.1 r4.2.2.2.2.1 r4.2.2.2.2.2 (1 : Int)).bind fun r9 => (bif decide (r9.1 < (0 : Int)) then K false else ((sh_laws_eqPuzzle r5.1 r5.2.1 r5.2.2.1 r5.2.2.2.1 r5.2.2.2.2.1 r5.2.2.2.2.2.1 r3.1 r3.2.1 r3.2.2.1 r3.2.2.2.1 r3.2.2.2.2.1 r3.2.2.2.2.2.1).bind fun r10 => (bif !r10 then K false else (bif !(r5.2.2.2.2.2.2 == r3.2.2.2.2.2.2) then K false else ((sh_laws_markPuzzle r5.1 r5.2.1 r5.2.2.1 r5.2.2.2.1 r5.2.2.2.2.1 r5.2.2.2.2.2.1 (1 : Int)).bind fun r11 => ((sh_laws_heldPuzzle r5.1 r5.2.1 r11.2.2.2.1 r5.2.2.2.1 r5.2.2.2.2.1 r11.2.2.2.2.2.2 (1 : Int)).bind fun r12 => (bif decide (r12 < (0 : Int)) then K false else (bif !decide (r12 = r11.1) then K false else ((sh_laws_toPuzzle p0_0 p0_1 p0_2 p0_3 p0_4 p0_5).bind fun r13 => ((sh_impl_HarderPuzzle r13.1 r13.2.1 r13.2.2.1 r13.2.2.2.1 r13.2.2.2.2.1 r13.2.2.2.2.2).bind fun r14 => ((sh_laws_eqPuzzle r14.1 r14.2.1 r14.2.2.1 r14.2.2.2.1 r14.2.2.2.2.1 r14.2.2.2.2.2.1 r3.1 r3.2.1 r3.2.2.1 r3.2.2.2.1 r3.2.2.2.2.1 r3.2.2.2.2.2.1).bind fun r15 => (bif !r15 then K false else (bif !(r14.2.2.2.2.2.2 == r3.2.2.2.2.2.2) then K false else ((sh_laws_heldPuzzle r5.1 r5.2.1 r11.2.2.2.1 r5.2.2.2.1 r5.2.2.2.2.1 r11.2.2.2.2.2.2 (1 : Int)).bind fun r16 => (bif decide (r16 < (0 : Int)) then K false else (bif !decide (r16 = r11.1) then K false else K true)))))))))))))))))))))))))))))
theorem s_laws_FnExactHarderPuzzle_e {ρ : Type} (g fuel : Nat) (p0_0 : Int) (p0_1 : Int) (p0_2 : List Int) (p0_3 : Int) (p0_4 : Int) (p0_5 : List Int) (Kk : Out → Option ρ) : runFn TT E_laws_FnExactHarderPuzzle (kp_laws_FnExactHarderPuzzle g) fuel [.val] 1 false [[]] 96 [.tmp 2] b_laws_FnExactHarderPuzzle [.agg [.int .i64 p0_0, .int .i64 p0_1, .sl (.ints .i64 p0_2), .int .i64 p0_3, .int .i64 p0_4, .sl (.ints .i64 p0_5)]] Kk = S_laws_FnExactHarderPuzzle_e p0_0 p0_1 p0_2 p0_3 p0_4 p0_5   (fun r1 => Kk ⟨[.x (.bool r1)], []⟩) := by
  kernel_rfl
def F_laws_FnExactHarderPuzzle {ρ : Type} (fuel : Nat) (p0_0 : Int) (p0_1 : Int) (p0_2 : List Int) (p0_3 : Int) (p0_4 : Int) (p0_5 : List Int)  (K : Bool → Option ρ) : Option ρ := S_laws_FnExactHarderPuzzle_e p0_0 p0_1 p0_2 p0_3 p0_4 p0_5   K
theorem f_laws_FnExactHarderPuzzle {ρ : Type} (fuel : Nat) (p0_0 : Int) (p0_1 : Int) (p0_2 : List Int) (p0_3 : Int) (p0_4 : Int) (p0_5 : List Int) (Kk : Out → Option ρ) : runFn TT E_laws_FnExactHarderPuzzle (kp_laws_FnExactHarderPuzzle 1) fuel [.val] 1 false [[]] 96 [.tmp 2] b_laws_FnExactHarderPuzzle [.agg [.int .i64 p0_0, .int .i64 p0_1, .sl (.ints .i64 p0_2), .int .i64 p0_3, .int .i64 p0_4, .sl (.ints .i64 p0_5)]] Kk = F_laws_FnExactHarderPuzzle fuel p0_0 p0_1 p0_2 p0_3 p0_4 p0_5 (fun r1 => Kk ⟨[.x (.bool r1)], []⟩) := by
  rw [s_laws_FnExactHarderPuzzle_e, F_laws_FnExactHarderPuzzle]
noncomputable def sh_laws_FnExactHarderPuzzle (p0_0 : Int) (p0_1 : Int) (p0_2 : List Int) (p0_3 : Int) (p0_4 : Int) (p0_5 : List Int) : Option (Bool) := F_laws_FnExactHarderPuzzle 0 p0_0 p0_1 p0_2 p0_3 p0_4 p0_5 (fun r1 => some r1)
noncomputable def G_laws_FnExactHarderPuzzle {ρ : Type} : List DU → (Out → Option ρ) → Option ρ
  | [.agg [.int .i64 p0_0, .int .i64 p0_1, .sl (.ints .i64 p0_2), .int .i64 p0_3, .int .i64 p0_4, .sl (.ints .i64 p0_5)]], K => (sh_laws_FnExactHarderPuzzle p0_0 p0_1 p0_2 p0_3 p0_4 p0_5).bind fun r => K ⟨[.x (.bool r)], []⟩
  | _, _ => none
noncomputable def o_laws_FnExactHarderPuzzle : Ora := ⟨[.val], 1, false, G_laws_FnExactHarderPuzzle⟩
def un_laws_FnExactHarderPuzzle : Out → Option (Bool)
  | ⟨[.x (.bool r1)], []⟩ => some r1
  | _ => none
theorem un_laws_FnExactHarderPuzzle_ok {o : Out} {r : Bool} (h : un_laws_FnExactHarderPuzzle o = some r) : o = ⟨[.x (.bool r)], []⟩ := by
  unfold un_laws_FnExactHarderPuzzle at h
  split at h
  · injection h with h
    subst h
    rfl
  · cases h
theorem n_laws_FnExactHarderPuzzle : ∀ k o, E_laws_FnExactHarderPuzzle.fn k = some o → Nat1 o := fun k o h => (ook_list (P := Try.prog) (l := O_laws_FnExactHarderPuzzle) (fk := E_laws_FnExactHarderPuzzle.fk) (List.forall_mem_cons.2 ⟨m_laws_szPuzzle, (List.forall_mem_cons.2 ⟨m_laws_toPuzzle, (List.forall_mem_cons.2 ⟨m_laws_eqPuzzle, (List.forall_mem_cons.2 ⟨m_laws_markPuzzle, (List.forall_mem_cons.2 ⟨m_spec_HarderPuzzle, (List.forall_mem_cons.2 ⟨m_impl_HarderPuzzle, (List.forall_mem_cons.2 ⟨m_laws_heldPuzzle, (List.forall_mem_nil _)⟩)⟩)⟩)⟩)⟩)⟩)⟩)).nat k o h
theorem u_laws_FnExactHarderPuzzle (fuel : Nat) (p0_0 : Int) (p0_1 : Int) (p0_2 : List Int) (p0_3 : Int) (p0_4 : Int) (p0_5 : List Int) : runFn TT E_laws_FnExactHarderPuzzle (kp_laws_FnExactHarderPuzzle 1) fuel [.val] 1 false [[]] 96 [.tmp 2] b_laws_FnExactHarderPuzzle [.agg [.int .i64 p0_0, .int .i64 p0_1, .sl (.ints .i64 p0_2), .int .i64 p0_3, .int .i64 p0_4, .sl (.ints .i64 p0_5)]] un_laws_FnExactHarderPuzzle = F_laws_FnExactHarderPuzzle fuel p0_0 p0_1 p0_2 p0_3 p0_4 p0_5 (fun r1 => some r1) := f_laws_FnExactHarderPuzzle fuel p0_0 p0_1 p0_2 p0_3 p0_4 p0_5 un_laws_FnExactHarderPuzzle
theorem m_laws_FnExactHarderPuzzle : MeetsO Try.prog 8 o_laws_FnExactHarderPuzzle := by
  refine ⟨fun ρ ds K => ?_, ⟨_, meets_run (kp := kp_laws_FnExactHarderPuzzle 1) (weak := false) (df := [[]]) tsOk (ook_list (l := O_laws_FnExactHarderPuzzle) (fk := E_laws_FnExactHarderPuzzle.fk) (List.forall_mem_cons.2 ⟨m_laws_szPuzzle, (List.forall_mem_cons.2 ⟨m_laws_toPuzzle, (List.forall_mem_cons.2 ⟨m_laws_eqPuzzle, (List.forall_mem_cons.2 ⟨m_laws_markPuzzle, (List.forall_mem_cons.2 ⟨m_spec_HarderPuzzle, (List.forall_mem_cons.2 ⟨m_impl_HarderPuzzle, (List.forall_mem_cons.2 ⟨m_laws_heldPuzzle, (List.forall_mem_nil _)⟩)⟩)⟩)⟩)⟩)⟩)⟩)) mixed Try.func8 (body := b_laws_FnExactHarderPuzzle) (by kernel_rfl) (ntmps := 96) (by kernel_rfl) (rs := [.tmp 2]) (by kernel_rfl), fun ds out h => ?_⟩, ⟨_, Try.func8, by kernel_rfl, by kernel_rfl⟩⟩
  · show G_laws_FnExactHarderPuzzle ds K = (G_laws_FnExactHarderPuzzle ds some).bind K
    unfold G_laws_FnExactHarderPuzzle
    split
    · cases sh_laws_FnExactHarderPuzzle _ _ _ _ _ _ <;> rfl
    · rfl
  · replace h : G_laws_FnExactHarderPuzzle ds some = some out := h
    unfold G_laws_FnExactHarderPuzzle at h
    split at h
    · obtain ⟨r, hr, h⟩ := Option.bind_eq_some_iff.1 h
      injection h with h
      subst h
      have hn := (u_laws_FnExactHarderPuzzle 0 _ _ _ _ _ _).trans hr
      rw [runFn_bind (K := un_laws_FnExactHarderPuzzle) (K' := some) (f := un_laws_FnExactHarderPuzzle) n_laws_FnExactHarderPuzzle (fun _ => rfl)] at hn
      obtain ⟨o, h1, h2⟩ := Option.bind_eq_some_iff.1 hn
      rw [un_laws_FnExactHarderPuzzle_ok h2] at h1
      exact ⟨0, h1⟩
    · cases h
end
end Go.Proofs.Ytdodbbhpdoiicaa

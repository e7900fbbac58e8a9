/-
  An evaluator of the model's code that tells values by what they hold, and the proof that what it answers is what the machine does (part 2).
-/
import Derived.Test.YtdodbbhpdoiicaaC1
set_option linter.unusedVariables false
set_option linter.unusedSimpArgs false
/-
  Literals, made slices, parts of slices, lengths.
-/
namespace Go.BV
section
variable {P : Program} {T : TypeId → TI} {O : Env} {F : Fx} {g : Gh} {st : St} {a : Act} {w : World} {o : Oper} {site : Nat} {next : Act → World → Prop} {Q : Exit → Act → World → Prop}

theorem foldl_set (off : Nat) : ∀ (vs : List Value) (k : Nat) (cells : Array Value), off + k + vs.length ≤ cells.size →
    ((vs.zipIdx k).foldl (fun cs (p : Value × Nat) => cs.setIfInBounds (off + p.2) p.1) cells).toList = cells.toList.take (off + k) ++ vs ++ cells.toList.drop (off + k + vs.length)
  | [], k, cells, _ => by simp
  | v :: vs, k, cells, h => by
    simp only [List.length_cons] at h
    simp only [List.zipIdx_cons, List.foldl_cons]
    rw [foldl_set off vs (k + 1) _ (by simp; omega)]
    simp only [Array.toList_setIfInBounds, List.length_cons]
    rw [show off + (k + 1) = off + k + 1 by omega, show off + k + 1 + vs.length = off + k + (vs.length + 1) by omega]
    have hk : off + k < cells.toList.length := by simp; omega
    rw [List.drop_set_of_lt (by omega), List.take_set, List.take_succ_eq_append_getElem (by simpa using hk)]
    rw [List.set_append_right _ _ (by simp; exact Nat.min_le_left _ _)]
    simp only [List.length_take]
    rw [show off + k - min (off + k) cells.toList.length = 0 by omega]
    simp
theorem fill_step {place : Nat → Option (Nat × Nat)} {cells : Array Value} {i off size : Nat} {v : Value} {rest : List (Nat × Value)} (hp : place i = some (off, size)) (hs : v.cells.size = size) (hb : off + size ≤ cells.size) :
    ∃ cells', cells'.toList = cells.toList.take off ++ v.cells.toList ++ cells.toList.drop (off + size) ∧ Instr.fill place cells ((i, v) :: rest) = Instr.fill place cells' rest := by
  refine ⟨(v.cells.toList.zipIdx).foldl (fun cs (p : Value × Nat) => cs.setIfInBounds (off + p.2) p.1) cells, ?_, ?_⟩
  · have := foldl_set off v.cells.toList 0 cells (by simpa [hs] using hb)
    simpa [hs] using this
  · have h1 : (v.cells.size ≠ size || off + v.cells.size > cells.size) = false := by
      rw [hs]; simp; omega
    simp only [Instr.fill, hp, h1, Bool.false_eq_true, if_false]
    congr 1
    rw [← Array.foldl_toList]
    simp

variable (hR : R F g st a w)
include hR

theorem fill_ok {fs : List (Nat × Nat × Bool)} {place : Nat → Option (Nat × Nat)} (hp : ∀ i off size ag, fs[i]? = some (off, size, ag) → place i = some (off, size)) :
    ∀ (ps : List (Nat × V)) (vs : List (Nat × Value)) (cs cs' : List X) (cells : Array Value), ps.map (·.1) = vs.map (·.1) → (∀ (k : Nat) v u, (ps.map (·.2))[k]? = some v → (vs.map (·.2))[k]? = some u → VR g w v u) → buildC fs cs ps = some cs' → XsR g w cs cells.toList →
      ∃ cells', Instr.fill place cells vs = some cells' ∧ XsR g w cs' cells'.toList
  | [], [], cs, cs', cells, _, _, h, hx => by
    simp only [buildC] at h
    injection h with h
    subst h
    exact ⟨cells, rfl, hx⟩
  | [], _ :: _, _, _, _, he, _, _, _ => by simp at he
  | _ :: _, [], _, _, _, he, _, _, _ => by simp at he
  | (i, pv) :: ps, (j, v) :: vs, cs, cs', cells, he, hv, h, hx => by
    simp only [List.map_cons] at he
    injection he with e1 e2
    subst e1
    cases pv with
    | tup us => simp [buildC] at h
    | u y =>
      simp only [buildC] at h
      split at h
      · rename_i off size ag hf
        cases hb : (y.cells.length == size && y.cells.all X.cellOk)
        · rw [hb] at h; cases h
        · rw [hb] at h
          simp only [cond_true] at h
          simp only [Bool.and_eq_true] at hb
          split at h
          · rename_i cs1 hsp
            have hlen : y.cells.length = size := by simpa using hb.1
            have hy := UR.cells hR.w (hv 0 (.u y) v rfl rfl) hb.2
            have hl := hy.1.length
            unfold splice at hsp
            cases hble : Nat.ble (off + y.cells.length) cs.length
            · rw [hble] at hsp; cases hsp
            · rw [hble] at hsp
              injection hsp with hsp
              subst hsp
              have hle := Nat.le_of_ble_eq_true hble
              have hxl : cs.length = cells.size := by simpa using hx.length
              obtain ⟨cells', h1, h2⟩ := fill_step (cells := cells) (v := v) (rest := vs) (hp i off size ag hf) (by simpa [hlen] using hl.symm) (by rw [hlen] at hle; omega)
              rw [h2]
              refine fill_ok hp ps vs _ cs' cells' e2 (fun k v' u' h3 h4 => hv (k + 1) v' u' (by simpa using h3) (by simpa using h4)) h ?_
              rw [h1, hlen]
              exact ((hx.take off).append hy.1).append (hx.drop _)
          · cases h
      · cases h

theorem s_build {t : TypeId} {ps : Array (Nat × Operand)} {fs : List (Nat × Nat × Bool)} {cs : List X} (hT : TsOk P T) (ho : o.op = .build t ps) (ht : (T t).u = .struct fs) (hb : buildC fs (T t).zero (ps.toList.map fun (i, x) => (i, ev st x)) = some cs)
    (hn : Nx F site g (st.out site o.dst (.u (.agg cs)) none) next) : o.wp P a w next Q := by
  have hk : (T t).u ≠ .other := by rw [ht]; simp
  obtain ⟨inf, z, h1, h2, h3, h4⟩ := (hT.ok t hk).info
  obtain ⟨fields, h5, h6, h7⟩ := desc hT ht (by simp)
  have hpl : ∀ (l : List Field) (fs' : List (Nat × Nat × Bool)), l.length = fs'.length → (∀ (i off size : Nat) (ag : Bool), fs'[i]? = some (off, size, ag) → ∃ f inf d, l[i]? = some f ∧ f.offset = off ∧ P.info? f.type = some inf ∧ inf.size = size ∧ size ≠ 0 ∧ P.underlying f.type = some d ∧ ag = aggB d) →
      l.mapM (fun f => (P.info? f.type).map fun i => (f.offset, i.size)) = some (fs'.map fun (x : Nat × Nat × Bool) => (x.1, x.2.1)) := by
    intro l
    induction l with
    | nil => intro fs' hl _; cases fs' with
      | nil => rfl
      | cons => simp at hl
    | cons f l ih => intro fs' hl hh; cases fs' with
      | nil => simp at hl
      | cons x fs' =>
        obtain ⟨f', inf', d', q1, q2, q3, q4, _⟩ := hh 0 x.1 x.2.1 x.2.2 rfl
        simp at q1
        subst q1
        have := ih fs' (by simpa using hl) fun i off size ag hi => hh (i + 1) off size ag (by simpa using hi)
        simp [q3, this, q2, q4]
  have hpl' := hpl fields.toList fs (by simpa using h6) (by simpa using h7)
  obtain ⟨cells, h8, h9⟩ := fill_ok hR (fs := fs) (place := ((fs.map fun (x : Nat × Nat × Bool) => (x.1, x.2.1)).toArray[·]?)) (fun i off size ag hi => by simp [hi]) (ps.toList.map fun (i, x) => (i, ev st x)) (ps.toList.map fun (i, x) => (i, a.eval x)) _ cs z.cells (by simp) (fun k v u h10 h11 => by
    simp only [List.map_map, List.getElem?_map, Option.map_eq_some_iff] at h10 h11
    obtain ⟨p, hp, rfl⟩ := h10
    obtain ⟨q, hq, rfl⟩ := h11
    rw [hp] at hq
    injection hq with hq
    subst hq
    exact ev_ok hR.s _) hb (h4 g w)
  refine fin_val (v := .u (.agg cs)) (u := .agg cells) hR ⟨cells.toList, by simp, h9⟩ ?_ hn
  have := run_build (P := P) w t (ps.map fun (i, x) => (i, a.eval x)) cells (by
    unfold Program.built
    simp only [h1, h5, h3, hpl']
    simpa using h8)
  simp only [execOp, ho, Sem.run_bind, this, Result.andThen_ok, Sem.run_pure]

theorem C_set {c c' : C} {i : Nat} {s : S0} (h : c.set i s = some c') (hi : i < c.len) : c'.len = c.len ∧ ∀ j, j < c.len → c'.get j = if j = i then s else c.get j := by
  have _ := hR
  unfold C.set at h
  split at h
  · split at h
    · rename_i hk
      injection h with h
      subst h hk
      refine ⟨by simp [C.len], fun j hj => ?_⟩
      simp only [C.len] at hi hj
      by_cases e : j = i
      · subst e; simp [C.get, List.getD_eq_getElem?_getD, List.getElem?_set, hi]
      · simp [C.get, List.getD_eq_getElem?_getD, List.getElem?_set, e, Ne.symm e]
    · cases h
  all_goals first
    | (injection h with h
       subst h
       refine ⟨by simp [C.len], fun j hj => ?_⟩
       simp only [C.len] at hi hj
       by_cases e : j = i
       · subst e; simp [C.get, List.getD_eq_getElem?_getD, List.getElem?_set, hi]
       · simp [C.get, List.getD_eq_getElem?_getD, List.getElem?_set, e, Ne.symm e])
    | cases h
theorem toS0_ok {x : X} {s : S0} {v : Value} (hx : XR g w x v) (hs : x.toS0 = some s) (hno : x.toks.isEmpty = true) : SR w g.Z s v := by
  have _ := hR
  cases x <;> simp only [X.toS0] at hs <;> first
    | (cases hs; done)
    | (cases hno; done)
    | (injection hs with hs; subst hs; exact hx)
    | skip
  case nil c =>
    cases hw : c.whole
    · rw [hw] at hs; cases hs
    · rw [hw] at hs
      injection hs with hs; subst hs
      refine CR_rd.2 (CR_iff.2 ⟨none, 0, by rw [hx.2]; exact hx.1, by rw [hx.2]; exact Nat.le_refl _, fun h => by rw [hx.2] at h; omega, fun ad h => by cases h⟩)
theorem buildL_plain : ∀ {ps : List (Nat × V)} {c c' : C}, buildL c ps = some c' → (c.plain = true → c'.plain = true) ∧ (c.plain = false → c' = c)
  | [], c, c', h => by
    have _ := hR
    simp only [buildL] at h
    injection h with h
    subst h
    exact ⟨fun h => h, fun _ => rfl⟩
  | (i, pv) :: ps, c, c', h => by
    cases pv with
    | tup us => simp [buildL] at h
    | u y0 => cases y0 with
    | agg xs => simp [buildL] at h
    | x y =>
      simp only [buildL] at h
      cases hb : y.toks.isEmpty
      · rw [hb] at h; cases h
      · rw [hb] at h
        simp only [cond_true] at h
        split at h
        · rename_i s hs
          cases hb : Nat.blt i c.len
          · rw [hb] at h; cases h
          · rw [hb] at h
            simp only [cond_true] at h
            split at h
            · rename_i c1 hset
              have hp : c.plain = true ∧ c1.plain = true := by
                unfold C.set at hset
                split at hset <;> first
                  | (injection hset with hset; subst hset; exact ⟨rfl, rfl⟩)
                  | (split at hset <;> first | (injection hset with hset; subst hset; exact ⟨rfl, rfl⟩) | cases hset)
                  | cases hset
              exact ⟨fun _ => (buildL_plain h).1 hp.2, fun hc => by rw [hp.1] at hc; cases hc⟩
            · cases h
        · cases h
theorem buildL_ok : ∀ (ps : List (Nat × V)) (vs : List (Nat × Value)) (c c' : C) (cells : Array Value), ps.map (·.1) = vs.map (·.1) → (∀ (k : Nat) v u, (ps.map (·.2))[k]? = some v → (vs.map (·.2))[k]? = some u → VR g w v u) → buildL c ps = some c' →
      cells.size = c.len → (∀ i, i < c.len → ∃ u, cells[i]? = some u ∧ SR w g.Z (c.get i) u) → ∃ cells', Instr.fill (fun i => some (i * 1, 1)) cells vs = some cells' ∧ c'.len = c.len ∧ cells'.size = c.len ∧ ∀ i, i < c.len → ∃ u, cells'[i]? = some u ∧ SR w g.Z (c'.get i) u
  | [], [], c, c', cells, _, _, h, hl, hx => by
    simp only [buildL] at h
    injection h with h
    subst h
    exact ⟨cells, rfl, rfl, hl, hx⟩
  | [], _ :: _, _, _, _, he, _, _, _, _ => by simp at he
  | _ :: _, [], _, _, _, he, _, _, _, _ => by simp at he
  | (i, pv) :: ps, (j, v) :: vs, c, c', cells, he, hv, h, hl, hx => by
    simp only [List.map_cons] at he
    injection he with e1 e2
    subst e1
    have hvr := hv 0 pv v rfl rfl
    cases pv with
    | tup us => simp [buildL] at h
    | u y0 => cases y0 with
    | agg xs => simp [buildL] at h
    | x y =>
      simp only [buildL] at h
      cases hno : y.toks.isEmpty
      · rw [hno] at h; cases h
      · rw [hno] at h
        simp only [cond_true] at h
        split at h
        · rename_i s hs
          cases hb : Nat.blt i c.len
          · rw [hb] at h; cases h
          · rw [hb] at h
            simp only [cond_true] at h
            split at h
            · rename_i c1 hset
              have hi : i < c.len := by simpa using hb
              obtain ⟨hl1, hg1⟩ := C_set hR hset hi
              have hsr := toS0_ok hR (x := y) hvr hs hno
              have hok : y.cellOk = true := by cases y <;> first | rfl | (simp [X.toS0] at hs)
              have hone := (XR.one hR.w (x := y) hvr hok).2
              obtain ⟨cells1, h1, h2⟩ := fill_step (place := fun i => some (i * 1, 1)) (cells := cells) (i := i) (v := v) (rest := vs) rfl (by rw [hone]; rfl) (by omega)
              rw [h2]
              have hlen1 : cells1.size = cells.size := by
                have := congrArg List.length h1
                simp [hone] at this
                omega
              obtain ⟨cells', q1, q2, q3, q4⟩ := buildL_ok ps vs c1 c' cells1 e2 (fun k v' u' h3 h4 => hv (k + 1) v' u' (by simpa using h3) (by simpa using h4)) h (by omega) (fun j hj => by
                rw [hl1] at hj
                have hgj : cells1[j]? = if j = i then some v else cells[j]? := by
                  have hset' : cells1.toList = cells.toList.set i v := by
                    rw [h1, hone, List.set_eq_take_append_cons_drop, if_pos (by simp; omega)]
                    simp
                  rw [← Array.getElem?_toList, hset', List.getElem?_set]
                  by_cases e : i = j
                  · rw [if_pos e, if_pos e.symm, if_pos (by simp; omega)]
                  · rw [if_neg e, if_neg (Ne.symm e)]; simp
                rw [hgj, hg1 j hj]
                by_cases e : j = i
                · rw [if_pos e, if_pos e]; exact ⟨v, rfl, hsr⟩
                · rw [if_neg e, if_neg e]; exact hx j hj)
              exact ⟨cells', q1, by omega, by omega, fun i hi => q4 i (by omega)⟩
            · cases h
        · cases h

theorem cells_rows {w' : World} {Z : Nat → Prop} {n : Nat} {l : List Value} {b : Nat} {B : Nat → Prop} (h : ∀ i, i < n → l[i]? = some (.slice none 0 0)) : Cells w' Z (.orows (List.replicate n [])) l 0 b B (fun _ => .slice none 0 0) := by
  have _ := hR
  have key : ∀ i (x : List Int), (List.replicate n ([] : List Int))[i]? = some x → i < n ∧ x = [] := fun i x hx => by
    have := (List.getElem?_eq_some_iff.1 hx)
    obtain ⟨h1, h2⟩ := this
    simp at h1 h2
    exact ⟨h1, h2⟩
  refine ⟨fun i x hx => ⟨_, by rw [Nat.zero_add]; exact h i (key i x hx).1, fun _ => rfl⟩, fun i x hx _ => .inl ⟨rfl, by rw [(key i x hx).2]; rfl⟩, fun i j x y b' _ _ _ _ hb _ => by simp [Value.ownBlock] at hb⟩
theorem zeros_len {e : C} {n : Nat} : (e.zeros n).len = n := by
  have _ := hR
  cases e <;> simp [C.zeros, C.len]
theorem zeros_np {e : C} {n : Nat} (h : (e.zeros n).plain = false) : e.plain = false ∧ e.zeros n = .orows (List.replicate n []) := by
  have _ := hR
  cases e <;> first | exact ⟨rfl, rfl⟩ | (exact absurd h (by simp [C.zeros, C.plain, C.rd]))
theorem rd_np {e : C} {n : Nat} (h : (e.rd.zeros n).plain = false) : e.plain = false ∧ e.rd.zeros n = .orows (List.replicate n []) := by
  have _ := hR
  cases e <;> first | exact ⟨rfl, rfl⟩ | (exact absurd h (by simp [C.zeros, C.plain, C.rd]))
theorem rd_get0 {e : C} {n i : Nat} : (e.rd.zeros n).get i = (e.zeros n).get i := by
  have _ := hR
  cases e <;> rfl
theorem run_buildSlice {t : TypeId} {n : Nat} {ps : Array (Nat × Operand)} {el : TypeId} {ie : TypeInfo} {ze : Value} {cells : Array Value} (ho : o.op = .buildSlice t n ps) (d1 : P.underlying t = some (.slice el)) (d2 : P.info? el = some ie) (d3 : ie.size = 1) (d5 : ie.zero = some ze) (d6 : ze.cells = #[ze]) (hn4 : n ≤ 4096)
    (h1 : Instr.fill (fun i => some (i * 1, 1)) ((Array.range n).map fun _ => ze) (ps.toList.map fun (i, x) => (i, a.eval x)) = some cells) : (execOp a.eval o).run P w = .ok (.value (.slice (some ⟨w.heap.size, 0, none⟩) n n)) (w.alloc (.cells cells el)) := by
  have _ := hR
  have hm : ∀ m, m = n → ((Array.range m).map fun x => (#[ze] : Array Value)[x % (#[ze] : Array Value).size]!) = (Array.range n).map fun _ => ze := by
    intro m hm
    subst hm
    apply Array.map_congr_left
    intro x _
    simp [Nat.mod_one]
  by_cases h0 : n = 0
  · subst h0
    simp [execOp, ho, Instr.buildSlice, run_underlying d1, sizeOf, typeInfo, d2, d3, newRow]
    have : ((Array.range 0).map fun _ => ze) = #[] := by simp
    rw [this] at h1
    have hd0 : Array.map (fun x => (default : Value)) (Array.range 0) = #[] := by simp
    simp at h1
    rw [hd0]
    simp [h1]
  · have hfill : Instr.fill (fun i => some (i, 1)) ((Array.range n).map fun _ => ze) (ps.toList.map fun (i, x) => (i, a.eval x)) = some cells := by simpa using h1
    have hle : ¬ (2 ^ 24 < n) := by omega
    have h24' : ¬ (16777216 < n) := by omega
    simp only [execOp, ho, Instr.buildSlice, Sem.run_bind, run_underlying d1, Result.andThen_ok, sizeOf, typeInfo, run_program, d2, d3, Nat.mul_one, zeroValue, d5, d6, Sem.run_pure]
    simp only [hle, if_false, Sem.run_bind, Sem.run_pure, Result.andThen_ok, h0, run_program, d2, d5, d6]
    rw [hm n rfl]
    simp [hfill, newRow]
theorem s_buildSlice {t : TypeId} {n : Nat} {ps : Array (Nat × Operand)} {e c : C} (hT : TsOk P T) (hf : Fresh site g st) (ho : o.op = .buildSlice t n ps) (ht : (T t).u = .slice e) (h24 : Nat.ble n 4096 = true)
    (hb : buildL (bif n == 0 then e.zeros n else e.rd.zeros n) (ps.toList.map fun (i, x) => (i, ev st x)) = some c) (hn : Nx F site g (st.out site o.dst (.u (.x (.own (nm site 0) c))) none) next) : o.wp P a w next Q := by
  obtain ⟨el, ie, ze, d1, _, _, d2, d3, d4, d5, d6, dz, d7⟩ := desc hT ht (by simp)
  have hn4 : n ≤ 4096 := Nat.le_of_ble_eq_true h24
  obtain ⟨z, hz, hzl, hzg, hzn⟩ : ∃ z, (bif n == 0 then e.zeros n else e.rd.zeros n) = z ∧ z.len = n ∧ (∀ i, z.get i = (e.zeros n).get i) ∧ (z.plain = false → e.plain = false ∧ z = .orows (List.replicate n [])) := by
    cases h0 : n == 0
    · exact ⟨_, rfl, by rw [cond_false, zeros_len hR], fun i => by rw [cond_false, rd_get0 hR], fun h => rd_np hR h⟩
    · exact ⟨_, rfl, zeros_len hR, fun _ => rfl, fun h => zeros_np hR h⟩
  rw [hz] at hb
  obtain ⟨cells, h1, h2, h3, h4⟩ := buildL_ok hR (ps.toList.map fun (i, x) => (i, ev st x)) (ps.toList.map fun (i, x) => (i, a.eval x)) z c ((Array.range n).map fun _ => ze) (by simp) (fun k v u h10 h11 => by
    simp only [List.map_map, List.getElem?_map, Option.map_eq_some_iff] at h10 h11
    obtain ⟨p, hp, rfl⟩ := h10
    obtain ⟨q, hq, rfl⟩ := h11
    rw [hp] at hq
    injection hq with hq
    subst hq
    exact ev_ok hR.s _) hb (by simp [hzl]) (fun i hi => ⟨ze, by rw [hzl] at hi; simp [hi], by rw [hzg]; exact d7 _ _ _ _ (by omega)⟩)
  rw [hzl] at h2 h3 h4
  have hcells : ∃ I, Cells (w.alloc (.cells cells el)) g.Z c cells.toList 0 w.heap.size (fun b => b = w.heap.size) I := by
    have hst : Stay g.Z w g.Z (w.alloc (.cells cells el)) := hR.w.stay fun _ hb => heap_alloc_lt hb
    cases hp : c.plain with
    | true =>
      refine ⟨fun _ => undef, (cells_plain hp).2 fun i hi => ?_⟩
      obtain ⟨u, hu, hs⟩ := h4 i (by omega)
      exact ⟨u, by simpa using hu, hs.mono hst⟩
    | false =>
      have hzp : z.plain = false := by
        cases q : z.plain
        · rfl
        · rw [(buildL_plain hR hb).1 q] at hp; cases hp
      have hcz := (buildL_plain hR hb).2 hzp
      obtain ⟨q1, q2⟩ := hzn hzp
      refine ⟨fun _ => .slice none 0 0, ?_⟩
      rw [hcz, q2]
      refine cells_rows hR fun i hi => ?_
      obtain ⟨u, hu, hs⟩ := h4 i hi
      have hg : c.get i = .sl (.ints .i64 []) := by rw [hcz, q2]; simp [C.get, hi]
      -- nothing was laid over it
      have hps : ∀ (l : List (Nat × V)) (vs : List (Nat × Value)), l.map (·.1) = vs.map (·.1) → buildL z l = some c → l = [] := by
        intro l vs _ hl
        cases l with
        | nil => rfl
        | cons p l =>
          obtain ⟨i, pv⟩ := p
          cases pv with
          | tup us => simp [buildL] at hl
          | u y0 => cases y0 with
          | agg xs => simp [buildL] at hl
          | x y =>
            simp only [buildL] at hl
            cases hno : y.toks.isEmpty
            · rw [hno] at hl; cases hl
            · rw [hno] at hl
              simp only [cond_true] at hl
              split at hl
              · cases hb : Nat.blt i z.len
                · rw [hb] at hl; cases hl
                · rw [hb] at hl
                  simp only [cond_true] at hl
                  split at hl
                  · rename_i c1 hset
                    rw [q2] at hset
                    simp [C.set] at hset
                  · cases hl
              · cases hl
      have hnil := hps _ (ps.toList.map fun (i, x) => (i, a.eval x)) (by simp) hb
      have hvs : (ps.toList.map fun (i, x) => (i, a.eval x)) = [] := by
        have : ps.toList = [] := by simpa using hnil
        rw [this]; rfl
      rw [hvs] at h1
      simp only [Instr.fill, Option.some.injEq] at h1
      rw [← h1]
      rcases dz with q | q
      · rw [q1] at q; cases q
      · rw [← q]; simp [hi]
  obtain ⟨I, hcells⟩ := hcells
  refine fin_ownC hR hf (c := c) (vs := cells) (e := el) (cap := n) (I := I) (by omega) (by omega) hcells ?_ hn
  rw [h2]
  exact run_buildSlice hR ho d1 d2 d3 d5 d6 hn4 h1
theorem madeCells_one {ze : Value} {n : Nat} : madeCells #[ze] n = (Array.range n).map fun _ => ze := by
  have _ := hR
  unfold madeCells
  apply Array.map_congr_left
  intro x _
  simp [Nat.mod_one]
theorem s_makeSlice {t : TypeId} {l c : Operand} {e : C} {k : IntKind} {n : Int} (hT : TsOk P T) (hf : Fresh site g st) (ho : o.op = .makeSlice t l c) (ht : (T t).u = .slice e) (hl : ev st l = .u (.x (.int k n))) (hs : sameOp l c = true) (h0 : 0 ≤ n) (h1 : n ≤ 1099511627776)
    (hn : Nx F site g (st.out site o.dst (.u (.x (.own (nm site 0) (e.zeros n.toNat)))) none) next) : o.wp P a w next Q := by
  obtain ⟨el, ie, ze, d1, _, _, d2, d3, d4, d5, d6, dz, d7⟩ := desc hT ht (by simp)
  have hle := ev_int hR hl
  obtain ⟨k', hc⟩ : ∃ k', a.eval c = .int k' n := by
    unfold sameOp at hs
    split at hs
    · have := eq_of_beq hs
      subst this
      exact ⟨k, hle⟩
    · rename_i k1 p k2 q
      have := eq_of_beq hs
      subst this
      have h2 : Value.int k1 p = Value.int k n := hle
      injection h2 with _ h2
      exact ⟨k2, by rw [← h2]; rfl⟩
    · cases hs
  have hby : (ie.bytes : Int) * n ≤ 281474976710656 := by
    have h2 : (ie.bytes : Int) ≤ 64 := by omega
    have h3 := Int.mul_le_mul_of_nonneg_right h2 h0
    omega
  have hzl : (e.zeros n.toNat).len = n.toNat := by cases e <;> simp [C.zeros, C.len]
  have hrun := run_make (P := P) w t el ie ze d1 d2 d5 k k' n n h0 (Int.le_refl _) hby (by omega)
  rw [d3, d6, Nat.mul_one, madeCells_one hR] at hrun
  have hcells : ∃ I, Cells (w.alloc (.cells ((Array.range n.toNat).map fun _ => ze) el)) g.Z (e.zeros n.toNat) ((Array.range n.toNat).map fun _ => ze).toList 0 w.heap.size (fun b => b = w.heap.size) I := by
    cases hp : (e.zeros n.toNat).plain with
    | true =>
      refine ⟨fun _ => undef, (cells_plain hp).2 fun i hi => ⟨ze, ?_, d7 _ _ _ _ (by omega)⟩⟩
      rw [hzl] at hi; simp [hi]
    | false =>
      obtain ⟨q1, q2⟩ := zeros_np hR hp
      rw [q2]
      refine ⟨_, cells_rows hR fun i hi => ?_⟩
      rcases dz with q | q
      · rw [q1] at q; cases q
      · rw [← q]; simp [hi]
  obtain ⟨I, hcells⟩ := hcells
  refine fin_ownC hR hf (c := e.zeros n.toNat) (vs := (Array.range n.toNat).map fun _ => ze) (e := el) (cap := n.toNat) (I := I) (by omega) (by simp) hcells ?_ hn
  rw [hzl]
  simp only [execOp, ho, hle, hc, Sem.run_bind, hrun, Result.andThen_ok, Sem.run_pure]

/-- What a slice's value looks like. -/
theorem asSlice_hdr {x : V} {c : C} {u : Value} (h : asSlice x = some c) (hx : VR g w x u) : ∃ b cap, u = .slice b c.len cap := by
  have own : ∀ {n : Nat} {c : C}, g.own n = some (u, c) → ∃ b cap, u = .slice b c.len cap := fun h => by
    rcases hR.w.own _ _ _ h with ⟨e1, e2⟩ | ⟨b, off, cap, l, e1, _⟩
    · exact ⟨none, 0, by rw [e2]; exact e1⟩
    · exact ⟨_, cap, e1⟩
  unfold asSlice at h
  split at h
  · injection h with h; subst h
    obtain ⟨b, cap, e, _⟩ := CR_iff.1 (show CR w g.Z _ u from hx); exact ⟨b, cap, e⟩
  · rename_i c0
    cases hw : c0.whole
    · rw [hw] at h; cases h
    · rw [hw] at h
      injection h with h; subst h
      obtain ⟨e1, e2⟩ := hx
      exact ⟨none, 0, by rw [rd_len, e2]; exact e1⟩
  · rename_i n c0
    cases hw : c0.whole
    · rw [hw] at h; cases h
    · rw [hw] at h
      injection h with h; subst h
      rw [rd_len]; exact own hx
  · injection h with h; subst h
    obtain ⟨v', xs, ys, h1, h2, rfl, rfl⟩ := hx
    rcases hR.w.own _ _ _ h1 with ⟨_, h0⟩ | ⟨b, off, cap, l, e, _, _, _, _, h5⟩
    · have := (List.getElem?_eq_some_iff.1 h2).1
      have h0 : xs.length = 0 := h0
      omega
    · have h5 : Rows w xs (fun _ => False) l off b _ _ := h5
      rcases h5.own _ _ h2 (fun h => h) with ⟨e1, e2⟩ | ⟨b', off', cap', l', e1, _⟩
      · exact ⟨none, 0, by rw [e1, C.len, e2]⟩
      · exact ⟨_, cap', e1⟩
  · cases h
theorem s_len {t : TypeId} {x : Operand} {args : Array Operand} {tys : Array TypeId} {e c : C} (hT : TsOk P T) (ho : o.op = .call { callee := .builtin .len, args := args, argTypes := tys }) (ha : args.toList = [x]) (ht : (T (tys.getD 0 0)).u = .slice e) (hx : asSlice (ev st x) = some c) (h0 : 0 < tys.size)
    (hn : Nx F site g (st.out site o.dst (.u (.x (.int .i64 c.len))) none) next) : o.wp P a w next Q := by
  obtain ⟨el, ie, ze, d1, _⟩ := desc hT ht (by simp)
  have hv := asSlice_hdr hR hx (ev_ok hR.s x)
  obtain ⟨b, cap, hv⟩ := hv
  have ha' : args = #[x] := by rw [← Array.toArray_toList (xs := args), ha]
  have ht0 : tys[0]? = some (tys.getD 0 0) := by simp [Array.getD_eq_getD_getElem?, h0]
  refine fin_val (v := .u (.x (.int .i64 c.len))) (u := .int .i64 c.len) hR rfl ?_ hn
  simp only [execOp, ho, ha', resolve, invoke, builtin, Sem.run_bind, Sem.run_pure, Result.andThen_ok, List.map_toArray, List.map_cons, List.map_nil, hv]
  simp only [Builtin.len_, ht0, List.getElem?_toArray, List.getElem?_cons_zero, Sem.run_bind, run_underlying d1, Result.andThen_ok, Sem.run_pure, goInt]
theorem s_lenStr {t : TypeId} {x : Operand} {args : Array Operand} {tys : Array TypeId} {s : ByteArray} (hT : TsOk P T) (ho : o.op = .call { callee := .builtin .len, args := args, argTypes := tys }) (ha : args.toList = [x]) (ht : (T (tys.getD 0 0)).u = .str) (hx : ev st x = .u (.x (.str s))) (h0 : 0 < tys.size)
    (hn : Nx F site g (st.out site o.dst (.u (.x (.int .i64 s.size))) none) next) : o.wp P a w next Q := by
  have d1 : P.underlying (tys.getD 0 0) = some .string := desc hT ht (by simp)
  have ha' : args = #[x] := by rw [← Array.toArray_toList (xs := args), ha]
  have ht0 : tys[0]? = some (tys.getD 0 0) := by simp [Array.getD_eq_getD_getElem?, h0]
  refine fin_val (v := .u (.x (.int .i64 s.size))) (u := .int .i64 s.size) hR rfl ?_ hn
  simp only [execOp, ho, ha', resolve, invoke, builtin, Sem.run_bind, Sem.run_pure, Result.andThen_ok, List.map_toArray, List.map_cons, List.map_nil, ev_str hR hx]
  simp only [Builtin.len_, ht0, List.getElem?_toArray, List.getElem?_cons_zero, Sem.run_bind, run_underlying d1, Result.andThen_ok, Sem.run_pure, goInt]
theorem s_min {x y : Operand} {args : Array Operand} {tys : Array TypeId} {k k' : IntKind} {p q : Int} (ho : o.op = .call { callee := .builtin .min, args := args, argTypes := tys }) (ha : args.toList = [x, y]) (hx : ev st x = .u (.x (.int k p))) (hy : ev st y = .u (.x (.int k' q)))
    (hn : Nx F site g (st.out site o.dst (.u (.x (.int k (if q < p then q else p)))) none) next) : o.wp P a w next Q := by
  have ha' : args = #[x, y] := by rw [← Array.toArray_toList (xs := args), ha]
  refine fin_val (v := .u (.x (.int k (if q < p then q else p)))) (u := .int k (if q < p then q else p)) hR rfl ?_ hn
  simp [execOp, ho, resolve, invoke, builtin, Builtin.min_, Builtin.min2, ha', ev_int hR hx, ev_int hR hy]
theorem s_max {x y : Operand} {args : Array Operand} {tys : Array TypeId} {k k' : IntKind} {p q : Int} (ho : o.op = .call { callee := .builtin .max, args := args, argTypes := tys }) (ha : args.toList = [x, y]) (hx : ev st x = .u (.x (.int k p))) (hy : ev st y = .u (.x (.int k' q)))
    (hn : Nx F site g (st.out site o.dst (.u (.x (.int k (if q > p then q else p)))) none) next) : o.wp P a w next Q := by
  have ha' : args = #[x, y] := by rw [← Array.toArray_toList (xs := args), ha]
  refine fin_val (v := .u (.x (.int k (if q > p then q else p)))) (u := .int k (if q > p then q else p)) hR rfl ?_ hn
  simp [execOp, ho, resolve, invoke, builtin, Builtin.max_, Builtin.max2, ha', ev_int hR hx, ev_int hR hy]
end
end Go.BV

/-
  Parts of strings and slices, functions as values; what a call is told and what it gives.
-/
namespace Go.BV
section
variable {P : Program} {T : TypeId → TI} {O : Env} {F : Fx} {g : Gh} {st : St} {a : Act} {w : World} {o : Oper} {site : Nat} {next : Act → World → Prop} {Q : Exit → Act → World → Prop}
variable (hR : R F g st a w)
include hR

theorem bound_ok {lo hi : Option Operand} {n cap l h : Nat} {isSlice : Bool} (hc : n ≤ cap) (hb : bound (lo.map (ev st)) (hi.map (ev st)) n (fun l h => some (l, h)) = some (l, h)) :
    (Instr.sliceBounds isSlice n cap (lo.map a.eval) (hi.map a.eval) none).run P w = .ok (l, h, cap) w ∧ l ≤ h ∧ h ≤ n := by
  have sb : ∀ {x : Operand} {k : IntKind} {i : Int} {y : Nat} {code : BoundsCode}, ev st x = .u (.x (.int k i)) → 0 ≤ i → i ≤ (y : Int) → (Instr.sliceBound (a.eval x) y code).run P w = .ok i.toNat w := by
    intro x k i y code hx h0 h1
    simp [Instr.sliceBound, ev_int hR hx, asIntOf, h0, h1]
  unfold bound at hb
  split at hb
  · rename_i h1 h2
    injection hb with hb
    injection hb with e1 e2
    subst e1 e2
    cases lo <;> cases hi <;> simp at h1 h2
    simp [Instr.sliceBounds]
  · rename_i k i h1 h2
    cases lo <;> simp at h1
    cases hi <;> simp at h2
    split at hb
    · rename_i h3
      split at hb
      · rename_i h4
        injection hb with hb
        injection hb with e1 e2
        subst e1 e2
        refine ⟨?_, by omega, Nat.le_refl _⟩
        simp [Instr.sliceBounds, sb h1 h3 h4]
      · cases hb
    · cases hb
  · rename_i k i h1 h2
    cases lo <;> simp at h1
    cases hi <;> simp at h2
    split at hb
    · rename_i h3
      split at hb
      · rename_i h4
        injection hb with hb
        injection hb with e1 e2
        subst e1 e2
        refine ⟨?_, by omega, by omega⟩
        simp [Instr.sliceBounds, sb h2 h3 (show i ≤ (cap : Int) by omega)]
      · cases hb
    · cases hb
  · rename_i k i k' j h1 h2
    cases lo <;> simp at h1
    cases hi <;> simp at h2
    split at hb
    · rename_i h3
      split at hb
      · rename_i h4
        split at hb
        · rename_i h5
          injection hb with hb
          injection hb with e1 e2
          subst e1 e2
          refine ⟨?_, by omega, by omega⟩
          simp [Instr.sliceBounds, sb h2 (show 0 ≤ j by omega) (show j ≤ (cap : Int) by omega), sb (y := j.toNat) h1 h3 (by omega)]
        · cases hb
      · cases hb
    · cases hb
  · cases hb

theorem s_sliceStr {t : TypeId} {x : Operand} {lo hi : Option Operand} {s : ByteArray} {l h : Nat} (hT : TsOk P T) (ho : o.op = .slice t x lo hi none) (ht : (T t).u = .str) (hx : ev st x = .u (.x (.str s))) (hb : bound (lo.map (ev st)) (hi.map (ev st)) s.size (fun l h => some (l, h)) = some (l, h))
    (hn : Nx F site g (st.out site o.dst (.u (.x (.str (s.extract l h)))) none) next) : o.wp P a w next Q := by
  have d1 : P.underlying t = some .string := desc hT ht (by simp)
  obtain ⟨h1, _⟩ := bound_ok (P := P) (isSlice := false) hR (Nat.le_refl _) hb
  refine fin_val (v := .u (.x (.str (s.extract l h)))) (u := .string (s.extract l h)) hR rfl ?_ hn
  simp [execOp, ho, Instr.sliceAt, Instr.slice, run_underlying d1, ev_str hR hx, h1]

theorem C_take (c : C) (n : Nat) : (c.take n).len = min n c.len ∧ ∀ i, i < n → (c.take n).get i = c.get i := by
  have _ := hR
  cases c <;> refine ⟨by simp [C.take, C.len], fun i hi => ?_⟩ <;> simp [C.take, C.get, List.getD_eq_getElem?_getD, List.getElem?_take, hi]
theorem C_drop (c : C) (n : Nat) : (c.drop n).len = c.len - n ∧ ∀ i, (c.drop n).get i = c.get (n + i) := by
  have _ := hR
  cases c <;> refine ⟨by simp [C.drop, C.len], fun i => ?_⟩ <;> simp [C.drop, C.get, List.getD_eq_getElem?_getD, List.getElem?_drop]
theorem C_part (c : C) {l h : Nat} (h1 : l ≤ h) (h2 : h ≤ c.len) : ((c.take h).drop l).len = h - l ∧ ∀ i, i < h - l → ((c.take h).drop l).get i = c.get (l + i) := by
  refine ⟨by rw [(C_drop hR _ _).1, (C_take hR _ _).1]; omega, fun i hi => ?_⟩
  rw [(C_drop hR _ _).2, (C_take hR _ _).2 _ (by omega)]
theorem s_sliceRo {t : TypeId} {x : Operand} {lo hi : Option Operand} {e c : C} {l h : Nat} (hT : TsOk P T) (ho : o.op = .slice t x lo hi none) (ht : (T t).u = .slice e) (hx : ev st x = .u (.x (.ro c))) (hb : bound (lo.map (ev st)) (hi.map (ev st)) c.len (fun l h => some (l, h)) = some (l, h))
    (hn : Nx F site g (st.out site o.dst (.u (.x (.ro ((c.take h).drop l)))) none) next) : o.wp P a w next Q := by
  obtain ⟨el, ie, ze, d1, _, _, d2, d3, _⟩ := desc hT ht (by simp)
  obtain ⟨b, cap, e1, e2, e3, e4⟩ := CR_iff.1 (ev_x hR hx)
  obtain ⟨h1, h2, h3⟩ := bound_ok (P := P) (isSlice := true) hR e2 hb
  obtain ⟨q1, q2⟩ := C_part hR c h2 h3
  refine fin_val (v := .u (.x (.ro ((c.take h).drop l)))) (u := .slice (if cap = l then b else b.map (·.add l)) (h - l) (cap - l)) hR ?_ ?_ hn
  · refine CR_iff.2 ⟨_, _, by rw [q1], by rw [q1]; omega, fun hpos => ?_, fun ad had i hi => ?_⟩
    · rw [q1] at hpos
      obtain ⟨ad, rfl, hs, hz⟩ := e3 (by omega)
      rw [if_neg (by omega)]
      exact ⟨ad.add l, rfl, by cases ad; simp at hs; subst hs; rw [add_none], by rw [add_block]; exact hz⟩
    · rw [q1] at hi
      rw [if_neg (by omega)] at had
      obtain ⟨ad0, rfl, hs, hz⟩ := e3 (by omega)
      simp at had
      subst had
      obtain ⟨u, hu, hsr⟩ := e4 ad0 rfl (l + i) (by omega)
      refine ⟨u, ?_, by show SR w g.Z _ u; rw [q2 i hi]; exact hsr⟩
      cases ad0
      simp at hs
      subst hs
      rw [add_none] at hu ⊢
      rw [add_none, Nat.add_assoc]
      exact hu
  · simp [execOp, ho, Instr.sliceAt, Instr.slice, run_underlying d1, e1, h1, sizeOf, typeInfo, d2, d3]

theorem toS0s_ok : ∀ {xs : List X} {ss : List S0} {vs : List Value}, XsR g w xs vs → toS0s xs = some ss → (toks xs).isEmpty = true → SsR w g.Z ss vs
  | [], ss, [], _, h, _ => by simp only [toS0s] at h; injection h with h; subst h; trivial
  | x :: xs, ss, v :: vs, hx, h, ht => by
    simp only [toS0s] at h
    split at h
    · rename_i s hs
      split at h
      · rename_i ss' hss
        injection h with h
        subst h
        have hxt : x.toks.isEmpty = true ∧ (toks xs).isEmpty = true := by simpa [toks] using ht
        exact ⟨toS0_ok hR hx.1 hs hxt.1, toS0s_ok hx.2 hss hxt.2⟩
      · cases h
    · cases h
  | [], _, _ :: _, h, _, _ => h.elim
  | _ :: _, _, [], h, _, _ => h.elim
theorem first_ok : ∀ {l : List V} {us : List Value} {fs : List (Bool × List S0)}, l.length = us.length → (∀ (i : Nat) x u, l[i]? = some x → us[i]? = some u → VR g w x u) → firstOf l = some fs → FR w g.Z fs us
  | [], [], fs, _, _, h => by simp only [firstOf] at h; injection h with h; subst h; trivial
  | x :: l, v :: us, fs, hl, hx, h => by
    cases x with
    | tup => simp [firstOf] at h
    | u u =>
      simp only [firstOf] at h
      cases ht : (toks u.cells).isEmpty
      · rw [ht] at h; cases h
      · rw [ht] at h
        simp only [cond_true] at h
        split at h
        · rename_i ss hss
          split at h
          · rename_i r hr
            injection h with h
            subst h
            refine ⟨?_, first_ok (by simpa using hl) (fun i y z h1 h2 => hx (i + 1) y z (by simpa using h1) (by simpa using h2)) hr⟩
            have h0 : UR g w u v := hx 0 (.u u) v rfl rfl
            cases u with
            | x y => exact toS0s_ok hR (xs := [y]) (vs := [v]) ⟨h0, trivial⟩ hss ht
            | agg xs =>
              obtain ⟨vs, rfl, h0⟩ := h0
              exact ⟨vs, rfl, toS0s_ok hR h0 hss ht⟩
          · cases h
        · cases h
  | [], _ :: _, _, h, _, _ => by simp at h
  | _ :: _, [], _, h, _, _ => by simp at h
theorem s_makeFunc {f : FuncId} {first caps : Array Operand} {fs : List (Bool × List S0)} {ns : List Nat} (ho : o.op = .makeFunc (.func f) first caps) (hf : firstOf (first.toList.map (ev st)) = some fs)
    (hc : capsOf (caps.toList.map (ev st)) = some ns) (hn : Nx F site g (st.out site o.dst (.u (.x (.fn f fs ns))) none) next) : o.wp P a w next Q := by
  have key : ∀ (l : List Operand) (ns : List Nat), capsOf (l.map (ev st)) = some ns → ∃ bs : List Nat, capsR g ns bs ∧ l.map a.eval = bs.map fun b => Value.pointer (some ⟨b, 0, none⟩) := by
    intro l
    induction l with
    | nil => intro ns h; simp [capsOf] at h; subst h; exact ⟨[], ⟨[], rfl, rfl⟩, rfl⟩
    | cons x l ih =>
      intro ns h
      rw [List.map_cons] at h
      unfold capsOf at h
      split at h
      · rename_i heq; cases heq
      · rename_i n vs heq
        injection heq with hx hvs
        subst hvs
        split at h
        · rename_i ns' h2
          injection h with h
          subst h
          obtain ⟨bs, ⟨vss, h4, h5⟩, h6⟩ := ih ns' h2
          obtain ⟨b, vs, h7, h8⟩ := ev_x hR hx
          exact ⟨b :: bs, ⟨vs :: vss, by simp [h7, h4], by simp [h5]⟩, by simp [h8, h6]⟩
        · cases h
      · cases h
  obtain ⟨bs, h1, h2⟩ := key caps.toList ns hc
  have h3 := first_ok hR (l := first.toList.map (ev st)) (us := first.toList.map a.eval) (by simp) (fun i x u h1 h2 => by
    simp only [List.getElem?_map, Option.map_eq_some_iff] at h1 h2
    obtain ⟨p, hp, rfl⟩ := h1
    obtain ⟨q, hq, rfl⟩ := h2
    rw [hp] at hq
    injection hq with hq
    subst hq
    exact ev_ok hR.s _) hf
  refine fin_val (v := .u (.x (.fn f fs ns))) (u := .func (.func f) (first.toList.map a.eval).toArray (bs.map fun b => Value.pointer (some ⟨b, 0, none⟩)).toArray) hR ⟨bs, first.toList.map a.eval, h1, h3, rfl⟩ ?_ hn
  simp only [execOp, ho, Instr.makeFunc, Sem.run_bind, Sem.run_pure, Result.andThen_ok, ← h2]
  have : ∀ l : Array Operand, l.map a.eval = (l.toList.map a.eval).toArray := fun l => by apply Array.ext'; simp
  rw [this caps, this first]
end

/-! ### What a function is told, and what it gives -/
/-- Which block stands at a place of the values. -/
def envOf (vs : List Value) (p : Nat) : Option Nat := match vs[p]? with
  | some (.pointer (some ⟨b, 0, none⟩)) => some b
  | _ => none
/-- A cell that is read; a function's variables lie where 'env' says. -/
def DR (w : World) (Z : Nat → Prop) (env : Nat → Option Nat) : S → Value → Prop
  | .int k n, v => v = .int k n
  | .bool b, v => v = .bool b
  | .str s, v => v = .string s
  | .sl c, v => CR w Z c v
  | .rs c, v => CR w Z c v
  | .rp b cs, v => (b = true → ∃ a, PtrR w Z cs a ∧ v = .pointer (some ⟨a.block, a.off, none⟩)) ∧ (b = false → v = .pointer none)
  | .nilp, v => v = .pointer none
  | .fnv f first ps, v => ∃ bs fvs : List _, ps.map env = bs.map some ∧ FR w Z first fvs ∧ v = .func (.func f) fvs.toArray (bs.map fun b => Value.pointer (some ⟨b, 0, none⟩)).toArray
def DsR (w : World) (Z : Nat → Prop) (env : Nat → Option Nat) : List S → List Value → Prop
  | [], [] => True
  | s :: ss, v :: vs => DR w Z env s v ∧ DsR w Z env ss vs
  | _, _ => False
def ReadD (w : World) (Z : Nat → Prop) (env : Nat → Option Nat) : DU → Value → Prop
  | .x s, v => DR w Z env s v
  | .agg cs, v => ∃ vs, v = .agg vs.toArray ∧ DsR w Z env cs vs
  | .ptr _, _ => False
/-- Two parts that have nothing in common. -/
structure Sep (B B1 B2 : Nat → Prop) : Prop where
  all : ∀ b, B b ↔ B1 b ∨ B2 b
  dis : ∀ b, B1 b → B2 b → False
def Nob (B : Nat → Prop) : Prop := ∀ b, ¬ B b
def MutS (w : World) (Z : Nat → Prop) (env : Nat → Option Nat) : S → Value → (Nat → Prop) → Prop
  | .sl c, v, B => c.whole = true ∧ ∃ I, OW w Z v c B I
  | s, v, B => DR w Z env s v ∧ Nob B
def MutSs (w : World) (Z : Nat → Prop) (env : Nat → Option Nat) : List S → List Value → (Nat → Prop) → Prop
  | [], [], B => Nob B
  | s :: ss, v :: vs, B => ∃ B1 B2, Sep B B1 B2 ∧ MutS w Z env s v B1 ∧ MutSs w Z env ss vs B2
  | _, _, _ => False
def MutD (w : World) (Z : Nat → Prop) (env : Nat → Option Nat) : DU → Value → (Nat → Prop) → Prop
  | .x s, v, B => MutS w Z env s v B
  | .agg cs, v, B => ∃ vs, v = .agg vs.toArray ∧ MutSs w Z env cs vs B
  | .ptr cs, v, B => ∃ b vs B', v = .pointer (some ⟨b, 0, none⟩) ∧ row w b = some vs ∧ MutSs w Z env cs vs B' ∧ Sep B (fun x => x = b) B'
/-- Which things go with which way of handing over. -/
def Fits : Md → DU → Prop
  | .ref, .ptr _ => True
  | .ref, _ => False
  | _, .ptr _ => False
  | _, _ => True
def ArgsR (w : World) (Z : Nat → Prop) (env : Nat → Option Nat) : List Md → List DU → List Value → (Nat → Prop) → Prop
  | [], [], [], B => Nob B
  | .val :: ms, d :: ds, v :: vs, B => ReadD w Z env d v ∧ ArgsR w Z env ms ds vs B
  | m :: ms, d :: ds, v :: vs, B => ∃ B1 B2, Sep B B1 B2 ∧ Fits m d ∧ MutD w Z env d v B1 ∧ ArgsR w Z env ms ds vs B2
  | _, _, _, _ => False
/-- What was handed over to be written holds afterwards. -/
def UpdR (w : World) (Z : Nat → Prop) (env : Nat → Option Nat) : List Md → List DU → List DU → List Value → (Nat → Prop) → Prop
  | [], [], [], [], B => Nob B
  | .val :: ms, _ :: ds, us, _ :: vs, B => UpdR w Z env ms ds us vs B
  | .ext :: ms, d :: ds, us, v :: vs, B => ∃ B1 B2, Sep B B1 B2 ∧ MutD w Z env d v B1 ∧ UpdR w Z env ms ds us vs B2
  | .wr :: ms, _ :: ds, u :: us, v :: vs, B => ∃ B1 B2, Sep B B1 B2 ∧ Fits .wr u ∧ MutD w Z env u v B1 ∧ UpdR w Z env ms ds us vs B2
  | .ref :: ms, _ :: ds, u :: us, v :: vs, B => ∃ B1 B2, Sep B B1 B2 ∧ Fits .ref u ∧ MutD w Z env u v B1 ∧ UpdR w Z env ms ds us vs B2
  | _, _, _, _, _ => False
def MutDs (w : World) (Z : Nat → Prop) : List DU → List Value → (Nat → Prop) → Prop
  | [], [], B => Nob B
  | d :: ds, v :: vs, B => ∃ B1 B2, Sep B B1 B2 ∧ Fits .val d ∧ MutD w Z (fun _ => none) d v B1 ∧ MutDs w Z ds vs B2
  | _, _, _ => False
def resVal : List Value → Value
  | [v] => v
  | vs => .tuple vs.toArray

/-- What may be read behind a call: what could be read before, and what the call made and gave nobody to write. -/
def Zn (Z : Nat → Prop) (w w' : World) (BR BU : Nat → Prop) : Nat → Prop := fun b => Z b ∨ (w.heap.size ≤ b ∧ b < w'.heap.size ∧ ¬ BR b ∧ ¬ BU b)
structure Post (w : World) (Z : Nat → Prop) (md : List Md) (ds : List DU) (args : List Value) (B : Nat → Prop) (out : Out) (v : Value) (w' : World) (rs : List Value) (BR BU : Nat → Prop) : Prop where
  os : w'.os = w.os
  tape : w'.tape = w.tape
  output : w'.output = w.output
  size : w.heap.size ≤ w'.heap.size
  frame : ∀ b, b < w.heap.size → ¬ B b → w'.heap[b]? = w.heap[b]?
  val : v = resVal rs
  res : MutDs w' (Zn Z w w' BR BU) out.res rs BR
  fresh : ∀ b, BR b → w.heap.size ≤ b ∧ b < w'.heap.size
  upd : UpdR w' (Zn Z w w' BR BU) (envOf args) md ds out.upd args BU
  updB : ∀ b, BU b → (B b ∨ w.heap.size ≤ b) ∧ b < w'.heap.size
  disj : ∀ b, BR b → BU b → False

/-- A function does what is said of it: called with values that read as 'ds', it returns what 'spec' tells. -/
def Meets (P : Program) (f : FuncId) (md : List Md) (na : Nat) (spec : List DU → Out → Prop) : Prop :=
  ∀ (w : World) (Z : Nat → Prop) (args : List Value) (ds : List DU) (B : Nat → Prop) (out : Out), (∀ b, Z b → b < w.heap.size ∧ ¬ B b) → (∀ b, B b → b < w.heap.size) → ArgsR w Z (envOf args) md ds args B → spec ds out →
    Calls P f (args.take na).toArray w fun e w' => ∃ v rs BR BU, e = .returned v ∧ Post w Z md ds args B out v w' rs BR BU
end Go.BV

/-
  What is handed over is read; names for what comes back.
-/
namespace Go.BV

/-- What is told of the functions that are called is so. -/
structure OOk (P : Program) (O : Env) : Prop where
  nat : ∀ f o, O.fn f = some o → Nat1 o
  meets : ∀ f o, O.fn f = some o → ∃ spec, Meets P f o.md o.na spec ∧ ∀ ds out, o.G ds some = some out → spec ds out
  fn : ∀ f o, O.fn f = some o → ∃ fn : Func, P.funcs[f]? = some fn ∧ fn.body.isNone = false ∧ (fn.name == "runtime.NumGoroutine") = false

section
variable {P : Program} {T : TypeId → TI} {O : Env} {F : Fx} {g h : Gh} {st : St} {a : Act} {w : World} {o : Oper} {site : Nat} {next : Act → World → Prop} {Q : Exit → Act → World → Prop}

theorem G_some {ρ : Type} {o : Ora} (ho : Nat1 o) {ds : List DU} {A : Out → Option ρ} {r : ρ} (h : o.G ds A = some r) : ∃ out, o.G ds some = some out ∧ A out = some r := by
  rw [ho] at h
  cases hg : o.G ds some with
  | none => rw [hg] at h; cases h
  | some out => rw [hg] at h; exact ⟨out, rfl, h⟩

/-! ### What is read -/
/-- What a name leads to may be read. -/
def Sees (g : Gh) (Z' : Nat → Prop) (n : Nat) : Prop := ∀ x b, g.own n = some x → g.fp n b → Z' b
theorem toS0_read (hw : WG F g w) {Z' : Nat → Prop} (hz : ∀ b, g.Z b → Z' b) {x : X} {s : S0} {v : Value} (ht : ∀ n ∈ x.toks, Sees g Z' n) (hx : XR g w x v) (hs : x.toS0 = some s) : SR w Z' s v := by
  have hst : Stay g.Z w Z' w := fun b hb => ⟨hz b hb, rfl⟩
  cases x <;> simp only [X.toS0] at hs <;> first
    | (cases hs; done)
    | (injection hs with hs; subst hs; exact hx)
    | skip
  case nil c =>
    cases hc : c.whole
    · rw [hc] at hs; cases hs
    · rw [hc] at hs
      injection hs with hs; subst hs
      exact CR_rd.2 (CR_iff.2 ⟨none, 0, by rw [hx.2]; exact hx.1, by rw [hx.2]; exact Nat.le_refl _, fun h => by rw [hx.2] at h; omega, fun ad h => by cases h⟩)
  case ro c => injection hs with hs; subst hs; exact CR.mono hst hx
  case own n c =>
    cases hc : c.whole
    · rw [hc] at hs; cases hs
    · rw [hc] at hs
      injection hs with hs; subst hs
      exact CR_rd.2 ((hw.own n v c hx).reads hc hz fun b hb => ht n (by simp [X.toks]) _ b hx hb)
  case bw n c i =>
    injection hs with hs; subst hs
    obtain ⟨v', xs, ys, h1, h2, rfl, rfl⟩ := hx
    rcases hw.own _ _ _ h1 with ⟨_, h0⟩ | ⟨b, off, cap, l, rfl, _, _, _, _, h5⟩
    · have := (List.getElem?_eq_some_iff.1 h2).1
      have h0 : xs.length = 0 := h0
      omega
    · have h5 : Rows w xs (fun _ => False) l off b _ _ := h5
      exact (h5.own _ _ h2 fun h => h).reads fun b' _ q => ht n (by simp [X.toks]) _ b' h1 q.1
theorem toS0s_read (hw : WG F g w) {Z' : Nat → Prop} (hz : ∀ b, g.Z b → Z' b) : ∀ {xs : List X} {ss : List S0} {vs : List Value}, (∀ n ∈ toks xs, Sees g Z' n) → XsR g w xs vs → toS0s xs = some ss → SsR w Z' ss vs
  | [], ss, [], _, _, h => by simp only [toS0s] at h; injection h with h; subst h; trivial
  | x :: xs, ss, v :: vs, ht, hx, h => by
    simp only [toS0s] at h
    split at h
    · rename_i s hs
      split at h
      · rename_i ss' hss
        injection h with h
        subst h
        exact ⟨toS0_read hw hz (fun n hn => ht n (by simp [toks, hn])) hx.1 hs, toS0s_read hw hz (fun n hn => ht n (by simp [toks, hn])) hx.2 hss⟩
      · cases h
    · cases h
  | [], _, _ :: _, _, hx, _ => hx.elim
  | _ :: _, _, [], _, hx, _ => hx.elim
theorem toS_DR {s : S0} {v : Value} {env : Nat → Option Nat} {Z : Nat → Prop} (h : SR w Z s v) : DR w Z env s.toS v := by cases s <;> exact h
theorem poss_env {pos env : Nat → Option Nat} (he : ∀ n p, pos n = some p → ∀ b vs, g.tab n = some (b, vs) → env p = some b) : ∀ {caps ps bs : List Nat}, poss pos caps = some ps → capsR g caps bs → ps.map env = bs.map some
  | [], ps, bs, h, hc => by
    simp only [poss] at h
    injection h with h
    subst h
    obtain ⟨vss, h1, h2⟩ := hc
    cases bs with
    | nil => rfl
    | cons b bs => cases vss with
      | nil => simp at h2
      | cons => simp at h1
  | n :: caps, ps, bs, h, hc => by
    simp only [poss] at h
    split at h
    · rename_i p hp
      split at h
      · rename_i ps' hps
        injection h with h
        subst h
        obtain ⟨vss, h1, h2⟩ := hc
        cases bs with
        | nil => simp at h1
        | cons b bs =>
          cases vss with
          | nil => simp at h2
          | cons vs vss =>
            simp only [List.map_cons, List.zip_cons_cons] at h1
            injection h1 with h1 h1'
            simp only [List.map_cons]
            rw [he n p hp b vs h1, poss_env he hps ⟨vss, h1', by simpa using h2⟩]
      · cases h
    · cases h
theorem toS_read (hw : WG F g w) {Z' : Nat → Prop} (hz : ∀ b, g.Z b → Z' b) {pos env : Nat → Option Nat} (he : ∀ n p, pos n = some p → ∀ b vs, g.tab n = some (b, vs) → env p = some b) {x : X} {s : S} {v : Value} (ht : ∀ n ∈ x.toks, Sees g Z' n) (hx : XR g w x v) (hs : x.toS pos = some s) : DR w Z' env s v := by
  have hst : Stay g.Z w Z' w := fun b hb => ⟨hz b hb, rfl⟩
  have base : (match x.toS0 with | some s => some s.toS | none => none) = some s → DR w Z' env s v := fun h => by
    split at h
    · rename_i s0 hs0
      injection h with h
      subst h
      exact toS_DR (toS0_read hw hz ht hx hs0)
    · cases h
  cases x <;> simp only [X.toS] at hs <;> try exact base hs
  case rop b cs o =>
    cases ho : o == 0
    · rw [ho] at hs; cases hs
    · rw [ho] at hs
      injection hs with hs; subst hs
      obtain rfl : o = 0 := by simpa using ho
      exact ⟨fun hb => by obtain ⟨a, h1, h2⟩ := hx.1 hb; exact ⟨a, h1.mono hst, h2⟩, hx.2⟩
  case fn f first caps =>
    split at hs
    · rename_i ps hps
      injection hs with hs; subst hs
      obtain ⟨bs, fvs, h1, h2, h3⟩ := hx
      exact ⟨bs, fvs, poss_env he hps h1, h2.mono hst, h3⟩
    · cases hs
  case nilp => injection hs with hs; subst hs; exact hx
theorem toSs_read (hw : WG F g w) {Z' : Nat → Prop} (hz : ∀ b, g.Z b → Z' b) {pos env : Nat → Option Nat} (he : ∀ n p, pos n = some p → ∀ b vs, g.tab n = some (b, vs) → env p = some b) : ∀ {xs : List X} {ss : List S} {vs : List Value}, (∀ n ∈ toks xs, Sees g Z' n) → XsR g w xs vs → toSs pos xs = some ss → DsR w Z' env ss vs
  | [], ss, [], _, _, h => by simp only [toSs] at h; injection h with h; subst h; trivial
  | x :: xs, ss, v :: vs, ht, hx, h => by
    simp only [toSs] at h
    split at h
    · rename_i s hs
      split at h
      · rename_i ss' hss
        injection h with h
        subst h
        exact ⟨toS_read hw hz he (fun n hn => ht n (by simp [toks, hn])) hx.1 hs, toSs_read hw hz he (fun n hn => ht n (by simp [toks, hn])) hx.2 hss⟩
      · cases h
    · cases h
  | [], _, _ :: _, _, hx, _ => hx.elim
  | _ :: _, _, [], _, hx, _ => hx.elim
theorem SsR.get {Z : Nat → Prop} : ∀ {ss : List S0} {vs : List Value}, SsR w Z ss vs → ∀ {i : Nat} {s : S0}, ss[i]? = some s → ∃ v, vs[i]? = some v ∧ SR w Z s v
  | [], [], _, i, s, h => by simp at h
  | _ :: _, v :: _, h, 0, s, hs => by simp at hs; subst hs; exact ⟨v, rfl, h.1⟩
  | _ :: _, _ :: _, h, i + 1, s, hs => by simpa using SsR.get h.2 (by simpa using hs)
  | [], _ :: _, h, _, _, _ => h.elim
  | _ :: _, [], h, _, _, _ => h.elim
/-- A variable's cells, as a struct that is read. -/
theorem row_ptr {Z : Nat → Prop} {b : Nat} {vs : List Value} {ss : List S0} (hr : row w b = some vs) (hb : Z b) (h : SsR w Z ss vs) : PtrR w Z ss ⟨b, 0, none⟩ :=
  ⟨rfl, fun _ => hb, fun i s hs => by
    obtain ⟨v, h1, h2⟩ := h.get hs
    exact ⟨v, by rw [row_cell hr, Nat.zero_add]; exact h1, h2⟩⟩
theorem toDU_read (hS : SG F g w st a) (hw : WG F g w) {Z' : Nat → Prop} (hz : ∀ b, g.Z b → Z' b) {pos env : Nat → Option Nat} (he : ∀ n p, pos n = some p → ∀ b vs, g.tab n = some (b, vs) → env p = some b) {u : U} {d : DU} {v : Value} (ht : ∀ n ∈ uToks st.tb u, Sees g Z' n) (hp : ∀ n o, u = .x (.ptr n o) → ∀ b l, g.tab n = some (b, l) → Z' b) (hx : UR g w u v) (h : toDU st.tb pos .val u = some d) : ReadD w Z' env d v := by
  cases u with
  | agg xs =>
    simp only [toDU] at h
    split at h
    · rename_i ss hss
      injection h with h
      subst h
      obtain ⟨vs, rfl, hx⟩ := hx
      exact ⟨vs, rfl, toSs_read hw hz he (fun n hn => ht n hn) hx hss⟩
    · cases h
  | x x =>
    by_cases hpt : ∃ n o, x = .ptr n o
    · obtain ⟨n, k, rfl⟩ := hpt
      simp only [toDU] at h
      cases hk : k == 0
      · rw [hk] at h; cases h
      · rw [hk] at h
        simp only [cond_true] at h
        obtain rfl : k = 0 := by simpa using hk
        split at h
        · rename_i ys hys
          split at h
          · rename_i ss hss
            injection h with h
            subst h
            obtain ⟨b, vs, hg, rfl⟩ := hx
            obtain ⟨ys', h2, h3⟩ := hS.tabs n b vs hg
            rw [hys] at h2
            injection h2 with h2
            subst h2
            have ht' : ∀ m ∈ n :: toks ys, Sees g Z' m := fun m hm => ht m (by simpa [uToks, hys] using hm)
            refine ⟨fun _ => ⟨⟨b, 0, none⟩, row_ptr (hw.tab n b vs hg) (hp n 0 rfl b vs hg) (toS0s_read hw hz (fun m hm => ht' m (List.mem_cons_of_mem _ hm)) h3 hss), rfl⟩, fun h => by cases h⟩
          · cases h
        · cases h
    · have h' : (match x.toS pos with | some s => some (DU.x s) | none => none) = some d := by
        cases x <;> first | exact h | exact absurd ⟨_, _, rfl⟩ hpt
      have ht' : ∀ n ∈ x.toks, Sees g Z' n := fun n hn => ht n (by cases x <;> first | exact hn | exact absurd ⟨_, _, rfl⟩ hpt)
      split at h'
      · rename_i s hs
        injection h' with h'
        subst h'
        exact toS_read hw hz he ht' hx hs
      · cases h'
theorem vals_read (hS : SG F g w st a) (hw : WG F g w) {Z' : Nat → Prop} (hz : ∀ b, g.Z b → Z' b) {pos env : Nat → Option Nat} (he : ∀ n p, pos n = some p → ∀ b vs, g.tab n = some (b, vs) → env p = some b) : ∀ {md : List Md} {xs : List V} {ds : List DU} {vs : List Value}, md.all Md.isVal = true → xs.length = vs.length → (∀ (i : Nat) x v, xs[i]? = some x → vs[i]? = some v → VR g w x v) →
    (∀ n ∈ vToks st.tb xs, Sees g Z' n) → (∀ n o, V.u (.x (.ptr n o)) ∈ xs → ∀ b l, g.tab n = some (b, l) → Z' b) → toDUs st.tb pos md xs = some ds → ArgsR w Z' env md ds vs fun _ => False
  | [], [], ds, [], _, _, _, _, _, h => by simp only [toDUs] at h; injection h with h; subst h; exact fun _ h => h
  | m :: md, x :: xs, ds, v :: vs, hm, h2, hx, ht, hp, h => by
    simp only [List.all_cons, Bool.and_eq_true] at hm
    cases x with
    | tup us => simp [toDUs] at h
    | u u =>
      simp only [toDUs] at h
      split at h
      · rename_i d hd
        split at h
        · rename_i ds' hds
          injection h with h
          subst h
          cases m <;> first | (simp [Md.isVal] at hm; done) | skip
          exact ⟨toDU_read hS hw hz he (fun n hn => ht n (by simp [vToks, hn])) (fun n o e => hp n o (by rw [e]; exact List.mem_cons_self ..)) (hx 0 (.u u) v rfl rfl) hd, vals_read hS hw hz he hm.2 (by simpa using h2) (fun i y z hy hz' => hx (i + 1) y z (by simpa using hy) (by simpa using hz')) (fun n hn => ht n (by simp [vToks, hn])) (fun n o h => hp n o (List.mem_cons_of_mem _ h)) hds⟩
        · cases h
      · cases h
  | [], _ :: _, _, _, _, _, _, _, _, h => by simp [toDUs] at h
  | _ :: _, [], _, _, _, _, _, _, _, h => by simp [toDUs] at h
  | [], [], _, _ :: _, _, h2, _, _, _, _ => by simp at h2
  | _ :: _, _ :: _, _, [], _, h2, _, _, _, _ => by simp at h2
theorem posOf_ok : ∀ {vs : List V} {i n p : Nat}, posOf i vs n = some p → i ≤ p ∧ vs[p - i]? = some (.u (.x (.ptr n 0)))
  | [], i, n, p, h => by simp [posOf] at h
  | v :: vs, i, n, p, h => by
    have tail : posOf (i + 1) vs n = some p → i ≤ p ∧ (v :: vs)[p - i]? = some (.u (.x (.ptr n 0))) := fun h => by
      obtain ⟨h1, h2⟩ := posOf_ok h
      exact ⟨by omega, by rw [show p - i = (p - (i + 1)) + 1 by omega, List.getElem?_cons_succ]; exact h2⟩
    cases v with
    | tup us => exact tail h
    | u u => cases u with
      | agg xs => exact tail h
      | x x => cases x <;> try exact tail h
               rename_i m o
               cases o with
               | succ o => exact tail h
               | zero =>
                 have h : (bif m == n then some i else posOf (i + 1) vs n) = some p := h
                 cases hb : m == n
                 · rw [hb] at h; exact tail h
                 · rw [hb] at h
                   injection h with h
                   subst h
                   have e : m = n := by simpa using hb
                   subst e
                   exact ⟨Nat.le_refl _, by simp⟩
/-- The places of variables, in the values and in what is told of them. -/
theorem pos_env {vs : List V} {us : List Value} (hl : vs.length = us.length) (hx : ∀ (i : Nat) x v, vs[i]? = some x → us[i]? = some v → VR g w x v) {n p : Nat} (h : posOf 0 vs n = some p) {b : Nat} {l : List Value} (hb : g.tab n = some (b, l)) : envOf us p = some b := by
  obtain ⟨_, h2⟩ := posOf_ok h
  rw [Nat.sub_zero] at h2
  have hlt := (List.getElem?_eq_some_iff.1 h2).1
  have h3 : us[p]? = some us[p] := List.getElem?_eq_getElem (by omega)
  obtain ⟨b', l', h4, h5⟩ := hx p _ _ h2 h3
  rw [hb] at h4
  injection h4 with h4
  injection h4 with h4 _
  unfold envOf
  rw [h3, h5, h4]
  rfl

/-! ### Names that wait: SG knows them, WG does not -/
structure RP (F : Fx) (h : Gh) (st : St) (a : Act) (w : World) (q : Nat → Bool) : Prop where
  s : SG F h w st a
  w : WG F (h.hide q) w
theorem RP.ofR (r : R F g st a w) : RP F g st a w fun _ => false := ⟨r.s, by rw [hide_none]; exact r.w⟩
theorem RP.done {q : Nat → Bool} (r : RP F h st a w q) (hq : ∀ i, q i = false) : R F h st a w := by
  obtain rfl : q = fun _ => false := funext hq
  exact ⟨r.s, by have := r.w; rwa [hide_none] at this⟩
def less (q : Nat → Bool) (i : Nat) : Nat → Bool := fun j => q j && !(j == i)
theorem RP.newOwn {q : Nat → Bool} (r : RP F h st a w q) {n : Nat} {v : Value} {c : C} {B : Nat → Prop} {I : Nat → Value} (hp : q (2 * n) = false) (hn : h.own n = none) (hsn : h.sus n = none) (ho : OW w h.Z v c B I)
    (hf : ∀ b, B b → b < w.heap.size ∧ Free (h.hide q) b ∧ (F.w0.heap.size ≤ b ∨ (F.M b ∧ isLow n = true))) : RP F (h.setOwn n (v, c) B I) st a w q := by
  refine ⟨r.s.addOwn hn, ?_⟩
  have h1 := r.w.newOwn (n := n) (v := v) (c := c) (by simp [Gh.hide, hn]) (by simp [Gh.hide, hsn]) ho hf
  have e : (h.hide q).setOwn n (v, c) B I = (h.setOwn n (v, c) B I).hide q := by
    refine gh_ext (fun m => ?_) (fun m => rfl) rfl rfl rfl (fun m => rfl)
    simp only [Gh.hide, Gh.setOwn]
    by_cases e : m = n
    · subst e; simp [hp]
    · simp [e]
  rwa [e] at h1

/-- Room for new names and for blocks to come. -/
structure RoomP (F : Fx) (w : World) (nms : Nat → Nat) (j : Nat) (h : Gh) (q : Nat → Bool) (B : Nat → Prop) : Prop where
  free : ∀ i, j ≤ i → i < 8 → h.own (nms i) = none ∧ h.sus (nms i) = none ∧ q (2 * nms i) = false
  inj : ∀ i i', i < 8 → i' < 8 → nms i = nms i' → i = i'
  blocks : ∀ b, B b → b < w.heap.size ∧ Free (h.hide q) b ∧ ∀ i, i < 8 → F.w0.heap.size ≤ b ∨ (F.M b ∧ isLow (nms i) = true)
/-- Names were added, and no others turned. -/
structure AddsP (nms : Nat → Nat) (j k : Nat) (h h' : Gh) : Prop where
  z : h'.Z = h.Z
  tab : h'.tab = h.tab
  sus : h'.sus = h.sus
  own : ∀ n x, h.own n = some x → h'.own n = some x ∧ h'.inn n = h.inn n
  new : ∀ n, (∀ i, j ≤ i → i < k → n ≠ nms i) → h'.own n = h.own n ∧ h'.fp n = h.fp n ∧ h'.inn n = h.inn n
theorem AddsP.refl (nms : Nat → Nat) (j k : Nat) (h : Gh) : AddsP nms j k h h := ⟨rfl, rfl, rfl, fun _ _ h => ⟨h, rfl⟩, fun _ _ => ⟨rfl, rfl, rfl⟩⟩
theorem AddsP.trans {nms : Nat → Nat} {j k l : Nat} {g g' g'' : Gh} (hjk : j ≤ k) (hkl : k ≤ l) (h : AddsP nms j k g g') (h' : AddsP nms k l g' g'') : AddsP nms j l g g'' :=
  ⟨h'.z.trans h.z, h'.tab.trans h.tab, h'.sus.trans h.sus, fun n x hn => ⟨(h'.own n x (h.own n x hn).1).1, (h'.own n x (h.own n x hn).1).2.trans (h.own n x hn).2⟩,
    fun n hn => by
      have h1 := h.new n fun i q1 q2 => hn i q1 (by omega)
      have h2 := h'.new n fun i q1 q2 => hn i (by omega) q2
      exact ⟨h2.1.trans h1.1, h2.2.1.trans h1.2.1, h2.2.2.trans h1.2.2⟩⟩
theorem AddsP.gl {nms : Nat → Nat} {j k : Nat} {g g' : Gh} (h : AddsP nms j k g g') : Gl (fun _ => false) g g' :=
  ⟨fun n x _ hn => (h.own n x hn).1, fun n x _ hn => (h.own n x hn).2, fun n b vs _ hn => ⟨vs, by rw [h.tab]; exact hn⟩, fun n v c m _ _ hn => by rw [h.sus]; exact hn⟩
theorem AddsP.tr {nms : Nat → Nat} {j k : Nat} {g g' : Gh} (h : AddsP nms j k g g') : Tr g w g' w id := tr_id (fun b hb => ⟨by rw [h.z]; exact hb, rfl⟩) h.gl
theorem AddsP.xr {nms : Nat → Nat} {j k : Nat} {g g' : Gh} (h : AddsP nms j k g g') {x : X} {v : Value} (hx : XR g w x v) : XR g' w x v := h.tr.tr x v hx
theorem AddsP.xs {nms : Nat → Nat} {j k : Nat} {g g' : Gh} (h : AddsP nms j k g g') {xs : List X} {vs : List Value} (hx : XsR g w xs vs) : XsR g' w xs vs := by simpa using h.tr.xs hx
theorem AddsP.ur {nms : Nat → Nat} {j k : Nat} {g g' : Gh} (h : AddsP nms j k g g') {u : U} {v : Value} (hx : UR g w u v) : UR g' w u v := by simpa [map_id_u] using h.tr.u hx

theorem nameS_le {nms : Nat → Nat} {nam : Nat → Option Nat} {j : Nat} {s : S} : j ≤ (nameS nms nam j s).2 := by cases s <;> simp [nameS]
theorem nameSs_le {nms : Nat → Nat} {nam : Nat → Option Nat} : ∀ {ss : List S} {j : Nat}, j ≤ (nameSs nms nam j ss).2
  | [], j => by simp [nameSs]
  | s :: ss, j => by
    have h1 := nameS_le (nms := nms) (nam := nam) (j := j) (s := s)
    have h2 := nameSs_le (nms := nms) (nam := nam) (ss := ss) (j := (nameS nms nam j s).2)
    simp only [nameSs]
    omega
theorem nameD_le {nms : Nat → Nat} {j j' : Nat} {d : DU} {u : U} (h : nameD nms j d = some (u, j')) : j ≤ j' := by
  cases d <;> simp only [nameD] at h
  · injection h with h; injection h with _ h; subst h; exact nameS_le
  · injection h with h; injection h with _ h; subst h; exact nameSs_le
  · cases h
theorem nameDs_le {nms : Nat → Nat} : ∀ {ds : List DU} {j : Nat} {us : List U}, nameDs nms j ds = some us → j ≤ 8
  | [], j, us, h => by
    simp only [nameDs] at h
    cases hb : Nat.ble j 8
    · rw [hb] at h; cases h
    · exact Nat.le_of_ble_eq_true hb
  | d :: ds, j, us, h => by
    simp only [nameDs] at h
    split at h
    · rename_i u j1 hd
      split at h
      · rename_i us' hds
        have := nameDs_le hds
        have := nameD_le hd
        omega
      · cases h
    · cases h

theorem poss_caps {nam env : Nat → Option Nat} (he : ∀ p n b, nam p = some n → env p = some b → ∃ vs, h.tab n = some (b, vs)) : ∀ {ps ns bs : List Nat}, poss nam ps = some ns → ps.map env = bs.map some → capsR h ns bs
  | [], ns, bs, hp, hb => by
    simp only [poss] at hp
    injection hp with hp
    subst hp
    cases bs with
    | nil => exact ⟨[], rfl, rfl⟩
    | cons => simp at hb
  | p :: ps, ns, bs, hp, hb => by
    simp only [poss] at hp
    split at hp
    · rename_i n hn
      split at hp
      · rename_i ns' hns
        injection hp with hp
        subst hp
        cases bs with
        | nil => simp at hb
        | cons b bs =>
          simp only [List.map_cons] at hb
          injection hb with hb1 hb2
          obtain ⟨vs, h1⟩ := he p n b hn hb1
          obtain ⟨vss, h2, h3⟩ := poss_caps he hns hb2
          exact ⟨vs :: vss, by simp [h1, h2], by simp [h3]⟩
      · cases hp
    · cases hp
/-- What is read has a cell. -/
theorem DR.toXn {nam env : Nat → Option Nat} (he : ∀ p n b, nam p = some n → env p = some b → ∃ vs, h.tab n = some (b, vs)) {s : S} {v : Value} (hs : DR w h.Z env s v) : XR h w (s.toXn nam) v := by
  cases s with
  | rp b cs => exact ⟨fun hb => by obtain ⟨a, h1, h2⟩ := hs.1 hb; exact ⟨a, h1, h2⟩, hs.2⟩
  | fnv f first ps =>
    obtain ⟨bs, fvs, h1, h2, h3⟩ := hs
    show XR h w (match poss nam ps with | some ns => .fn f first ns | none => .undef) v
    split
    · rename_i ns hns
      exact ⟨bs, fvs, poss_caps he hns h1, h2, h3⟩
    · trivial
  | _ => exact hs
theorem newSs_ok {q : Nat → Bool} {nms : Nat → Nat} {nam env : Nat → Option Nat} : ∀ {ss : List S} {j : Nat} {vs : List Value} {B B1 B2 : Nat → Prop} {h : Gh}, (∀ p n b, nam p = some n → env p = some b → ∃ vs, h.tab n = some (b, vs)) → RP F h st a w q → MutSs w h.Z env ss vs B1 → Sep B B1 B2 → RoomP F w nms j h q B → (nameSs nms nam j ss).2 ≤ 8 →
    ∃ h', RP F h' st a w q ∧ AddsP nms j (nameSs nms nam j ss).2 h h' ∧ XsR h' w (nameSs nms nam j ss).1 vs ∧ RoomP F w nms (nameSs nms nam j ss).2 h' q B2
  | [], j, [], B, B1, B2, h, he, hR, hm, hB, hr, h8 => ⟨h, hR, .refl _ _ _ _, trivial, hr.free, hr.inj, fun b hb => hr.blocks b ((hB.all b).2 (.inr hb))⟩
  | s :: ss, j, v :: vs, B, B1, B2, h, he, hR, hm, hB, hr, h8 => by
    obtain ⟨b1, b2, hb, hm1, hm2⟩ := hm
    simp only [nameSs] at h8 ⊢
    have hl1 := nameS_le (nms := nms) (nam := nam) (j := j) (s := s)
    have hl2 := nameSs_le (nms := nms) (nam := nam) (ss := ss) (j := (nameS nms nam j s).2)
    have one : ∃ h1, RP F h1 st a w q ∧ AddsP nms j (nameS nms nam j s).2 h h1 ∧ XR h1 w (nameS nms nam j s).1 v ∧ RoomP F w nms (nameS nms nam j s).2 h1 q (fun b => b2 b ∨ B2 b) := by
      have plain : DR w h.Z env s v → (nameS nms nam j s) = (s.toXn nam, j) → ∃ h1, RP F h1 st a w q ∧ AddsP nms j (nameS nms nam j s).2 h h1 ∧ XR h1 w (nameS nms nam j s).1 v ∧ RoomP F w nms (nameS nms nam j s).2 h1 q (fun b => b2 b ∨ B2 b) := fun hd e => by
        rw [e]
        exact ⟨h, hR, .refl _ _ _ _, hd.toXn he, hr.free, hr.inj, fun b hb' => hr.blocks b ((hB.all b).2 (hb'.imp (fun x => (hb.all b).2 (.inr x)) id))⟩
      cases s with
      | sl c =>
        simp only [nameS] at h8 hl2 ⊢
        obtain ⟨_, I, ho⟩ := hm1
        have hj := hr.free j (Nat.le_refl _) (by omega)
        have inB : ∀ b, b1 b → B b := fun b x => (hB.all b).2 (.inl ((hb.all b).2 (.inl x)))
        have h1 := hR.newOwn (n := nms j) hj.2.2 hj.1 hj.2.1 ho fun b hb' => ⟨(hr.blocks b (inB b hb')).1, (hr.blocks b (inB b hb')).2.1, (hr.blocks b (inB b hb')).2.2 j (by omega)⟩
        have e2 : ∀ i, j + 1 ≤ i → i < 8 → nms i ≠ nms j := fun i q1 q2 e => by have := hr.inj i j q2 (by omega) e; omega
        refine ⟨_, h1, ⟨rfl, rfl, rfl, fun n x hn => ?_, fun n hn => ?_⟩, setOwn_self, fun i q1 q2 => ?_, hr.inj, fun b hb' => ?_⟩
        · have e : n ≠ nms j := fun e => by rw [e, hj.1] at hn; cases hn
          exact ⟨by rw [setOwn_ne e]; exact hn, setOwn_inn_ne e⟩
        · have e : n ≠ nms j := hn j (Nat.le_refl _) (by omega)
          exact ⟨setOwn_ne e, setOwn_fp_ne e, setOwn_inn_ne e⟩
        · have := hr.free i (by omega) q2
          exact ⟨by rw [setOwn_ne (e2 i q1 q2)]; exact this.1, this.2.1, this.2.2⟩
        · have hbB : B b := (hB.all b).2 (hb'.imp (fun x => (hb.all b).2 (.inr x)) id)
          obtain ⟨q1, q2, q3⟩ := hr.blocks b hbB
          refine ⟨q1, ⟨q2.z, fun i hi => ?_⟩, q3⟩
          obtain ⟨p1, p2⟩ := hide_bk.1 hi
          rcases setOwn_bk.1 p2 with ⟨_, x⟩ | ⟨_, p2⟩
          · rcases hb' with y | y
            · exact hb.dis b x y
            · exact hB.dis b ((hb.all b).2 (.inl x)) y
          · exact q2.bk i (hide_bk.2 ⟨p1, p2⟩)
      | _ => exact plain hm1.1 rfl
    obtain ⟨h1, hR1, ha1, hx1, hr1⟩ := one
    obtain ⟨h2, hR2, ha2, hx2, hr2⟩ := newSs_ok (h := h1) (B := fun b => b2 b ∨ B2 b) (B1 := b2) (B2 := B2) (fun p n b h1 h2 => by rw [ha1.tab]; exact he p n b h1 h2) hR1 (by rw [ha1.z]; exact hm2) ⟨fun _ => Iff.rfl, fun b x y => hB.dis b ((hb.all b).2 (.inr x)) y⟩ hr1 h8
    exact ⟨h2, hR2, ha1.trans hl1 hl2 ha2, ⟨ha2.xr hx1, hx2⟩, hr2⟩
  | [], _, _ :: _, _, _, _, _, _, _, hm, _, _, _ => hm.elim
  | _ :: _, _, [], _, _, _, _, _, _, hm, _, _, _ => hm.elim
theorem nameDs_ok {nms : Nat → Nat} : ∀ {ds : List DU} {j : Nat} {vs : List Value} {B : Nat → Prop} {g : Gh} {us : List U}, R F g st a w → MutDs w g.Z ds vs B → RoomP F w nms j g (fun _ => false) B → nameDs nms j ds = some us → ∃ g', R F g' st a w ∧ AddsP nms j 8 g g' ∧ UsR g' w us vs
  | [], j, [], B, g, us, hR, hm, hr, h => by
    simp only [nameDs] at h
    cases hb : Nat.ble j 8
    · rw [hb] at h; cases h
    · rw [hb] at h
      injection h with h
      subst h
      exact ⟨g, hR, .refl _ _ _ _, trivial⟩
  | d :: ds, j, v :: vs, B, g, us, hR, hm, hr, h => by
    simp only [nameDs] at h
    split at h
    · rename_i u j1 hd
      split at h
      · rename_i us' hds
        injection h with h
        subst h
        obtain ⟨B1, B2, hB, hf, hm1, hm2⟩ := hm
        have h8 := nameDs_le hds
        have hl := nameD_le hd
        have he : ∀ p n b, (fun _ => none : Nat → Option Nat) p = some n → (fun _ => none : Nat → Option Nat) p = some b → ∃ vs, g.tab n = some (b, vs) := fun p n b h1 _ => by cases h1
        have one : ∃ g1, RP F g1 st a w (fun _ => false) ∧ AddsP nms j j1 g g1 ∧ UR g1 w u v ∧ RoomP F w nms j1 g1 (fun _ => false) B2 := by
          cases d with
          | ptr cs => exact hf.elim
          | x s =>
            simp only [nameD] at hd
            injection hd with hd
            injection hd with e1 e2
            subst e1 e2
            have : (nameSs nms (fun _ => none) j [s]) = ([(nameS nms (fun _ => none) j s).1], (nameS nms (fun _ => none) j s).2) := rfl
            obtain ⟨g1, q1, q2, q3, q4⟩ := newSs_ok (ss := [s]) (vs := [v]) (B1 := B1) he (RP.ofR hR) ⟨B1, fun _ => False, ⟨fun b => by simp, fun _ _ h => h⟩, hm1, fun _ h => h⟩ hB hr (by rw [this]; exact Nat.le_trans (Nat.le_refl _) h8)
            rw [this] at q2 q3 q4
            exact ⟨g1, q1, q2, q3.1, q4⟩
          | agg cs =>
            simp only [nameD] at hd
            injection hd with hd
            injection hd with e1 e2
            subst e1 e2
            obtain ⟨us, rfl, hm1⟩ := hm1
            obtain ⟨g1, q1, q2, q3, q4⟩ := newSs_ok (ss := cs) (vs := us) (B1 := B1) he (RP.ofR hR) hm1 hB hr h8
            exact ⟨g1, q1, q2, ⟨us, rfl, q3⟩, q4⟩
        obtain ⟨g1, q1, q2, q3, q4⟩ := one
        obtain ⟨g2, p1, p2, p3⟩ := nameDs_ok (g := g1) (q1.done fun _ => rfl) (by rw [q2.z]; exact hm2) q4 hds
        exact ⟨g2, p1, q2.trans hl h8 p2, ⟨p2.ur q3, p3⟩⟩
      · cases h
    · cases h
  | [], _, _ :: _, _, _, _, _, hm, _, _ => hm.elim
  | _ :: _, _, [], _, _, _, _, hm, _, _ => hm.elim
theorem res_ok : ∀ {us : List U} {vs : List Value}, UsR g w us vs → VR g w (resV us) (resVal vs)
  | [], [], _ => ⟨[], rfl, trivial⟩
  | [u], [v], h => h.1
  | u :: u' :: us, v :: v' :: vs, h => ⟨v :: v' :: vs, rfl, h⟩
  | [], _ :: _, h => h.elim
  | [_], _ :: _ :: _, h => h.2.elim
  | _ :: _ :: _, [_], h => h.2.elim
  | _ :: _, [], h => h.elim
end
end Go.BV

/-
  A call that writes nothing; all such operations together.
-/
namespace Go.BV
section
variable {P : Program} {T : TypeId → TI} {O : Env} {F : Fx} {g : Gh} {st : St} {a : Act} {w : World} {o : Oper} {site : Nat} {next : Act → World → Prop} {Q : Exit → Act → World → Prop}

/-! ### Results that lead to nothing that was there -/
theorem flat_SR {w w' : World} {Z Z' : Nat → Prop} {c : C} (hf : c.flat = true) (hp : c.plain = true) {i : Nat} {v : Value} (h : SR w Z (c.get i) v) : SR w' Z' (c.get i) v := by
  cases c <;> first | exact h | (simp [C.plain] at hp; done) | (simp [C.flat] at hf; done)
theorem flat_OW {Z Z' : Nat → Prop} {c : C} {v : Value} {B : Nat → Prop} {I : Nat → Value} (hf : c.flat = true) (h : OW w Z v c B I) : OW w Z' v c B I := by
  rcases h with h | ⟨b, off, cap, l, e, h1, h2, h3, h4, h5⟩
  · exact .inl h
  · refine .inr ⟨b, off, cap, l, e, h1, h2, h3, h4, ?_⟩
    have key : c.plain = true → Cells w Z' c l off b B I := fun hp => (cells_plain hp).2 fun i hi => by
      obtain ⟨u, hu, hs⟩ := (cells_plain hp).1 h5 i hi
      exact ⟨u, hu, flat_SR hf hp hs⟩
    cases c <;> first | exact key rfl | exact h5
theorem flat_MutS {Z Z' : Nat → Prop} {env : Nat → Option Nat} {s : S} {v : Value} {B : Nat → Prop} (hf : s.flat = true) (h : MutS w Z env s v B) : MutS w Z' env s v B := by
  cases s <;> first | exact h | (cases hf; done) | skip
  obtain ⟨h1, I, h2⟩ := h
  exact ⟨h1, I, flat_OW hf h2⟩
theorem flat_MutSs {Z Z' : Nat → Prop} {env : Nat → Option Nat} : ∀ {ss : List S} {vs : List Value} {B : Nat → Prop}, ss.all S.flat = true → MutSs w Z env ss vs B → MutSs w Z' env ss vs B
  | [], [], _, _, h => h
  | s :: ss, v :: vs, B, hf, h => by
    simp only [List.all_cons, Bool.and_eq_true] at hf
    obtain ⟨B1, B2, h1, h2, h3⟩ := h
    exact ⟨B1, B2, h1, flat_MutS hf.1 h2, flat_MutSs hf.2 h3⟩
  | [], _ :: _, _, _, h => h.elim
  | _ :: _, [], _, _, h => h.elim
theorem flat_MutD {Z Z' : Nat → Prop} {env : Nat → Option Nat} {d : DU} {v : Value} {B : Nat → Prop} (hf : d.flat = true) (h : MutD w Z env d v B) : MutD w Z' env d v B := by
  cases d with
  | x s => exact flat_MutS hf h
  | agg cs => obtain ⟨vs, e, h⟩ := h; exact ⟨vs, e, flat_MutSs hf h⟩
  | ptr cs => obtain ⟨b, vs, B', h1, h2, h3, h4⟩ := h; exact ⟨b, vs, B', h1, h2, flat_MutSs hf h3, h4⟩
theorem flat_MutDs {Z Z' : Nat → Prop} : ∀ {ds : List DU} {vs : List Value} {B : Nat → Prop}, ds.all DU.flat = true → MutDs w Z ds vs B → MutDs w Z' ds vs B
  | [], [], _, _, h => h
  | d :: ds, v :: vs, B, hf, h => by
    simp only [List.all_cons, Bool.and_eq_true] at hf
    obtain ⟨B1, B2, h1, h2, h3, h4⟩ := h
    exact ⟨B1, B2, h1, h2, flat_MutD hf.1 h3, flat_MutDs hf.2 h4⟩
  | [], _ :: _, _, _, h => h.elim
  | _ :: _, [], _, _, h => h.elim

/-! ### The call -/
theorem run_callFn {f : Operand} {args : Array Operand} {tys : Array TypeId} {k : FuncId} {first caps : List Value} {fn : Func} (ho : o.op = .call { callee := .value f, args := args, argTypes := tys }) (he : a.eval f = .func (.func k) first.toArray caps.toArray) (hfn : P.funcs[k]? = some fn) (hb : fn.body.isNone = false) (hnm : (fn.name == "runtime.NumGoroutine") = false) :
    (execOp a.eval o).run P w = .ok (.enter k (first ++ args.toList.map a.eval ++ caps).toArray) w := by
  have hmap : args.map a.eval = (args.toList.map a.eval).toArray := by apply Array.ext'; simp
  simp only [execOp, ho, resolve, Deferred.ofValue, he, Sem.run_bind, Sem.run_pure, Result.andThen_ok, invoke, callFunc, run_program, hfn, hnm, hb, Bool.false_eq_true, if_false, hmap]
  simp
theorem SsR.toXs {ss : List S0} {vs : List Value} (h : SsR w g.Z ss vs) : XsR g w (ss.map S0.toX) vs := by
  induction ss generalizing vs with
  | nil => cases vs with
    | nil => trivial
    | cons => exact h.elim
  | cons s ss ih => cases vs with
    | nil => exact h.elim
    | cons v vs => exact ⟨SR.toX h.1, ih h.2⟩
/-- What is bound is told. -/
theorem firstV_ok : ∀ {fs : List (Bool × List S0)} {us : List Value}, FR w g.Z fs us → fs.length = us.length ∧ ∀ (i : Nat) x u, (fs.map firstV)[i]? = some x → us[i]? = some u → VR g w x u
  | [], [], _ => ⟨rfl, fun i x u h => by simp at h⟩
  | (b, ss) :: fs, u :: us, h => by
    obtain ⟨h1, h2⟩ := firstV_ok h.2
    refine ⟨by simp [h1], fun i x v hx hv => ?_⟩
    cases i with
    | succ i => exact h2 i x v (by simpa using hx) (by simpa using hv)
    | zero =>
      simp only [List.map_cons, List.getElem?_cons_zero, Option.some.injEq] at hx hv
      subst hx hv
      have h0 := h.1
      cases b with
      | true => obtain ⟨vs, e, h0⟩ := h0; exact ⟨vs, e, h0.toXs⟩
      | false =>
        cases ss with
        | nil => trivial
        | cons s ss => cases ss with
          | nil => exact SR.toX h0.1
          | cons => trivial
  | [], _ :: _, h => h.elim
  | _ :: _, [], h => h.elim
theorem getElem?_two {α β : Type} {xs ys : List α} {us vs : List β} {p : α → β → Prop} (hl : xs.length = us.length) (h1 : ∀ (i : Nat) x u, xs[i]? = some x → us[i]? = some u → p x u) (h2 : ∀ (i : Nat) x u, ys[i]? = some x → vs[i]? = some u → p x u) (i : Nat) (x : α) (u : β) (hx : (xs ++ ys)[i]? = some x) (hu : (us ++ vs)[i]? = some u) : p x u := by
  rw [List.getElem?_append] at hx hu
  split at hx
  · rename_i hlt
    rw [if_pos (by omega)] at hu
    exact h1 i x u hx hu
  · rename_i hlt
    rw [if_neg (by omega), ← hl] at hu
    exact h2 _ x u hx hu
theorem evs_ok (hS : SG F g w st a) {l : List Operand} (i : Nat) (x : V) (u : Value) (h1 : (l.map (ev st))[i]? = some x) (h2 : (l.map a.eval)[i]? = some u) : VR g w x u := by
  simp only [List.getElem?_map, Option.map_eq_some_iff] at h1 h2
  obtain ⟨p, hp, rfl⟩ := h1
  obtain ⟨q, hq, rfl⟩ := h2
  rw [hp] at hq
  injection hq with hq
  subst hq
  exact ev_ok hS _
/-- The world behind a call: what it made is read. -/
theorem R.behind (h : R F g st a w) {w' : World} {BR BU : Nat → Prop} (hos : w'.os = w.os) (ht : w'.tape = w.tape) (hout : w'.output = w.output) (hs : w.heap.size ≤ w'.heap.size) (hh : ∀ b, b < w.heap.size → w'.heap[b]? = w.heap[b]?) :
    R F (g.addZ fun b => w.heap.size ≤ b ∧ b < w'.heap.size ∧ ¬ BR b ∧ ¬ BU b) st a w' := by
  have h1 := h.grow hos ht hout hs hh
  refine ⟨h1.s.keep addZ_stay (fun _ _ h => ⟨h, rfl⟩) rfl fun _ _ h => h, h1.w.addZ fun b hb => ?_⟩
  have := h.w.size
  exact ⟨hb.2.1, fun hm => by have := F.Mlt b hm; omega, .inr (by omega), fun i hi => by have := (h.w.bk i b hi).1; omega⟩

theorem vToks_ptr {tb : Nat → Option (List X)} {n o : Nat} : ∀ {vs : List V}, V.u (.x (.ptr n o)) ∈ vs → n ∈ vToks tb vs
  | [], h => by cases h
  | v :: vs, h => by
    rcases List.mem_cons.1 h with h | h
    · rw [← h]; exact List.mem_cons_self ..
    · have := vToks_ptr (tb := tb) h
      cases v with
      | tup => exact this
      | u u => exact List.mem_append_right _ this
theorem s_call (hR : R F g st a w) {f : Operand} {args : Array Operand} {tys : Array TypeId} {k : FuncId} {fs : List (Bool × List S0)} {ora : Ora} {ds : List DU} {out : Out} {us : List U} {vs : List V} (hvs : vs = fs.map firstV ++ args.toList.map (ev st)) (hO : OOk P O) (hf : Fresh site g st) (ho : o.op = .call { callee := .value f, args := args, argTypes := tys })
    (he : ev st f = .u (.x (.fn k fs []))) (hk : O.fn k = some ora) (hv : ora.md.all Md.isVal = true) (hna : ora.na = vs.length) (hds : toDUs st.tb (posOf 0 vs) ora.md vs = some ds)
    (hG : ora.G ds some = some out) (hu : out.upd = []) (hfl : vToks st.tb vs = [] ∨ out.res.all DU.flat = true) (hus : nameDs (fun j => nm site (8 + j)) 0 out.res = some us)
    (hn : Nx F site g (st.out site o.dst (resV us) none) next) : o.wp P a w next Q := by
  obtain ⟨spec, hm, hsp⟩ := hO.meets k ora hk
  obtain ⟨fn, hfn, hb, hnm⟩ := hO.fn k ora hk
  obtain ⟨bs, fvs, hcb, hfr, hev⟩ := ev_x hR he
  have hbs : bs = [] := by
    obtain ⟨vss, h1, h2⟩ := hcb
    cases bs with
    | nil => rfl
    | cons b bs => cases vss with
      | nil => simp at h2
      | cons => simp at h1
  subst hbs
  unfold Oper.wp
  rw [run_callFn ho hev hfn hb hnm]
  simp only [List.map_nil, List.append_nil, Oper.upon_enter]
  obtain ⟨hfl1, hfl2⟩ := firstV_ok hfr
  have hlen : vs.length = (fvs ++ args.toList.map a.eval).length := by rw [hvs]; simp [hfl1]
  have hvr : ∀ (i : Nat) x u, vs[i]? = some x → (fvs ++ args.toList.map a.eval)[i]? = some u → VR g w x u := fun i x u hx hu => by
    rw [hvs] at hx
    exact getElem?_two (by simp [hfl1]) hfl2 (evs_ok hR.s) i x u hx hu
  -- what may be read
  obtain ⟨Zc, hz1, hz2, hz3, hz5, hz4⟩ : ∃ Zc : Nat → Prop, (∀ b, g.Z b → Zc b) ∧ (∀ b, Zc b → b < w.heap.size) ∧ (∀ n ∈ vToks st.tb vs, Sees g Zc n) ∧ (∀ n o, V.u (.x (.ptr n o)) ∈ vs → ∀ b l, g.tab n = some (b, l) → Zc b) ∧ (vToks st.tb vs = [] → Zc = g.Z) := by
    by_cases he : vToks st.tb vs = []
    · exact ⟨g.Z, fun _ h => h, fun b h => (hR.w.Zok b h).1, fun n hn => (by rw [he] at hn; cases hn), fun n o hn => (by have := vToks_ptr (tb := st.tb) hn; rw [he] at this; cases this), fun _ => rfl⟩
    · exact ⟨fun b => b < w.heap.size, fun b h => (hR.w.Zok b h).1, fun _ h => h, fun n hn x b h h' => (hR.w.bk _ b (.own h h')).1, fun n o _ b l h => (hR.w.bk _ b (.tab h)).1, fun h => absurd h he⟩
  have hargs := vals_read hR.s hR.w hz1 (env := envOf (fvs ++ args.toList.map a.eval)) (fun n p hp b l hb => pos_env hlen hvr hp hb) hv hlen hvr hz3 hz5 hds
  have := hm w Zc (fvs ++ args.toList.map a.eval) ds (fun _ => False) out (fun b hb => ⟨hz2 b hb, fun h => h⟩) (fun _ h => h.elim) hargs (hsp ds out hG)
  rw [List.take_of_length_le (by rw [hna, hlen]; exact Nat.le_refl _)] at this
  refine this.mono ?_
  rintro e w' ⟨u, rs, BR, BU, rfl, hp⟩
  show next (a.put o.dst u) w'
  have hR1 := hR.behind (BR := BR) (BU := BU) hp.os hp.tape hp.output hp.size (fun b hb => hp.frame b hb fun h => h)
  rw [hp.val]
  have hmut : MutDs w' (g.addZ fun b => w.heap.size ≤ b ∧ b < w'.heap.size ∧ ¬ BR b ∧ ¬ BU b).Z out.res rs BR := by
    rcases hfl with hfl | hfl
    · have hZ := hz4 hfl
      subst hZ
      exact hp.res
    · exact flat_MutDs hfl hp.res
  have hroom : RoomP F w' (fun j => nm site (8 + j)) 0 (g.addZ fun b => w.heap.size ≤ b ∧ b < w'.heap.size ∧ ¬ BR b ∧ ¬ BU b) (fun _ => false) BR := by
    refine ⟨fun i _ hi => ⟨(hf.fr (8 + i) (by omega)).own, (hf.fr (8 + i) (by omega)).sus, rfl⟩, fun i i' _ _ h => by unfold nm at h; omega, fun b hb => ?_⟩
    have hfr := hp.fresh b hb
    have := hR.w.size
    refine ⟨hfr.2, ?_, fun i _ => .inl (by omega)⟩
    rw [hide_none]
    refine ⟨fun hz => hz.elim (fun hz => ?_) fun hz => hz.2.2.1 hb, fun i hi => ?_⟩
    · have := (hR.w.Zok b hz).1; omega
    · have := (hR.w.bk i b hi).1; omega
  obtain ⟨g', hR2, ha, hu'⟩ := nameDs_ok hR1 hmut hroom hus
  refine hn _ _ _ (hR2.put (res_ok hu') o.dst) ⟨fun n hne hfr => ⟨?_, by rw [ha.tab]; exact hfr.tab, by rw [ha.sus]; exact hfr.sus⟩⟩
  rw [(ha.new n fun i _ hi => hne (8 + i) (by omega)).1]
  exact hfr.own

/-! ### All together -/
theorem isEmpty_nil {α : Type} {l : List α} (h : l.isEmpty = true) : l = [] := by cases l <;> first | rfl | cases h
theorem cv_sound (hT : TsOk P T) (hO : OOk P O) (hR : R F g st a w) (hf : Fresh site g st) {v : V} {ext : Option (List X)} (h : cvD T O site o.op (ev st) st.tb = some (v, ext)) (hn : Nx F site g (st.out site o.dst v ext) next) : o.wp P a w next Q := by
  unfold cvD cv at h
  have inj : ∀ {x y : V × Option (List X)}, some x = some y → x.1 = y.1 ∧ x.2 = y.2 := fun h => by injection h with h; subst h; exact ⟨rfl, rfl⟩
  split at h
  · rename_i x ho; obtain ⟨rfl, rfl⟩ := inj h; exact s_move hR ho hn
  · rename_i x ho; obtain ⟨rfl, rfl⟩ := inj h; exact s_assign hR ho hn
  · rename_i c x y ho
    split at h
    · rename_i b p q h1 h2 h3
      obtain ⟨rfl, rfl⟩ := inj h
      exact s_pick hR ho h1 (by cases b <;> first | exact h2 | exact h3) hn
    · rename_i b p h1 h2 h3
      cases b
      · cases h
      · obtain ⟨rfl, rfl⟩ := inj h
        exact s_pick hR ho h1 h2 hn
    · rename_i b q h1 h2 h3
      cases b
      · obtain ⟨rfl, rfl⟩ := inj h
        exact s_pick hR ho h1 h2 hn
      · cases h
    · cases h
  · rename_i t ho
    cases hb : Nat.blt 0 (T t).zero.length
    · rw [hb] at h; cases h
    · rw [hb] at h
      obtain ⟨rfl, rfl⟩ := inj h
      exact s_alloc hR hT hf ho hb hn
  · rename_i t x ho
    split at h
    · rename_i u hu
      cases hb : (u.cells.all X.cellOk && (u.cells.length == (T t).size))
      · rw [hb] at h; cases h
      · rw [hb] at h
        simp only [Bool.and_eq_true] at hb
        obtain ⟨rfl, rfl⟩ := inj h
        exact s_box hR hT hf ho hu hb.1 hn
    · cases h
  · rename_i t ps ho
    split at h
    · rename_i fs ht
      split at h
      · rename_i cs hcs
        cases hb : cs.all X.cellOk
        · rw [hb] at h; cases h
        · rw [hb] at h
          obtain ⟨rfl, rfl⟩ := inj h
          exact s_build hR hT ho ht hcs hn
      · cases h
    · cases h
  · rename_i t n ps ho
    split at h
    · rename_i c ht
      cases hb : Nat.ble n 4096
      · rw [hb] at h; cases h
      · rw [hb] at h
        simp only [cond_true] at h
        split at h
        · rename_i c' hc
          obtain ⟨rfl, rfl⟩ := inj h
          exact s_buildSlice hR hT hf ho ht hb hc hn
        · cases h
    · cases h
  · rename_i t x ho
    split at h
    · rename_i y hy
      cases hb : Nat.blt 0 (T t).size
      · rw [hb] at h; cases h
      · rw [hb] at h
        simp only [cond_true] at h
        split at h
        · rename_i u hu
          obtain ⟨rfl, rfl⟩ := inj h
          exact s_load hR hT ho hy hb hu hn
        · cases h
    · cases h
  · rename_i x ho
    split at h
    · rename_i hx; obtain ⟨rfl, rfl⟩ := inj h; exact s_nilCheck hR ho hx rfl hn
    · rename_i b cs k hx
      cases b
      · cases h
      · obtain ⟨rfl, rfl⟩ := inj h; exact s_nilCheck hR ho hx rfl hn
    · rename_i hx; obtain ⟨rfl, rfl⟩ := inj h; exact s_nilCheck hR ho hx rfl hn
    · rename_i hx; obtain ⟨rfl, rfl⟩ := inj h; exact s_nilCheck hR ho hx rfl hn
    · rename_i hx; obtain ⟨rfl, rfl⟩ := inj h; exact s_nilCheck hR ho hx rfl hn
    · cases h
  · rename_i op t x y t' ho
    rw [binV_nat] at h
    obtain ⟨r, h1, h2⟩ := Option.bind_eq_some_iff.1 h
    obtain ⟨rfl, rfl⟩ := inj h2
    exact s_binOp hR hT ho h1 hn
  · rename_i op t x ho
    rw [unV_nat] at h
    obtain ⟨r, h1, h2⟩ := Option.bind_eq_some_iff.1 h
    obtain ⟨rfl, rfl⟩ := inj h2
    exact s_unOp hR ho h1 hn
  · rename_i s d x ho
    split at h
    · rename_i h1 h2 h3; obtain ⟨rfl, rfl⟩ := inj h; exact s_convInt hR hT ho h1 h2 h3 hn
    · rename_i h1 h2 h3; obtain ⟨rfl, rfl⟩ := inj h; exact s_convStr hR hT ho h1 h2 h3 hn
    · cases h
  · rename_i t l c ho
    split at h
    · rename_i h1 h2
      cases hb : sameOp l c
      · rw [hb] at h; cases h
      · rw [hb] at h
        simp only [cond_true] at h
        split at h
        · rename_i h3
          split at h
          · rename_i h4
            obtain ⟨rfl, rfl⟩ := inj h
            exact s_makeSlice hR hT hf ho h1 h2 hb h3 h4 hn
          · cases h
        · cases h
    · cases h
  · rename_i t x lo hi mx ho
    split at h
    · cases h
    · split at h
      · rename_i h1 h2
        rw [bound_nat] at h
        obtain ⟨⟨l, hh⟩, h3, h4⟩ := Option.bind_eq_some_iff.1 h
        obtain ⟨rfl, rfl⟩ := inj h4
        exact s_sliceStr hR hT ho h1 h2 h3 hn
      · rename_i h1 h2
        rw [bound_nat] at h
        obtain ⟨⟨l, hh⟩, h3, h4⟩ := Option.bind_eq_some_iff.1 h
        obtain ⟨rfl, rfl⟩ := inj h4
        exact s_sliceRo hR hT ho h1 h2 h3 hn
      · cases h
  · rename_i t x f ho
    split at h
    · rename_i h1 h2
      split at h
      · rename_i h3; obtain ⟨rfl, rfl⟩ := inj h; exact s_fieldPtr hR hT ho h1 h3 h2 hn
      · cases h
    · rename_i fs b cs k h1 h2
      split at h
      · rename_i h3
        cases b
        · cases h
        · obtain ⟨rfl, rfl⟩ := inj h; exact s_fieldRop hR hT ho h1 h3 h2 hn
      · cases h
    · cases h
  · rename_i t x f ho
    split at h
    · rename_i h1 h2
      split at h
      · rename_i h3
        split at h
        · rename_i h4
          split at h
          · rename_i h5; obtain ⟨rfl, rfl⟩ := inj h; exact s_field hR hT ho h1 h2 h3 h4 h5 hn
          · cases h
        · cases h
      · cases h
    · cases h
  · rename_i t x i ho
    split at h
    · rename_i h1 h2 h3
      split at h
      · rename_i h4
        split at h
        · rename_i h5; obtain ⟨rfl, rfl⟩ := inj h; exact s_indexOwn hR hT ho h1 h2 h3 h4 h5 hn
        · cases h
      · cases h
    · rename_i h1 h2 h3
      split at h
      · rename_i h4
        split at h
        · rename_i h5; obtain ⟨rfl, rfl⟩ := inj h; exact s_indexRo hR hT ho h1 h2 h3 h4 h5 hn
        · cases h
      · cases h
    · cases h
  · rename_i t x i ho
    split at h
    · rename_i h1 h2 h3
      split at h
      · rename_i h4
        split at h
        · rename_i h5; obtain ⟨rfl, rfl⟩ := inj h; exact s_index hR hT ho h1 h2 h3 h4 h5 hn
        · cases h
      · cases h
    · cases h
  · rename_i t i ho
    split at h
    · rename_i h1
      split at h
      · rename_i h2; obtain ⟨rfl, rfl⟩ := inj h; exact s_extract hR ho h1 h2 hn
      · cases h
    · cases h
  · rename_i f first caps ho
    split at h
    · rename_i fs ns hfs hns; obtain ⟨rfl, rfl⟩ := inj h; exact s_makeFunc hR ho hfs hns hn
    · cases h
  · rename_i f args tys ho
    split at h
    · rename_i k fs hk
      split at h
      · rename_i ora hora
        dsimp only at h
        generalize hvs : List.map firstV fs ++ List.map (ev st) args.toList = vs at h
        cases hb : (ora.md.all Md.isVal && (ora.na == vs.length) && (seeds st.tb vs).isEmpty && (!ora.weak || (vToks st.tb vs).isEmpty))
        · rw [hb] at h; cases h
        · rw [hb] at h
          simp only [cond_true] at h
          simp only [Bool.and_eq_true] at hb
          obtain ⟨⟨⟨hb1, hb2⟩, _⟩, _⟩ := hb
          split at h
          · rename_i ds hds
            obtain ⟨out, hG, h⟩ := G_some (hO.nat k ora hora) h
            split at h
            · rename_i hup
              cases hc : ((vToks st.tb vs).isEmpty || out.res.all DU.flat)
              · rw [hc] at h; cases h
              · rw [hc] at h
                simp only [cond_true] at h
                simp only [Bool.or_eq_true] at hc
                split at h
                · rename_i us hus
                  obtain ⟨rfl, rfl⟩ := inj h
                  exact s_call hR hvs.symm hO hf ho hk hora hb1 (by simpa using hb2) hds hG hup (hc.imp isEmpty_nil id) hus hn
                · cases h
            · cases h
          · cases h
      · cases h
    · cases h
  · rename_i b args tys ho
    split at h
    · rename_i x hx
      have hmap : ∃ y, args.toList = [y] ∧ ev st y = x := by
        cases hl : args.toList with
        | nil => rw [hl] at hx; cases hx
        | cons y l => cases l with
          | nil => rw [hl] at hx; injection hx with hx; exact ⟨y, rfl, hx⟩
          | cons => rw [hl] at hx; simp at hx
      obtain ⟨y, hy, rfl⟩ := hmap
      cases hb : tys.size == 0
      · rw [hb] at h
        simp only [cond_false] at h
        have h0 : 0 < tys.size := by have : tys.size ≠ 0 := by simpa using hb
                                     omega
        split at h
        · rename_i h1 h2; obtain ⟨rfl, rfl⟩ := inj h; exact s_len (t := 0) hR hT ho hy h1 h2 h0 hn
        · rename_i h1 h2 h3; obtain ⟨rfl, rfl⟩ := inj h; exact s_lenStr (t := 0) hR hT ho hy h1 h3 h0 hn
        · cases h
      · rw [hb] at h; cases h
    · rename_i k p k' q hx
      obtain ⟨y, z, hy, h1, h2⟩ : ∃ y z, args.toList = [y, z] ∧ ev st y = .u (.x (.int k p)) ∧ ev st z = .u (.x (.int k' q)) := by
        cases hl : args.toList with
        | nil => rw [hl] at hx; cases hx
        | cons y l => cases l with
          | nil => rw [hl] at hx; simp at hx
          | cons z l => cases l with
            | nil => rw [hl] at hx; simp at hx; exact ⟨y, z, rfl, hx.1, hx.2⟩
            | cons => rw [hl] at hx; simp at hx
      obtain ⟨rfl, rfl⟩ := inj h
      exact s_min hR ho hy h1 h2 hn
    · rename_i k p k' q hx
      obtain ⟨y, z, hy, h1, h2⟩ : ∃ y z, args.toList = [y, z] ∧ ev st y = .u (.x (.int k p)) ∧ ev st z = .u (.x (.int k' q)) := by
        cases hl : args.toList with
        | nil => rw [hl] at hx; cases hx
        | cons y l => cases l with
          | nil => rw [hl] at hx; simp at hx
          | cons z l => cases l with
            | nil => rw [hl] at hx; simp at hx; exact ⟨y, z, rfl, hx.1, hx.2⟩
            | cons => rw [hl] at hx; simp at hx
      obtain ⟨rfl, rfl⟩ := inj h
      exact s_max hR ho hy h1 h2 hn
    · cases h
  · cases h
end
end Go.BV

/-
  Operations that write: stores, parts of one's own slices.
-/
namespace Go.BV
section
variable {P : Program} {T : TypeId → TI} {O : Env} {F : Fx} {g : Gh} {st : St} {a : Act} {w : World} {o : Oper} {site : Nat} {next : Act → World → Prop} {Q : Exit → Act → World → Prop}

/-- What names are left alone. -/
def Nw (F : Fx) (p : Nat → Bool) (g : Gh) (st' : St) (next : Act → World → Prop) : Prop := ∀ g' a' w', R F g' st' a' w' → (∀ n, p n = false → Fr g n → Fr g' n) → next a' w'
theorem Fr.hide {q : Nat → Bool} {n : Nat} (h : Fr g n) : Fr (g.hide q) n := by
  refine ⟨?_, ?_, ?_⟩
  · simp only [Gh.hide, h.own]; cases q (2 * n) <;> rfl
  · simp only [Gh.hide, h.tab]; cases q (2 * n + 1) <;> rfl
  · simp only [Gh.hide, h.sus]
theorem Fr.setOwn {n m : Nat} {x : Value × C} {B : Nat → Prop} {I : Nat → Value} (h : Fr g m) (e : m ≠ n) : Fr (g.setOwn n x B I) m := ⟨by rw [setOwn_ne e]; exact h.own, h.tab, h.sus⟩
theorem Fr.ro {n m : Nat} (h : Fr g m) : Fr (g.ro n) m := let k := h.hide (q := only n); ⟨k.own, k.tab, k.sus⟩
theorem Fr.ne {n m : Nat} {x : Value × C} (h : Fr g m) (hn : g.own n = some x) : m ≠ n := fun e => by rw [← e, h.own] at hn; cases hn

theorem row_setRow {b : Nat} {l m : List Value} (h : row w b = some l) : row (w.setRow b m.toArray) b = some m := by
  obtain ⟨e, h⟩ := row_heap h
  have := setRow_heap w b l.toArray m.toArray e (0, 0) h
  simpa using row_of_heap this
theorem run_stores {b k : Nat} {l vs : List Value} (h : row w b = some l) (hl : k + vs.length ≤ l.length) (h1 : ∀ v ∈ vs, v.oneCell' = true) : (storeCells ⟨b, k, none⟩ vs).run P w = .ok () (w.setRow b (l.take k ++ vs ++ l.drop (k + vs.length)).toArray) := by
  obtain ⟨e, h⟩ := row_heap h
  have := run_storeCells_at P b k e vs 0 l.toArray w h (by simpa using hl) h1
  simpa using this

theorem s_storePtr (hR : R F g st a w) {t : TypeId} {x y : Operand} {n k : Nat} {u : U} {xs ys : List X} (hT : TsOk P T) (ho : o.op = .store t x y) (hx : ev st x = .u (.x (.ptr n k))) (hy : ev st y = .u u) (hl : u.cells.length = (T t).size) (hs : Nat.blt 0 (T t).size = true) (hc : u.cells.all X.cellOk = true)
    (hxs : st.tb n = some xs) (hsp : splice xs u.cells k = some ys) (hn : Nw F (fun _ => false) g ({ st with tabs := setl st.tabs n ys }.put o.dst (.tup [])) next) : o.wp P a w next Q := by
  have hk := known hT (blt_ok hR hs)
  obtain ⟨inf, z, i1, i2, _⟩ := (hT.ok t hk).info
  obtain ⟨b, vs, h1, h2⟩ := ev_x hR hx
  have hu := UR.cells hR.w (ev_u hR hy) hc
  obtain ⟨xs', h3, h4⟩ := hR.s.tabs n b vs h1
  rw [hxs] at h3
  injection h3 with h3
  subst h3
  have hlen := hu.1.length
  have hlen2 := h4.length
  unfold splice at hsp
  cases hb : Nat.ble (k + u.cells.length) xs.length
  · rw [hb] at hsp; cases hsp
  · rw [hb] at hsp
    injection hsp with hsp
    have hle := Nat.le_of_ble_eq_true hb
    have hrow := hR.w.tab n b vs h1
    have hst := run_stores (P := P) (k := k) (vs := (a.eval y).cells.toList) hrow (by omega) hu.2
    unfold Oper.wp
    have hrun : (execOp a.eval o).run P w = .ok .skip (w.setRow b (vs.take k ++ (a.eval y).cells.toList ++ vs.drop (k + (a.eval y).cells.toList.length)).toArray) := by
      have hsz : (a.eval y).cells.size = inf.size := by rw [i2, ← hl, hlen]; simp
      simp only [execOp, ho, Instr.storeAt, h2, Instr.sureAddr, Sem.run_bind, Sem.run_pure, Result.andThen_ok, storeVar, sizeOf, typeInfo, run_program, i1, hsz, ne_eq, not_true_eq_false, if_false, hst]
    rw [hrun]
    have h5 := hR.setTab h1 (vs' := vs.take k ++ (a.eval y).cells.toList ++ vs.drop (k + (a.eval y).cells.toList.length)) (cs' := ys) (by rw [← hsp, ← hlen]; exact ((h4.take k).append hu.1).append (h4.drop _)) (w' := w.setRow b (vs.take k ++ (a.eval y).cells.toList ++ vs.drop (k + (a.eval y).cells.toList.length)).toArray) rfl rfl rfl (by simp [World.setRow]) (fun b' hb' => setRow_other w b b' _ hb') (row_setRow hrow)
    refine hn _ _ _ (h5.put (v := .tup []) (u := undef) ⟨[], rfl, trivial⟩ o.dst) fun m _ hm => ⟨hm.own, ?_, hm.sus⟩
    simp only [Gh.setTab]
    rw [if_neg (fun e => by rw [← e, hm.tab] at h1; cases h1)]
    exact hm.tab

theorem SR.one {Z : Nat → Prop} {s : S0} {v : Value} (h : SR w Z s v) : v.oneCell' = true ∧ v.cells = #[v] := by
  cases s <;> simp only [SR] at h
  case sl c => exact slice_one (CR_iff.1 h)
  all_goals (subst h; exact ⟨rfl, rfl⟩)
theorem OW.one {Z : Nat → Prop} {c : C} {v : Value} {B : Nat → Prop} {I : Nat → Value} (h : OW w Z v c B I) : v.oneCell' = true ∧ v.cells = #[v] := by
  rcases h with ⟨rfl, _⟩ | ⟨_, _, _, _, rfl, _⟩ <;> exact ⟨rfl, rfl⟩
theorem set_plain {c c' : C} {i : Nat} {s : S0} (h : c.set i s = some c') : c.plain = true ∧ c'.plain = true := by
  unfold C.set at h
  split at h <;> first
    | (injection h with h; subst h; exact ⟨rfl, rfl⟩)
    | (split at h <;> first | (injection h with h; subst h; exact ⟨rfl, rfl⟩) | cases h)
    | cases h
/-- What a store into a slice's cell does. -/
theorem el_run {n i : Nat} {c : C} {b : Addr} {len cap : Nat} {v : Value} (hw : WG F g w) (h1 : g.own n = some (.slice (some b) len cap, c)) (hi : i < c.len) (h1c : v.oneCell' = true) :
    ∃ b' off l, b = ⟨b', off, none⟩ ∧ len = c.len ∧ row w b' = some l ∧ off + cap ≤ l.length ∧ c.len ≤ cap ∧ g.fp n b' ∧ Cells w g.Z c l off b' (g.fp n) (g.inn n) ∧ (storeCells (b.add i) [v]).run P w = .ok () (w.setRow b' (l.set (off + i) v).toArray) := by
  rcases hw.own _ _ _ h1 with ⟨e, _⟩ | ⟨b', off, cap', l, e, h3, h4, h5, h6, h7⟩
  · cases e
  · injection e with e1 e2 e3
    injection e1 with e1
    subst e1 e2 e3
    have hlt : off + i < l.length := by omega
    have hst := run_stores (P := P) (k := off + i) (vs := [v]) h3 (by simp; omega) (by simpa using h1c)
    have hl' : l.take (off + i) ++ [v] ++ l.drop (off + i + [v].length) = l.set (off + i) v := by
      rw [List.set_eq_take_append_cons_drop, if_pos hlt]; simp
    rw [hl'] at hst
    exact ⟨b', off, l, rfl, rfl, h3, h4, h5, h6, h7, by rw [add_none]; exact hst⟩
/-- A store of a cell into a slice of one's own. -/
theorem el_store (hR : R F g st a w) {n i : Nat} {c c' : C} {s : S0} {b : Addr} {len cap : Nat} {v : Value} (h1 : g.own n = some (.slice (some b) len cap, c)) (hi : i < c.len) (hs : SR w g.Z s v) (hset : c.set i s = some c') :
    ∃ w' g', (storeCells (b.add i) [v]).run P w = .ok () w' ∧ R F g' (st.sub n (.setc c')) a w' ∧ ∀ m, Fr g m → Fr g' m := by
  obtain ⟨b', off, l, rfl, rfl, h3, h4, h5, h6, h7, hrun⟩ := el_run (P := P) hR.w h1 hi hs.one.1
  obtain ⟨hp, hp'⟩ := set_plain hset
  obtain ⟨hl1, hg1⟩ := C_set hR hset hi
  have hlt : off + i < l.length := by omega
  have hst' : Stay g.Z w g.Z (w.setRow b' (l.set (off + i) v).toArray) := fun z hz => ⟨hz, setRow_other w b' z _ fun e => (hR.w.bk _ b' (.own h1 h6)).2.1 (e ▸ hz)⟩
  refine ⟨_, _, hrun, hR.sub (s := .setc c') (B := g.fp n) (I := g.inn n) trivial h1 hl1.symm (fun _ h => .inl h) rfl rfl rfl (by simp [World.setRow]) (fun b'' hb' => setRow_other w b' b'' _ fun e => hb' (e ▸ h6)) (.inr ⟨b', off, cap, l.set (off + i) v, by show _ = Value.slice _ c'.len _; rw [hl1], row_setRow h3, by simpa using h4, by show c'.len ≤ _; omega, h6, (cells_plain hp').2 fun j hj => ?_⟩), fun m hm => hm.hide.setOwn (hm.ne h1)⟩
  rw [hl1] at hj
  rw [hg1 j hj]
  by_cases e : j = i
  · subst e
    rw [if_pos rfl]
    exact ⟨v, by simp [hlt], hs.mono hst'⟩
  · rw [if_neg e]
    obtain ⟨u, hu, hsr⟩ := (cells_plain hp).1 h7 j hj
    exact ⟨u, by rw [List.getElem?_set_ne (by omega)]; exact hu, hsr.mono hst'⟩
theorem run_store1 (hT : TsOk P T) {t : TypeId} {x y : Operand} {ad : Addr} {w' : World} (ho : o.op = .store t x y) (hx : a.eval x = .pointer (some ad)) (hl : 1 = (T t).size) (hc : (a.eval y).cells = #[a.eval y]) (hrun : (storeCells ad [a.eval y]).run P w = .ok () w') : (execOp a.eval o).run P w = .ok .skip w' := by
  obtain ⟨inf, z, i1, i2, _⟩ := (hT.ok t (known hT (show (T t).size ≠ 0 by omega))).info
  have hsz : (#[a.eval y] : Array Value).size = inf.size := by rw [i2, ← hl]; rfl
  simp only [execOp, ho, Instr.storeAt, hx, Instr.sureAddr, Sem.run_bind, Sem.run_pure, Result.andThen_ok, storeVar, sizeOf, typeInfo, run_program, i1, hc, hsz, ne_eq, not_true_eq_false, if_false, hrun]
theorem s_storeEl (hR : R F g st a w) {t : TypeId} {x y : Operand} {n i : Nat} {c c' : C} {u : X} {s : S0} (hT : TsOk P T) (ho : o.op = .store t x y) (hx : ev st x = .u (.x (.el n c i))) (hy : ev st y = .u (.x u)) (hl : 1 = (T t).size) (hs : u.toS0 = some s) (hno : u.toks.isEmpty = true) (hset : c.set i s = some c')
    (hn : Nw F (fun _ => false) g ((st.sub n (.setc c')).put o.dst (.tup [])) next) : o.wp P a w next Q := by
  obtain ⟨b, len, cap, h1, h2, h3⟩ := ev_x hR hx
  have hsr := toS0_ok hR (ev_x hR hy) hs hno
  obtain ⟨w', g', hrun, hR', hfr⟩ := el_store (P := P) hR h1 h2 hsr hset
  unfold Oper.wp
  rw [run_store1 hT ho h3 hl hsr.one.2 hrun]
  exact hn _ _ _ (hR'.put (v := .tup []) (u := undef) ⟨[], rfl, trivial⟩ o.dst) fun m _ hm => hfr m hm
theorem s_storeElOwn (hR : R F g st a w) {t : TypeId} {x y : Operand} {n i m : Nat} {c c' d : C} (hT : TsOk P T) (ho : o.op = .store t x y) (hx : ev st x = .u (.x (.el n c i))) (hy : ev st y = .u (.x (.own m d))) (hl : 1 = (T t).size) (hmn : m ≠ n) (hlow : isLow m = false) (hd : d.whole = true) (hset : c.set i (.sl d.rd) = some c')
    (hn : Nw F (fun _ => false) g (((st.sub m .ro).sub n (.setc c')).put o.dst (.tup [])) next) : o.wp P a w next Q := by
  obtain ⟨b, len, cap, h1, h2, h3⟩ := ev_x hR hx
  have hown := ev_x hR hy
  have hR1 := hR.ro (n := m) hlow
  have hsr : SR w (g.ro m).Z (.sl d.rd) (a.eval y) := CR_rd.2 ((hR.w.own m _ d hown).reads hd (fun _ h => .inl h) fun b hb => .inr ⟨_, hown, hb⟩)
  obtain ⟨w', g', hrun, hR', hfr⟩ := el_store (P := P) hR1 (ro_own.2 ⟨Ne.symm hmn, h1⟩) h2 hsr hset
  unfold Oper.wp
  rw [run_store1 hT ho h3 hl hsr.one.2 hrun]
  exact hn _ _ _ (hR'.put (v := .tup []) (u := undef) ⟨[], rfl, trivial⟩ o.dst) fun k _ hk => hfr k hk.ro

/-- A slice of numbers, as a row. -/
theorem OW.row {Z : Nat → Prop} {v : Value} {ys : List Int} {B B' : Nat → Prop} {I : Nat → Value} {w' : World} (h : OW w Z v (.ints .i64 ys) B I) (hB : ∀ b, v.ownBlock = some b → B b → B' b) (hh : ∀ b, B b → w'.heap[b]? = w.heap[b]?) : OW1 w' v ys B' := by
  rcases h with ⟨e, h⟩ | ⟨b, off, cap, l, rfl, h1, h2, h3, h4, h5⟩
  · exact .inl ⟨e, h⟩
  · refine .inr ⟨b, off, cap, l, rfl, by rw [row_same (hh b h4)]; exact h1, h2, h3, hB b rfl h4, fun i hi => ?_⟩
    obtain ⟨u, hu, hs⟩ := (cells_plain rfl).1 h5 i hi
    rw [hu]
    exact congrArg some hs
theorem OW1.block {v : Value} {ys : List Int} {B : Nat → Prop} (h : OW1 w v ys B) {b : Nat} (hb : v.ownBlock = some b) : B b := by
  rcases h with ⟨rfl, _⟩ | ⟨b', off, cap, l, rfl, _, _, _, h4, _⟩
  · cases hb
  · have : b' = b := by simpa [Value.ownBlock] using hb
    rw [← this]; exact h4
theorem Rows.inB {xs : List (List Int)} {H : Nat → Prop} {l : List Value} {off b : Nat} {B : Nat → Prop} {inn : Nat → Value} (h : Rows w xs H l off b B inn) {i : Nat} {x : List Int} (hx : xs[i]? = some x) (hh : ¬ H i) {b' : Nat} (hb : (inn i).ownBlock = some b') : B b' ∧ b' ≠ b := (h.own i x hx hh).block hb
/-- A row is laid into a slice of rows. -/
theorem Rows.lay {w' : World} {xs : List (List Int)} {H : Nat → Prop} {l : List Value} {off b i : Nat} {B B1 B2 : Nat → Prop} {inn : Nat → Value} {v : Value} {ys : List Int} (h : Rows w xs H l off b B inn) (hi : off + xs.length ≤ l.length) (hlt : i < xs.length) (hH : ∀ j, j ≠ i → ¬ H j)
    (hv : OW1 w' v ys B2) (hB2 : ∀ b', B2 b' → ¬ B b' ∧ B1 b') (hbb : B b) (hB : ∀ b', B b' → B1 b') (hh : ∀ b', B b' → b' ≠ b → w'.heap[b']? = w.heap[b']?) : Rows w' (xs.set i ys) (fun _ => False) (l.set (off + i) v) off b B1 (fun j => if j = i then v else inn j) := by
  have get : ∀ j x, (xs.set i ys)[j]? = some x → (j = i ∧ x = ys) ∨ (j ≠ i ∧ xs[j]? = some x) := fun j x hx => by
    by_cases e : j = i
    · subst e
      rw [List.getElem?_set_self hlt] at hx
      injection hx with hx
      exact .inl ⟨rfl, hx.symm⟩
    · rw [List.getElem?_set_ne (Ne.symm e)] at hx
      exact .inr ⟨e, hx⟩
  refine ⟨fun j x hx => ?_, fun j x hx _ => ?_, fun j k x y b' hx hy _ _ hbj hbk => ?_⟩
  · rcases get j x hx with ⟨rfl, _⟩ | ⟨e, hx⟩
    · exact ⟨v, by rw [List.getElem?_set_self (by omega)], fun _ => by rw [if_pos rfl]⟩
    · obtain ⟨u, hu, hin⟩ := h.cell j x hx
      exact ⟨u, by rw [List.getElem?_set_ne (by omega)]; exact hu, fun _ => by rw [if_neg e]; exact hin (hH j e)⟩
  · rcases get j x hx with ⟨rfl, rfl⟩ | ⟨e, hx⟩
    · rw [if_pos rfl]
      exact hv.mono (fun b' _ q => ⟨(hB2 b' q).2, fun e => (hB2 b' q).1 (e ▸ hbb)⟩) fun _ _ _ => rfl
    · rw [if_neg e]
      exact (h.own j x hx (hH j e)).mono (fun b' _ q => ⟨hB b' q.1, q.2⟩) fun b' _ q => hh b' q.1 q.2
  · rcases get j x hx with ⟨rfl, _⟩ | ⟨e, hx'⟩ <;> rcases get k y hy with ⟨e2, _⟩ | ⟨e', hy'⟩
    · exact e2.symm
    · rw [if_pos rfl] at hbj
      rw [if_neg e'] at hbk
      exact absurd (h.inB hy' (hH k e') hbk).1 (hB2 b' (hv.block hbj)).1
    · rw [e2, if_pos rfl] at hbk
      rw [if_neg e] at hbj
      exact absurd (h.inB hx' (hH j e) hbj).1 (hB2 b' (hv.block hbk)).1
    · rw [if_neg e] at hbj
      rw [if_neg e'] at hbk
      exact h.dis j k x y b' hx' hy' (hH j e) (hH k e') hbj hbk
theorem setOwn_hide_len {c : C} {xs : List (List Int)} : (C.orows xs).len = xs.length := rfl
/-- A row of one's own, or none, is stored among the rows. -/
theorem s_storeRow (hR : R F g st a w) {t : TypeId} {x y : Operand} {n i : Nat} {c : C} {xs : List (List Int)} {H : Nat → Prop} {ys : List Int} {st1 : St} {g1 : Gh} {B2 : Nat → Prop} (hT : TsOk P T) (ho : o.op = .store t x y) (hx : ev st x = .u (.x (.el n c i))) (hl : 1 = (T t).size) (hR1 : R F g1 st1 a w) (hz : g1.Z = g.Z)
    (hg1 : ∀ z, g.own n = some z → g1.own n = some z) (hfp : g1.fp n = g.fp n) (hinn : g1.inn n = g.inn n) (hclen : c.len = xs.length) (hcells : ∀ l off b, Cells w g.Z c l off b (g.fp n) (g.inn n) → Rows w xs H l off b (g.fp n) (g.inn n)) (hH : ∀ j, j ≠ i → ¬ H j)
    (hv : OW1 w (a.eval y) ys B2) (hone : (a.eval y).oneCell' = true ∧ (a.eval y).cells = #[a.eval y]) (hB2 : ∀ b, B2 b → ¬ g.fp n b ∧ b < w.heap.size ∧ Free g1 b ∧ (F.w0.heap.size ≤ b ∨ (F.M b ∧ isLow n = true)))
    (hfr : ∀ m, Fr g m → Fr g1 m) (hn : Nw F (fun _ => false) g ((st1.sub n (.setc (.orows (xs.set i ys)))).put o.dst (.tup [])) next) : o.wp P a w next Q := by
  obtain ⟨b, len, cap, h1, h2, h3⟩ := ev_x hR hx
  obtain ⟨b', off, l, rfl, rfl, h4, h5, h6, h7, h8, hrun⟩ := el_run (P := P) hR.w h1 h2 hone.1
  have hrows := hcells l off b' h8
  have hb2 : ∀ z, B2 z → z ≠ b' := fun z hz e => (hB2 z hz).1 (e ▸ h7)
  have hrow := row_setRow (w := w) (m := l.set (off + i) (a.eval y)) h4
  have hv' : OW1 (w.setRow b' (l.set (off + i) (a.eval y)).toArray) (a.eval y) ys B2 := hv.mono (fun _ _ h => h) fun z _ hz => setRow_other w b' z _ (hb2 z hz)
  have hlay := hrows.lay (w' := w.setRow b' (l.set (off + i) (a.eval y)).toArray) (i := i) (B1 := fun z => g1.fp n z ∨ B2 z) (by omega) (by omega) hH hv' (fun z hz => ⟨(hB2 z hz).1, .inr hz⟩) h7 (fun z hz => .inl (by rw [hfp]; exact hz)) (fun z _ hz => setRow_other w b' z _ hz)
  have hR2 := hR1.sub (n := n) (s := .setc (.orows (xs.set i ys))) (B := fun z => g1.fp n z ∨ B2 z) (I := fun j => if j = i then a.eval y else g.inn n j) trivial (hg1 _ h1) (by show c.len = (xs.set i ys).length; simp [hclen])
    (fun z hz => hz.imp id fun hz => (hB2 z hz).2) rfl rfl rfl (by simp [World.setRow]) (fun z hz => setRow_other w b' z _ fun e => hz (by rw [hfp, e]; exact h7))
    (w' := w.setRow b' (l.set (off + i) (a.eval y)).toArray) (.inr ⟨b', off, cap, _, by show _ = Value.slice _ (xs.set i ys).length _; simp [hclen], hrow, by simpa using h5, by show (xs.set i ys).length ≤ _; simp; omega, .inl (by rw [hfp]; exact h7), hlay⟩)
  unfold Oper.wp
  rw [run_store1 hT ho h3 hl hone.2 hrun]
  exact hn _ _ _ (hR2.put (v := .tup []) (u := undef) ⟨[], rfl, trivial⟩ o.dst) fun m _ hm => (hfr m hm).hide.setOwn (hm.ne h1)
theorem s_storeRowOwn (hR : R F g st a w) {t : TypeId} {x y : Operand} {n i m : Nat} {c : C} {xs : List (List Int)} {H : Nat → Prop} {ys : List Int} (hT : TsOk P T) (ho : o.op = .store t x y) (hx : ev st x = .u (.x (.el n c i))) (hy : ev st y = .u (.x (.own m (.ints .i64 ys)))) (hl : 1 = (T t).size) (hmn : m ≠ n) (hlow : isLow m = true → isLow n = true)
    (hclen : c.len = xs.length) (hcells : ∀ l off b, Cells w g.Z c l off b (g.fp n) (g.inn n) → Rows w xs H l off b (g.fp n) (g.inn n)) (hH : ∀ j, j ≠ i → ¬ H j)
    (hn : Nw F (fun _ => false) g (((st.drop fun k => k == m).sub n (.setc (.orows (xs.set i ys)))).put o.dst (.tup [])) next) : o.wp P a w next Q := by
  have hown := ev_x hR hy
  have how := hR.w.own m _ _ hown
  have e : (n == m) = false := by simpa using Ne.symm hmn
  refine s_storeRow (H := H) (B2 := g.fp m) hR hT ho hx hl (hR.drop fun k => k == m) rfl (fun z hz => drop_own.2 ⟨e, hz⟩) rfl rfl hclen hcells hH (how.row (fun _ _ h => h) fun _ _ => rfl) how.one (fun b hb => ?_) (fun k hk => hk.hide) hn
  have hb1 := hR.w.bk _ b (.own hown hb)
  rw [two_half] at hb1
  obtain ⟨_, _, _, h1, _⟩ := ev_x hR hx
  refine ⟨fun hf => hmn ?_, hb1.1, hR.w.freed (.own hown hb) (by rw [evens_own]; simp), hb1.2.2.imp id fun q => ⟨q.1, hlow q.2⟩⟩
  have := hR.w.bkD _ _ b (.own hown hb) (.own h1 hf)
  omega
theorem s_storeRowNil (hR : R F g st a w) {t : TypeId} {x y : Operand} {n i : Nat} {c d : C} {xs : List (List Int)} {H : Nat → Prop} (hT : TsOk P T) (ho : o.op = .store t x y) (hx : ev st x = .u (.x (.el n c i))) (hy : ev st y = .u (.x (.nil d))) (hl : 1 = (T t).size)
    (hclen : c.len = xs.length) (hcells : ∀ l off b, Cells w g.Z c l off b (g.fp n) (g.inn n) → Rows w xs H l off b (g.fp n) (g.inn n)) (hH : ∀ j, j ≠ i → ¬ H j)
    (hn : Nw F (fun _ => false) g ((st.sub n (.setc (.orows (xs.set i [])))).put o.dst (.tup [])) next) : o.wp P a w next Q := by
  have hy := ev_x hR hy
  exact s_storeRow (H := H) (B2 := fun _ => False) hR hT ho hx hl hR rfl (fun z hz => hz) rfl rfl hclen hcells hH (.inl ⟨hy.1, rfl⟩) (by rw [hy.1]; exact ⟨rfl, rfl⟩) (fun b hb => hb.elim) (fun k hk => hk) hn

/-! ### Parts -/
theorem isLow_high {n : Nat} (site : Nat) : isLow n = true → isLow (upName site n) = true := by
  intro h
  unfold upName
  rw [h]
  have : Nat.blt (nm site 0 + high) high = false := by
    rw [Bool.eq_false_iff]
    intro h
    have := Nat.le_of_ble_eq_true h
    omega
  simp [isLow, this]
theorem run_slice (hR : R F g st a w) {t : TypeId} {x : Operand} {lo hi : Option Operand} {e : C} {b : Option Addr} {n cap l h : Nat} (hT : TsOk P T) (ho : o.op = .slice t x lo hi none) (ht : (T t).u = .slice e) (e1 : a.eval x = .slice b n cap) (e2 : n ≤ cap) (hb : bound (lo.map (ev st)) (hi.map (ev st)) n (fun l h => some (l, h)) = some (l, h)) :
    (execOp a.eval o).run P w = .ok (.value (.slice (if cap = l then b else b.map (·.add l)) (h - l) (cap - l))) w ∧ l ≤ h ∧ h ≤ n := by
  obtain ⟨el, ie, ze, d1, _, _, d2, d3, _⟩ := desc hT ht (by simp)
  obtain ⟨h1, h2, h3⟩ := bound_ok (P := P) (isSlice := true) hR e2 hb
  exact ⟨by simp [execOp, ho, Instr.sliceAt, Instr.slice, run_underlying d1, e1, h1, sizeOf, typeInfo, d2, d3], h2, h3⟩
theorem own_hdr (hR : R F g st a w) {v : Value} {n : Nat} {c : C} (h : g.own n = some (v, c)) : ∃ b cap, v = .slice b c.len cap ∧ c.len ≤ cap := by
  rcases hR.w.own _ _ _ h with ⟨e1, e2⟩ | ⟨b, off, cap, l, e1, _, _, h3, _⟩
  · exact ⟨none, 0, by rw [e2]; exact e1, by omega⟩
  · exact ⟨_, cap, e1, h3⟩
theorem s_sliceOwn (hR : R F g st a w) {t : TypeId} {x : Operand} {lo hi : Option Operand} {e c : C} {n l h : Nat} (hT : TsOk P T) (ho : o.op = .slice t x lo hi none) (ht : (T t).u = .slice e) (hx : ev st x = .u (.x (.own n c))) (hp : c.plain = true) (hb : bound (lo.map (ev st)) (hi.map (ev st)) c.len (fun l h => some (l, h)) = some (l, h))
    (hn : Nw F (fun m => m == upName site n) g ((st.drop fun m => m == n || m == upName site n).put o.dst (.u (.x (.own (upName site n) ((c.take h).drop l))))) next) : o.wp P a w next Q := by
  have hown := ev_x hR hx
  obtain ⟨b, cap, e1, e2⟩ := own_hdr hR hown
  obtain ⟨hrun, h2, h3⟩ := run_slice (P := P) hR hT ho ht e1 e2 hb
  obtain ⟨q1, q2⟩ := C_part hR c h2 h3
  have hpp : ((c.take h).drop l).plain = true := by cases c <;> first | rfl | cases hp
  unfold Oper.wp
  rw [hrun]
  have how := hR.w.own _ _ _ hown
  rw [e1] at how hown
  have hnew : OW w g.Z (.slice (if cap = l then b else b.map (·.add l)) (h - l) (cap - l)) ((c.take h).drop l) (g.fp n) (fun _ => undef) := by
    rcases how with ⟨q3, q4⟩ | ⟨b', off, cap', ll, q3, q4, q5, q6, q7, q8⟩
    · injection q3 with q3 q5 q6
      subst q3
      refine .inl ⟨?_, by rw [q1]; omega⟩
      have : l = 0 := by omega
      have : h = 0 := by omega
      subst_vars
      simp
    · injection q3 with q3 _ q9
      subst q3 q9
      refine .inr ?_
      by_cases hcl : cap = l
      · rw [if_pos hcl]
        refine ⟨b', off, cap - l, ll, by rw [q1], q4, by omega, by rw [q1]; omega, q7, (cells_plain hpp).2 fun i hi => ?_⟩
        rw [q1] at hi; omega
      · rw [if_neg hcl]
        refine ⟨b', off + l, cap - l, ll, by rw [q1]; simp [add_none], q4, by omega, by rw [q1]; omega, q7, (cells_plain hpp).2 fun i hi => ?_⟩
        rw [q1] at hi
        rw [q2 i hi]
        obtain ⟨u, hu, hs⟩ := (cells_plain hp).1 q8 (l + i) (by omega)
        exact ⟨u, by rw [Nat.add_assoc]; exact hu, hs⟩
  have := hR.reown (n' := upName site n) (p := fun m => m == n || m == upName site n) hown (by simp) (by simp) (isLow_high site) rfl rfl rfl (Nat.le_refl _) (fun _ _ _ => rfl) hnew (fun bb hbb => ⟨(hR.w.bk _ bb (.own hown hbb)).1, .inr ⟨n, _, hown, by simp, hbb, isLow_high site⟩⟩)
  exact hn _ _ _ (this.put (v := .u (.x (.own _ _))) setOwn_self o.dst) fun m hm hfr => hfr.hide.setOwn (by simpa using hm)
/-- A slice of rows is written no more, and a part of it is taken. -/
theorem s_sliceFreeze (hR : R F g st a w) {t : TypeId} {x : Operand} {lo hi : Option Operand} {e c : C} {n l h : Nat} (hT : TsOk P T) (ho : o.op = .slice t x lo hi none) (ht : (T t).u = .slice e) (hx : ev st x = .u (.x (.own n c))) (hlow : isLow n = false) (hc : c.whole = true) (hb : bound (lo.map (ev st)) (hi.map (ev st)) c.len (fun l h => some (l, h)) = some (l, h))
    (hn : Nw F (fun _ => false) g ((st.sub n .ro).put o.dst (.u (.x (.ro ((c.rd.take h).drop l))))) next) : o.wp P a w next Q := by
  have hown := ev_x hR hx
  obtain ⟨b0, cap0, e1, e2⟩ := own_hdr hR hown
  obtain ⟨hrun, h2, h3⟩ := run_slice (P := P) hR hT ho ht e1 e2 hb
  have hR1 := hR.ro (n := n) hlow
  have hcr : CR w (g.ro n).Z c.rd (a.eval x) := CR_rd.2 ((hR.w.own n _ c hown).reads hc (fun _ h => .inl h) fun b hb => .inr ⟨_, hown, hb⟩)
  obtain ⟨q1, q2⟩ := C_part hR c.rd h2 (by rw [rd_len]; exact h3)
  unfold Oper.wp
  rw [hrun]
  refine hn _ _ _ (hR1.put (v := .u (.x (.ro ((c.rd.take h).drop l)))) ?_ o.dst) fun m _ hm => hm.ro
  obtain ⟨b, cap, p1, p2, p3, p4⟩ := CR_iff.1 hcr
  rw [e1] at p1
  injection p1 with p1 _ p5
  subst p1 p5
  refine CR_iff.2 ⟨_, _, by rw [q1], by rw [q1]; omega, fun hpos => ?_, fun ad had i hi => ?_⟩
  · rw [q1] at hpos
    obtain ⟨ad, rfl, hs, hz⟩ := p3 (by rw [rd_len]; omega)
    rw [if_neg (by rw [rd_len] at p2; omega)]
    exact ⟨ad.add l, rfl, by cases ad; simp at hs; subst hs; rw [add_none], by rw [add_block]; exact hz⟩
  · rw [q1] at hi
    rw [if_neg (by rw [rd_len] at p2; omega)] at had
    obtain ⟨ad0, rfl, hs, hz⟩ := p3 (by rw [rd_len]; omega)
    simp at had
    subst had
    obtain ⟨u, hu, hsr⟩ := p4 ad0 rfl (l + i) (by rw [rd_len]; omega)
    refine ⟨u, ?_, by show SR w _ _ u; rw [q2 i hi]; exact hsr⟩
    cases ad0
    simp at hs
    subst hs
    rw [add_none] at hu ⊢
    rw [add_none, Nat.add_assoc]
    exact hu
/-- A row is loaded, and none of the rows is written from now on. -/
theorem s_loadFreeze (hR : R F g st a w) {t : TypeId} {x : Operand} {n i : Nat} {xs : List (List Int)} (hT : TsOk P T) (ho : o.op = .load t x) (hx : ev st x = .u (.x (.el n (.orows xs) i))) (hlow : isLow n = false) (h1 : (T t).size = 1) (hag : (T t).u.isAgg = false)
    (hn : Nw F (fun _ => false) g ((st.sub n .ro).put o.dst (.u (.x (.ro (.ints .i64 (xs.getD i [])))))) next) : o.wp P a w next Q := by
  have hk := known hT (show (T t).size ≠ 0 by omega)
  obtain ⟨b, v, e, h2, h3⟩ := loadX_ok (P := P) (u := .x (.bw n (.ints .i64 (xs.getD i [])) i)) hR hT hk (ev_x hR hx) (by simp [loadX, hag])
  have hR1 := hR.ro (n := n) hlow
  unfold Oper.wp
  have hrun : (execOp a.eval o).run P w = .ok (.value v) w := by simp [execOp, ho, Instr.loadAt, e, Instr.sureAddr, h2]
  rw [hrun]
  refine hn _ _ _ (hR1.put (v := .u (.x (.ro (.ints .i64 (xs.getD i []))))) ?_ o.dst) fun m _ hm => hm.ro
  obtain ⟨v', xs', ys, p1, p2, p3, rfl⟩ := h3
  rw [p3]
  rcases hR.w.own _ _ _ p1 with ⟨_, h0⟩ | ⟨b', off, cap, l, rfl, _, _, _, _, h5⟩
  · have := (List.getElem?_eq_some_iff.1 p2).1
    have h0 : xs'.length = 0 := h0
    omega
  · have h5 : Rows w xs' (fun _ => False) l off b' _ _ := h5
    exact (h5.own _ _ p2 fun h => h).reads fun b'' _ q => .inr ⟨_, p1, q.1⟩
end
end Go.BV

/-
  append.
-/
namespace Go.BV
section
variable {P : Program} {T : TypeId → TI} {O : Env} {F : Fx} {g : Gh} {st : St} {a : Act} {w : World} {o : Oper} {site : Nat} {next : Act → World → Prop} {Q : Exit → Act → World → Prop}

theorem C_app {c d e : C} (h : c.app d = some e) : c.plain = true ∧ e.plain = true ∧ e.len = c.len + d.len ∧ ∀ i, e.get i = if i < c.len then c.get i else d.get (i - c.len) := by
  unfold C.app at h
  split at h
  · split at h
    · rename_i hk
      injection h with h
      subst h hk
      refine ⟨rfl, rfl, by simp [C.len], fun i => ?_⟩
      simp only [C.len, C.get, List.getD_eq_getElem?_getD, List.getElem?_append]
      split <;> rfl
    · cases h
  all_goals first
    | (injection h with h
       subst h
       refine ⟨rfl, rfl, by simp [C.len], fun i => ?_⟩
       simp only [C.len, C.get, List.getD_eq_getElem?_getD, List.getElem?_append]
       split <;> rfl)
    | cases h
theorem listOf {p : Nat → Value → Prop} : ∀ (n : Nat), (∀ i, i < n → ∃ u, p i u) → ∃ l : List Value, l.length = n ∧ ∀ i u, l[i]? = some u → p i u
  | 0, _ => ⟨[], rfl, fun i u h => by simp at h⟩
  | n + 1, h => by
    obtain ⟨l, h1, h2⟩ := listOf n fun i hi => h i (by omega)
    obtain ⟨u, hu⟩ := h n (by omega)
    refine ⟨l ++ [u], by simp [h1], fun i v hv => ?_⟩
    rw [List.getElem?_append] at hv
    split at hv
    · exact h2 i v hv
    · have : i = n := by
        have := (List.getElem?_eq_some_iff.1 hv).1
        simp at this
        omega
      subst this
      rw [h1, Nat.sub_self] at hv
      simp at hv
      subst hv
      exact hu

/-- Nothing, or a part of a block. -/
def Hd (w : World) (v : Value) (n : Nat) : Prop := (v = .slice none 0 0 ∧ n = 0) ∨ ∃ b off cap l, v = .slice (some ⟨b, off, none⟩) n cap ∧ row w b = some l ∧ off + cap ≤ l.length ∧ n ≤ cap
theorem OW.hd {Z : Nat → Prop} {v : Value} {c : C} {B : Nat → Prop} {I : Nat → Value} (h : OW w Z v c B I) : Hd w v c.len := by
  rcases h with h | ⟨b, off, cap, l, e, h1, h2, h3, _⟩
  · exact .inl h
  · exact .inr ⟨b, off, cap, l, e, h1, h2, h3⟩
/-- What an append of some cells leaves. -/
structure App (w : World) (v : Value) (n : Nat) (news : List Value) (v' : Value) (w' : World) : Prop where
  os : w'.os = w.os
  tape : w'.tape = w.tape
  output : w'.output = w.output
  size : w.heap.size ≤ w'.heap.size
  part : (news = [] ∧ v' = v ∧ w' = w) ∨ ∃ b off cap l, v' = .slice (some ⟨b, off, none⟩) (n + news.length) cap ∧ row w' b = some l ∧ off + cap ≤ l.length ∧ n + news.length ≤ cap ∧ (∀ i, i < news.length → l[off + n + i]? = news[i]?) ∧
    ((w.heap.size ≤ b ∧ b < w'.heap.size ∧ (∀ b', b' < w.heap.size → w'.heap[b']? = w.heap[b']?) ∧ ∀ b0 off0 cap0 l0, v = .slice (some ⟨b0, off0, none⟩) n cap0 → row w b0 = some l0 → ∀ i, i < n → l[off + i]? = l0[off0 + i]?) ∨
     (∃ l0, v = .slice (some ⟨b, off, none⟩) n cap ∧ row w b = some l0 ∧ (∀ i, i < n → l[off + i]? = l0[off + i]?) ∧ w'.heap.size = w.heap.size ∧ ∀ b', b' ≠ b → w'.heap[b']? = w.heap[b']?))
theorem append_cells {t el ty : TypeId} {ie : TypeInfo} {ze v u : Value} {n cap' : Nat} {a' : Option Addr} {news : List Value} (d1 : P.underlying t = some (.slice el)) (d2 : P.info? el = some ie) (d3 : ie.size = 1) (d4 : ie.bytes ≤ 64) (d5 : ie.zero = some ze) (d6 : ze.cells = #[ze])
    (hv : Hd w v n) (hu : u = .slice a' news.length cap') (hc : ∀ j q, news[j]? = some q → ∃ ad, a' = some ad ∧ w.cell? (ad.add j) = some q) (hone : ∀ q ∈ news, q.oneCell' = true) (hlen : n + news.length ≤ 1099511627776) :
    ∃ v' w', (Builtin.append_ #[t, t] ty #[v, u]).run P w = .ok v' w' ∧ App w v n news v' w' := by
  subst hu
  by_cases h0 : news = []
  · subst h0
    refine ⟨v, w, ?_, rfl, rfl, rfl, Nat.le_refl _, .inl ⟨rfl, rfl, rfl⟩⟩
    have hf : (Builtin.firstCells 1 0 (.slice a' 0 cap')).run P w = .ok #[] w := by cases a' <;> simp [Builtin.firstCells, loadCells, loadCellsFrom]
    rcases hv with ⟨rfl, _⟩ | ⟨b, off, cap, l, rfl, h1, h2, h3⟩
    · simp [Builtin.append_, run_underlying d1, sizeOf, typeInfo, d2, d3, Builtin.lenOf, hf]
    · simp [Builtin.append_, run_underlying d1, sizeOf, typeInfo, d2, d3, Builtin.lenOf, hf, h3, storeCells]
  · have hpos : 0 < news.length := List.length_pos_iff.2 h0
    obtain ⟨ad, rfl⟩ : ∃ ad, a' = some ad := by obtain ⟨ad, h, _⟩ := hc 0 _ (List.getElem?_eq_getElem hpos); exact ⟨ad, h⟩
    have hnews : ∀ j q, news[j]? = some q → w.cell? (ad.add j) = some q := fun j q h => by
      obtain ⟨ad', h1, h2⟩ := hc j q h
      injection h1 with h1
      subst h1
      exact h2
    have hb48 : ∀ n, n ≤ 1099511627776 → n * ie.bytes ≤ 140737488355328 := fun n hn => by
      have := Nat.mul_le_mul hn d4
      omega
    have hz : ∀ n, (Builtin.zeroCells ze.cells n).size = n := fun n => by rw [size_zeroCells, d6]; simp
    have grown : ∀ (olds : List Value) (q : Nat) (x : Array Value), olds.length = n → n + news.length ≤ q → x.size = q - (n + news.length) → (∀ b0 off0 cap0 l0, v = .slice (some ⟨b0, off0, none⟩) n cap0 → row w b0 = some l0 → ∀ i, i < n → olds[i]? = l0[off0 + i]?) →
        ∀ arr : Array Value, arr.toList = olds ++ news ++ x.toList → App w v n news (.slice (some ⟨w.heap.size, 0, none⟩) (n + news.length) q) (w.drew.alloc (.cells arr el)) := by
      intro olds q x ho hq hx hold arr harr
      refine ⟨rfl, rfl, rfl, by simp, .inr ⟨w.heap.size, 0, q, arr.toList, rfl, ?_, ?_, hq, fun i hi => ?_, .inl ⟨Nat.le_refl _, by simp, fun b hb => heap_alloc_lt hb, fun b0 off0 cap0 l0 e1 e2 i hi => ?_⟩⟩⟩
      · exact row_alloc (w := w.drew) (arr := arr) (e := el)
      · rw [harr]; simp only [List.length_append, Array.length_toList]; omega
      · rw [harr, List.append_assoc, List.getElem?_append_right (by omega), List.getElem?_append_left (by omega)]
        congr 1
        omega
      · rw [harr, List.append_assoc, List.getElem?_append_left (by omega), Nat.zero_add]
        exact hold b0 off0 cap0 l0 e1 e2 i hi
    rcases hv with ⟨rfl, rfl⟩ | ⟨b, off, cap, l, rfl, h1, h2, h3⟩
    · have hr := run_append_nil (P := P) w t ty el ie ze d1 d2 d5 ad news.length cap' news (by rw [d3]; omega) hnews (by omega) (by omega) (by have := hb48 news.length (by omega); omega)
      refine ⟨_, _, hr, ?_⟩
      have hge := grownCap_ge w news.length 0 el
      have := grown [] (grownCap w news.length 0 el) (Builtin.zeroCells ze.cells (grownCap w news.length 0 el - news.length)) rfl (by omega) (by rw [hz]; omega) (fun _ _ _ _ e => by cases e) (news.toArray ++ Builtin.zeroCells ze.cells (grownCap w news.length 0 el - news.length)) (by simp)
      simpa using this
    · by_cases hroom : n + news.length ≤ cap
      · have hst := run_stores (P := P) (k := off + n) (vs := news) h1 (by omega) hone
        have hf : (Builtin.firstCells 1 news.length (.slice (some ad) news.length cap')).run P w = .ok news.toArray w := run_firstCells_some w 1 news.length ad news.length cap' news (by omega) hnews
        refine ⟨.slice (some ⟨b, off, none⟩) (n + news.length) cap, w.setRow b (l.take (off + n) ++ news ++ l.drop (off + n + news.length)).toArray, ?_, rfl, rfl, rfl, by simp [World.setRow], .inr ⟨b, off, cap, _, rfl, row_setRow h1, by simp; omega, hroom, fun i hi => ?_, .inr ⟨l, rfl, h1, fun i hi => ?_, by simp [World.setRow], fun b' hb' => setRow_other w b b' _ hb'⟩⟩⟩
        · simp [Builtin.append_, run_underlying d1, sizeOf, typeInfo, d2, d3, Builtin.lenOf, hroom, hf, add_none, hst]
        · rw [List.append_assoc, List.getElem?_append_right (by simp; omega), List.length_take, List.getElem?_append_left (by omega), show off + n + i - min (off + n) l.length = i by omega]
        · rw [List.append_assoc, List.getElem?_append_left (by simp; omega), List.getElem?_take, if_pos (by omega)]
      · have hold : ∀ (j : Nat) (q : Value), ((l.drop off).take n)[j]? = some q → w.cell? ((⟨b, off, none⟩ : Addr).add j) = some q := fun j q hq => by
          rw [List.getElem?_take] at hq
          split at hq
          · rw [add_none, row_cell h1]; simpa using hq
          · cases hq
        have hr := run_append_grow (P := P) w t ty el ie ze d1 d2 d5 ⟨b, off, none⟩ n cap ((l.drop off).take n) (by simp [d3]; omega) hold ad news.length cap' news (by rw [d3]; omega) hnews (by omega) (by omega) (growslice_fits (by omega) (hb48 _ (by omega)))
        refine ⟨_, _, hr, ?_⟩
        have hge := grownCap_ge w (n + news.length) cap el
        exact grown ((l.drop off).take n) (grownCap w (n + news.length) cap el) (Builtin.zeroCells ze.cells (grownCap w (n + news.length) cap el - (n + news.length))) (by simp; omega) (by omega) (by rw [hz]) (fun b0 off0 cap0 l0 e1 e2 i hi => by
          injection e1 with e1
          injection e1 with e1
          injection e1 with e1 e3
          subst e1 e3
          rw [h1] at e2
          injection e2 with e2
          subst e2
          rw [List.getElem?_take, if_pos hi, List.getElem?_drop]) _ (by simp)
/-- What is appended. -/
theorem asSliceA_ok (hR : R F g st a w) {x : V} {c : C} {u : Value} (h : asSliceA x = some c) (hx : VR g w x u) : ∃ b cap, u = .slice b c.len cap ∧ ∀ i, i < c.len → ∃ ad q, b = some ad ∧ w.cell? (ad.add i) = some q ∧ SR w g.Z (c.get i) q := by
  unfold asSliceA at h
  split at h
  · injection h with h; subst h
    obtain ⟨b, cap, e, _, h1, h2⟩ := CR_iff.1 (show CR w g.Z _ u from hx)
    refine ⟨b, cap, e, fun i hi => ?_⟩
    obtain ⟨ad, rfl, _⟩ := h1 (by omega)
    obtain ⟨q, hq⟩ := h2 ad rfl i hi
    exact ⟨ad, q, rfl, hq⟩
  · rename_i c0
    cases hw : c0.whole
    · rw [hw] at h; cases h
    · rw [hw] at h
      injection h with h; subst h
      obtain ⟨e1, e2⟩ := hx
      exact ⟨none, 0, by rw [rd_len, e2]; exact e1, fun i hi => by rw [rd_len] at hi; omega⟩
  · rename_i n c0
    cases hp : c0.plain
    · rw [hp] at h; cases h
    · rw [hp] at h
      injection h with h; subst h
      rcases hR.w.own _ _ _ hx with ⟨e1, e2⟩ | ⟨b, off, cap, l, e1, h1, h2, h3, h4, h5⟩
      · exact ⟨none, 0, by rw [e2]; exact e1, fun i hi => by omega⟩
      · refine ⟨_, cap, e1, fun i hi => ?_⟩
        obtain ⟨q, hq, hs⟩ := (cells_plain hp).1 h5 i hi
        exact ⟨_, q, rfl, by rw [add_none, row_cell h1]; exact hq, hs⟩
  · rename_i n c0 j
    injection h with h; subst h
    obtain ⟨v', xs, ys, p1, p2, rfl, rfl⟩ := hx
    rcases hR.w.own _ _ _ p1 with ⟨_, h0⟩ | ⟨b, off, cap, l, e, _, _, _, _, h5⟩
    · have := (List.getElem?_eq_some_iff.1 p2).1
      have h0 : xs.length = 0 := h0
      omega
    · have h5 : Rows w xs (fun _ => False) l off b _ _ := h5
      rcases h5.own _ _ p2 (fun h => h) with ⟨e1, e2⟩ | ⟨b', off', cap', l', e1, h1, _, _, _, h6⟩
      · exact ⟨none, 0, by rw [e1, C.len, e2], fun i hi => by simp only [C.len] at hi; omega⟩
      · refine ⟨_, cap', e1, fun i hi => ⟨_, _, rfl, by rw [add_none, row_cell h1]; exact h6 i hi, rfl⟩⟩
  · cases h
theorem run_appendOp {x y : Operand} {args : Array Operand} {tys : Array TypeId} {t : TypeId} {v u r : Value} {w' : World} (ho : o.op = .call { callee := .builtin .append, args := args, argTypes := tys }) (ha : args.toList = [x, y]) (ht : tys.toList = [t, t]) (hx : a.eval x = v) (hy : a.eval y = u) (h : (Builtin.append_ #[t, t] o.type #[v, u]).run P w = .ok r w') :
    (execOp a.eval o).run P w = .ok (.value r) w' := by
  have ha' : args = #[x, y] := by rw [← Array.toArray_toList (xs := args), ha]
  have ht' : tys = #[t, t] := by rw [← Array.toArray_toList (xs := tys), ht]
  simp only [execOp, ho, ha', ht', resolve, invoke, builtin, Sem.run_bind, Sem.run_pure, Result.andThen_ok, List.map_toArray, List.map_cons, List.map_nil, hx, hy, h]
/-- The cells that are appended, and the run. -/
theorem append_run (hR : R F g st a w) {x y : Operand} {args : Array Operand} {tys : Array TypeId} {t : TypeId} {z d : C} {n : Nat} (hT : TsOk P T) (ho : o.op = .call { callee := .builtin .append, args := args, argTypes := tys }) (ha : args.toList = [x, y]) (ht : tys.toList = [t, t]) (hz : (T t).u = .slice z)
    (hx : Hd w (a.eval x) n) (hy : asSliceA (ev st y) = some d) (hlen : n + d.len ≤ 1099511627776) :
    ∃ news v' w', news.length = d.len ∧ (∀ i q, news[i]? = some q → SR w g.Z (d.get i) q) ∧ App w (a.eval x) n news v' w' ∧ (execOp a.eval o).run P w = .ok (.value v') w' := by
  obtain ⟨el, ie, ze, d1, _, _, d2, d3, d4, d5, d6, _, d7⟩ := desc hT hz (by simp)
  obtain ⟨b, cap, h1, h2⟩ := asSliceA_ok hR hy (ev_ok hR.s y)
  obtain ⟨news, n1, n2⟩ := listOf (p := fun i q => ∃ ad, b = some ad ∧ w.cell? (ad.add i) = some q ∧ SR w g.Z (d.get i) q) d.len fun i hi => by
    obtain ⟨ad, q, h3, h4, h5⟩ := h2 i hi
    exact ⟨q, ad, h3, h4, h5⟩
  obtain ⟨v', w', hr, hA⟩ := append_cells (P := P) (w := w) (ty := o.type) d1 d2 d3 d4 d5 d6 hx (h1.trans (by rw [n1])) (fun j q hq => by obtain ⟨ad, p1, p2, _⟩ := n2 j q hq; exact ⟨ad, p1, p2⟩) (fun q hq => by
    obtain ⟨j, hj, rfl⟩ := List.mem_iff_getElem.1 hq
    obtain ⟨_, _, _, p3⟩ := n2 j _ (List.getElem?_eq_getElem hj)
    exact p3.one.1) (by rw [n1]; exact hlen)
  exact ⟨news, v', w', n1, fun i q hq => by obtain ⟨_, _, _, p3⟩ := n2 i q hq; exact p3, hA, run_appendOp ho ha ht rfl rfl hr⟩
/-- Behind an append: what was said of plain contents. -/
theorem App.own {Z : Nat → Prop} {v v' : Value} {c d e : C} {news : List Value} {w' : World} {B : Nat → Prop} {I : Nat → Value} (hA : App w v c.len news v' w') (ho : OW w Z v c B I) (hZ : ∀ b, Z b → b < w.heap.size ∧ ¬ B b) (hn : news.length = d.len) (hs : ∀ i q, news[i]? = some q → SR w Z (d.get i) q) (happ : c.app d = some e) :
    OW w' Z v' e (fun b => B b ∨ (w.heap.size ≤ b ∧ b < w'.heap.size)) fun _ => undef := by
  obtain ⟨hp, hp', e1, e2⟩ := C_app happ
  rcases hA.part with ⟨h0, rfl, rfl⟩ | ⟨b, off, cap, l, rfl, h1, h2, h3, h4, h5⟩
  · subst h0
    have h0 : d.len = 0 := by rw [← hn]; rfl
    rcases ho with ⟨h1, h2⟩ | ⟨b, off, cap, l, h1, h2, h3, h4, h5, h6⟩
    · exact .inl ⟨h1, by omega⟩
    · refine .inr ⟨b, off, cap, l, by rw [e1, h0]; exact h1, h2, h3, by omega, .inl h5, (cells_plain hp').2 fun i hi => ?_⟩
      rw [e2, if_pos (by omega)]
      exact (cells_plain hp).1 h6 i (by omega)
  · have hst : Stay Z w Z w' := fun z hz => ⟨hz, by
      rcases h5 with ⟨_, _, hh, _⟩ | ⟨l0, hv, _, _, _, hh⟩
      · exact hh z (hZ z hz).1
      · refine hh z fun e => ?_
        subst e
        rcases ho with ⟨h, _⟩ | ⟨_, _, _, _, h, _, _, _, h6, _⟩
        · rw [hv] at h; cases h
        · rw [hv] at h
          injection h with h
          injection h with h
          injection h with h
          subst h
          exact (hZ _ hz).2 h6⟩
    have hB : B b ∨ (w.heap.size ≤ b ∧ b < w'.heap.size) := by
      rcases h5 with ⟨h, h', _⟩ | ⟨l0, hv, _⟩
      · exact .inr ⟨h, h'⟩
      · rcases ho with ⟨h, _⟩ | ⟨_, _, _, _, h, _, _, _, h6, _⟩
        · rw [hv] at h; cases h
        · rw [hv] at h
          injection h with h
          injection h with h
          injection h with h
          subst h
          exact .inl h6
    refine .inr ⟨b, off, cap, l, by rw [e1, hn], h1, h2, by rw [e1, ← hn]; exact h3, hB, (cells_plain hp').2 fun i hi => ?_⟩
    rw [e2]
    by_cases hlt : i < c.len
    · rw [if_pos hlt]
      rcases ho with ⟨_, h⟩ | ⟨b0, off0, cap0, l0, hv, hr0, _, _, _, h6⟩
      · omega
      · obtain ⟨q, hq, hsr⟩ := (cells_plain hp).1 h6 i hlt
        refine ⟨q, ?_, hsr.mono hst⟩
        rcases h5 with ⟨_, _, _, hold⟩ | ⟨l1, hv1, hr1, hold, _⟩
        · rw [hold b0 off0 cap0 l0 hv hr0 i hlt]; exact hq
        · rw [hv] at hv1
          injection hv1 with hv1
          injection hv1 with hv1
          injection hv1 with hv1 hv2
          subst hv1 hv2
          rw [hr0] at hr1
          injection hr1 with hr1
          subst hr1
          rw [hold i hlt]; exact hq
    · rw [if_neg hlt]
      have hi' : i - c.len < news.length := by omega
      obtain ⟨q, hq⟩ : ∃ q, news[i - c.len]? = some q := ⟨_, List.getElem?_eq_getElem hi'⟩
      have := h4 (i - c.len) hi'
      rw [show off + c.len + (i - c.len) = off + i by omega] at this
      exact ⟨q, by rw [this]; exact hq, (hs _ q hq).mono hst⟩
/-- What an append leaves alone. -/
theorem App.frame {v v' : Value} {n : Nat} {news : List Value} {w' : World} (hA : App w v n news v' w') {b : Nat} (hb : b < w.heap.size) (hv : v.ownBlock ≠ some b) : w'.heap[b]? = w.heap[b]? := by
  rcases hA.part with ⟨_, _, rfl⟩ | ⟨b', off, cap, l, _, _, _, _, _, h5⟩
  · rfl
  · rcases h5 with ⟨_, _, hh, _⟩ | ⟨l0, hv', _, _, _, hh⟩
    · exact hh b hb
    · refine hh b fun e => hv ?_
      rw [hv', e]; rfl
theorem own_block (hR : R F g st a w) {v : Value} {n : Nat} {c : C} (h : g.own n = some (v, c)) {b : Nat} (hb : v.ownBlock = some b) : g.fp n b := by
  rcases hR.w.own _ _ _ h with ⟨e, _⟩ | ⟨b', off, cap, l, e, _, _, _, h5, _⟩
  · rw [e] at hb; cases hb
  · rw [e] at hb
    have : b' = b := by simpa [Value.ownBlock] using hb
    rw [← this]; exact h5

theorem s_appendNil (hR : R F g st a w) {x y : Operand} {args : Array Operand} {tys : Array TypeId} {t : TypeId} {z c d e : C} (hT : TsOk P T) (ho : o.op = .call { callee := .builtin .append, args := args, argTypes := tys }) (ha : args.toList = [x, y]) (ht : tys.toList = [t, t]) (hz : (T t).u = .slice z)
    (hx : ev st x = .u (.x (.nil c))) (hy : asSliceA (ev st y) = some d) (happ : c.rd.app d = some e) (hlen : e.len ≤ 1099511627776)
    (hn : Nw F (fun m => m == nm site 0) g ((st.drop fun m => m == nm site 0).put o.dst (.u (.x (.own (nm site 0) e)))) next) : o.wp P a w next Q := by
  obtain ⟨e1, e2⟩ := ev_x hR hx
  have e3 := (C_app happ).2.2.1
  rw [rd_len, e2] at e3
  obtain ⟨news, v', w', n1, n2, hA, hrun⟩ := append_run (P := P) (n := 0) hR hT ho ha ht hz (.inl ⟨e1, rfl⟩) hy (by omega)
  unfold Oper.wp
  rw [hrun]
  have hA' : App w (a.eval x) c.rd.len news v' w' := by rw [rd_len, e2]; exact hA
  have how := hA'.own (Z := g.Z) (B := fun _ => False) (I := fun _ => undef) (.inl ⟨e1, by rw [rd_len, e2]⟩) (fun b hb => ⟨(hR.w.Zok b hb).1, fun h => h⟩) n1 n2 happ
  have h3 := (hR.drop fun m => m == nm site 0).grow hA.os hA.tape hA.output hA.size (fun b hb => hA.frame hb (by rw [e1]; simp [Value.ownBlock]))
  have h4 := h3.newOwn (n := nm site 0) (v := v') (c := e) (B := fun b => False ∨ (w.heap.size ≤ b ∧ b < w'.heap.size)) (I := fun _ => undef) (by simp [Gh.drop, Gh.hide, evens_own]) (by
      cases e : (g.drop fun m => m == nm site 0).sus (nm site 0) with
      | none => rfl
      | some x => obtain ⟨v, c, j⟩ := x; have := (drop_sus.1 e).1.1; simp at this) how fun b hb => by
    rcases hb with hb | hb
    · exact hb.elim
    · exact ⟨hb.2, (hR.w.free hb.1).hide, .inl (by have := hR.w.size; omega)⟩
  exact hn _ _ _ (h4.put (v := .u (.x (.own _ _))) setOwn_self o.dst) fun m hm hfr => hfr.hide.setOwn (by simpa using hm)
theorem s_appendOwn (hR : R F g st a w) {x y : Operand} {args : Array Operand} {tys : Array TypeId} {t : TypeId} {n : Nat} {z c d e : C} (hT : TsOk P T) (ho : o.op = .call { callee := .builtin .append, args := args, argTypes := tys }) (ha : args.toList = [x, y]) (ht : tys.toList = [t, t]) (hz : (T t).u = .slice z)
    (hx : ev st x = .u (.x (.own n c))) (hy : asSliceA (ev st y) = some d) (happ : c.app d = some e) (hlen : e.len ≤ 1099511627776)
    (hn : Nw F (fun m => m == upName site n) g ((st.drop fun m => m == n || m == upName site n).put o.dst (.u (.x (.own (upName site n) e)))) next) : o.wp P a w next Q := by
  have hown := ev_x hR hx
  have how0 := hR.w.own _ _ _ hown
  have e3 := (C_app happ).2.2.1
  obtain ⟨news, v', w', n1, n2, hA, hrun⟩ := append_run (P := P) hR hT ho ha ht hz how0.hd hy (by omega)
  unfold Oper.wp
  rw [hrun]
  have how := hA.own how0 (fun b hb => ⟨(hR.w.Zok b hb).1, fun h => (hR.w.bk _ b (.own hown h)).2.1 hb⟩) n1 n2 happ
  have := hR.reown (n' := upName site n) (p := fun m => m == n || m == upName site n) hown (by simp) (by simp) (isLow_high site) hA.os hA.tape hA.output hA.size (fun b hb hf => hA.frame hb fun hv => hf (own_block hR hown hv)) how (fun b hb => by
    rcases hb with hb | hb
    · exact ⟨Nat.lt_of_lt_of_le (hR.w.bk _ b (.own hown hb)).1 hA.size, .inr ⟨n, _, hown, by simp, hb, isLow_high site⟩⟩
    · exact ⟨hb.2, .inl hb.1⟩)
  exact hn _ _ _ (this.put (v := .u (.x (.own _ _))) setOwn_self o.dst) fun m hm hfr => hfr.hide.setOwn (by simpa using hm)
end
end Go.BV

/-
  append to a row, append to a slice that is kept, slices of slices of one's own.
-/
namespace Go.BV
section
variable {P : Program} {T : TypeId → TI} {O : Env} {F : Fx} {g : Gh} {st : St} {a : Act} {w : World} {o : Oper} {site : Nat} {next : Act → World → Prop} {Q : Exit → Act → World → Prop}

theorem OW1.toOW {Z : Nat → Prop} {v : Value} {ys : List Int} {B : Nat → Prop} {I : Nat → Value} (h : OW1 w v ys B) : OW w Z v (.ints .i64 ys) B I := by
  rcases h with h | ⟨b, off, cap, l, rfl, h1, h2, h3, h4, h5⟩
  · exact .inl h
  · exact .inr ⟨b, off, cap, l, rfl, h1, h2, h3, h4, (cells_plain rfl).2 fun i hi => ⟨_, h5 i hi, rfl⟩⟩
/-- A slice of rows, and a row of it. -/
theorem row_at (hR : R F g st a w) {n i : Nat} {v : Value} {xs : List (List Int)} {ys : List Int} (h1 : g.own n = some (v, .orows xs)) (h2 : xs[i]? = some ys) : ∃ b off cap l, v = .slice (some ⟨b, off, none⟩) xs.length cap ∧ row w b = some l ∧ off + cap ≤ l.length ∧ xs.length ≤ cap ∧ g.fp n b ∧ Rows w xs (fun _ => False) l off b (g.fp n) (g.inn n) := by
  rcases hR.w.own _ _ _ h1 with ⟨_, h0⟩ | ⟨b, off, cap, l, e, q1, q2, q3, q4, q5⟩
  · have := (List.getElem?_eq_some_iff.1 h2).1
    have h0 : xs.length = 0 := h0
    omega
  · exact ⟨b, off, cap, l, e, q1, q2, q3, q4, q5⟩
theorem s_appendBw (hR : R F g st a w) {x y : Operand} {args : Array Operand} {tys : Array TypeId} {t : TypeId} {n i : Nat} {z c d e : C} (hT : TsOk P T) (ho : o.op = .call { callee := .builtin .append, args := args, argTypes := tys }) (ha : args.toList = [x, y]) (ht : tys.toList = [t, t]) (hz : (T t).u = .slice z)
    (hx : ev st x = .u (.x (.bw n c i))) (hy : asSliceA (ev st y) = some d) (happ : c.app d = some e) (hlen : e.len ≤ 1099511627776)
    (hn : Nw F (fun m => m == upName site n) g (((st.sub n (.hole i)).drop fun m => m == upName site n).put o.dst (.u (.x (.own (upName site n) e)))) next) : o.wp P a w next Q := by
  obtain ⟨vn, xs, ys, h1, h2, rfl, h3⟩ := ev_x hR hx
  obtain ⟨b0, off0, cap0, l0, rfl, q1, q2, q3, q4, q5⟩ := row_at hR h1 h2
  have hrow := q5.own i ys h2 fun h => h
  have e3 := (C_app happ).2.2.1
  have how0 : OW w g.Z (a.eval x) (.ints .i64 ys) (fun b => (a.eval x).ownBlock = some b ∧ g.fp n b ∧ b ≠ b0) fun _ => undef := by
    rw [h3]
    exact (hrow.mono (fun b hb q => ⟨hb, q.1, q.2⟩) fun _ _ _ => rfl).toOW
  obtain ⟨news, v', w', n1, n2, hA, hrun⟩ := append_run (P := P) hR hT ho ha ht hz how0.hd hy (by omega)
  unfold Oper.wp
  rw [hrun]
  have how := hA.own how0 (fun b hb => ⟨(hR.w.Zok b hb).1, fun h => (hR.w.bk _ b (.own h1 h.2.1)).2.1 hb⟩) n1 n2 happ
  have hne : ∀ b, ¬ g.fp n b → (a.eval x).ownBlock ≠ some b := fun b hf hb => hf (hrow.block (by rw [← h3]; exact hb)).1
  have hne0 : (a.eval x).ownBlock ≠ some b0 := fun hb => (hrow.block (by rw [← h3]; exact hb)).2 rfl
  have hb0 := (hR.w.bk _ b0 (.own h1 q4)).1
  have hR1 := hR.subG (s := .hole i) (B := fun b => g.fp n b ∧ (a.eval x).ownBlock ≠ some b) (I := g.inn n) trivial h1 out_len.symm (fun b hb => .inl hb.1) hA.os hA.tape hA.output hA.size (fun b hb hf => hA.frame hb (hne b hf))
    (.inr ⟨b0, off0, cap0, l0, rfl, by rw [row_same (hA.frame hb0 hne0)]; exact q1, q2, q3, ⟨q4, hne0⟩, ⟨fun j u hj => (q5.cell j u hj).imp fun _ p => ⟨p.1, fun _ => p.2 fun h => h⟩, fun j u hj hji => ?_, fun j k u u' b' hj hk _ _ p1 p2 => q5.dis j k u u' b' hj hk (fun h => h) (fun h => h) p1 p2⟩⟩)
  · have hR2 := hR1.drop fun m => m == upName site n
    have hup := hR2.newOwn (n := upName site n) (v := v') (c := e) (B := fun b => ((a.eval x).ownBlock = some b ∧ g.fp n b ∧ b ≠ b0) ∨ (w.heap.size ≤ b ∧ b < w'.heap.size)) (I := fun _ => undef) (by simp [Gh.drop, Gh.hide, evens_own]) (by
        cases he : (((g.hide (only n)).setOwn n (_, (Sb.hole i).on (.orows xs)) (fun b => g.fp n b ∧ (a.eval x).ownBlock ≠ some b) (g.inn n)).drop fun m => m == upName site n).sus (upName site n) with
        | none => rfl
        | some x => obtain ⟨v, c, j⟩ := x; have := (drop_sus.1 he).1.1; simp at this) how fun b hb => by
      rcases hb with hb | hb
      · have hk := hR.w.bk _ b (.own h1 hb.2.1)
        rw [two_half] at hk
        refine ⟨Nat.lt_of_lt_of_le hk.1 hA.size, ⟨hk.2.1, fun j hj => ?_⟩, hk.2.2.imp id fun q => ⟨q.1, isLow_high site q.2⟩⟩
        rcases setOwn_bk.1 (hide_bk.1 hj).2 with ⟨_, q⟩ | ⟨hj2, q⟩
        · exact q.2 hb.1
        · exact hj2 (hR.w.bkD j _ b (hide_bk.1 q).2 (.own h1 hb.2.1))
      · refine ⟨hb.2, ⟨(hR.w.free hb.1).z, fun j hj => ?_⟩, .inl (by have := hR.w.size; omega)⟩
        rcases setOwn_bk.1 (hide_bk.1 hj).2 with ⟨_, q⟩ | ⟨_, q⟩
        · exact (hR.w.free hb.1).bk _ (.own h1 q.1)
        · exact (hR.w.free hb.1).bk _ (hide_bk.1 q).2
    exact hn _ _ _ (hup.put (v := .u (.x (.own _ _))) setOwn_self o.dst) fun m hm hfr => ((hfr.hide.setOwn (hfr.ne h1)).hide).setOwn (by simpa using hm)
  · have hj1 := q5.own j u hj fun h => h
    have hnb : ∀ b', (g.inn n j).ownBlock = some b' → (a.eval x).ownBlock ≠ some b' := fun b' p1 p2 => hji (q5.dis j i u ys b' hj h2 (fun h => h) (fun h => h) p1 (by rw [← h3]; exact p2))
    exact hj1.mono (fun b' p1 q => ⟨⟨q.1, hnb b' p1⟩, q.2⟩) fun b' p1 q => hA.frame (hR.w.bk _ b' (.own h1 q.1)).1 (hnb b' p1)

/-- A slice is appended to and kept. -/
theorem s_appendFork (hR : R F g st a w) {x y : Operand} {args : Array Operand} {tys : Array TypeId} {t : TypeId} {n : Nat} {z c d e : C} (hT : TsOk P T) (ho : o.op = .call { callee := .builtin .append, args := args, argTypes := tys }) (ha : args.toList = [x, y]) (ht : tys.toList = [t, t]) (hz : (T t).u = .slice z)
    (hx : ev st x = .u (.x (.own n c))) (hy : asSliceA (ev st y) = some d) (happ : c.app d = some e) (hlen : e.len ≤ 1099511627776) (hne : n ≠ upName site n) (hfl : c.flat = true)
    (hn : Nw F (fun m => m == upName site n) g (((st.drop fun m => m == upName site n).fork n (upName site n) c).put o.dst (.u (.x (.own (upName site n) e)))) next) : o.wp P a w next Q := by
  have hown := ev_x hR hx
  have how0 := hR.w.own _ _ _ hown
  obtain ⟨hpc, hpe, e3, e4⟩ := C_app happ
  obtain ⟨news, v', w', n1, n2, hA, hrun⟩ := append_run (P := P) hR hT ho ha ht hz how0.hd hy (by omega)
  unfold Oper.wp
  rw [hrun]
  generalize hup : upName site n = m at *
  have hlow : isLow n = true → isLow m = true := fun h => by rw [← hup]; exact isLow_high site h
  have hZ : ∀ b, g.Z b → b < w.heap.size ∧ ¬ g.fp n b := fun b hb => ⟨(hR.w.Zok b hb).1, fun h => (hR.w.bk _ b (.own hown h)).2.1 hb⟩
  have how := hA.own how0 hZ n1 n2 happ
  have hown0 : (g.drop fun k => k == m).own n = some (a.eval x, c) := drop_own.2 ⟨by simpa using hne, hown⟩
  have hR0 := hR.drop fun k => k == m
  -- the slice that is kept
  have hkeep : OW w' g.Z (a.eval x) c (g.fp n) fun _ => undef := by
    rcases how0 with h | ⟨b, off, cap, l, hv, q1, q2, q3, q4, q5⟩
    · exact .inl h
    · have hst : ∀ (l' : List Value), row w' b = some l' → l'.length = l.length ∨ l'.length ≥ off + cap → (∀ i, i < c.len → l'[off + i]? = l[off + i]?) → OW w' g.Z (a.eval x) c (g.fp n) fun _ => undef := fun l' r1 r2 r3 => by
        refine .inr ⟨b, off, cap, l', hv, r1, by omega, q3, q4, (cells_plain hpc).2 fun i hi => ?_⟩
        obtain ⟨u, hu, hs⟩ := (cells_plain hpc).1 q5 i hi
        exact ⟨u, by rw [r3 i hi]; exact hu, flat_SR hfl hpc hs⟩
      rcases hA.part with ⟨_, _, rfl⟩ | ⟨b', off', cap', l', _, r1, r2, _, _, r5⟩
      · exact hst l q1 (.inl rfl) fun _ _ => rfl
      · rcases r5 with ⟨_, _, hh, _⟩ | ⟨l0, hv0, hr0, hold, _, _⟩
        · exact hst l (by rw [row_same (hh b (hR.w.bk _ b (.own hown q4)).1)]; exact q1) (.inl rfl) fun _ _ => rfl
        · rw [hv] at hv0
          injection hv0 with hv0 hv1 hv2
          injection hv0 with hv0
          injection hv0 with hv0 hv3
          subst hv0 hv2 hv3
          rw [q1] at hr0
          injection hr0 with hr0
          subst hr0
          exact hst l' r1 (.inr r2) hold
  have hw1 := (hR0.w.move (w' := w') (only n) (g.fp n) hA.os hA.tape hA.output hA.size (fun b hb hf => hA.frame hb fun hv => hf (own_block hR hown hv)) fun b hb => ⟨_, .own hown0 hb, by simp [only]⟩).newOwn (n := m) (v := v') (c := e) (B := fun b => g.fp n b ∨ (w.heap.size ≤ b ∧ b < w'.heap.size)) (I := fun _ => undef) (by simp [Gh.drop, Gh.hide, evens_own]) (by
      cases he : (((g.drop fun k => k == m).hide (only n))).sus m with
      | none => rfl
      | some x => obtain ⟨v, c, j⟩ := x; have := (drop_sus.1 (hide_sus.1 he).2).1.1; simp at this) how fun b hb => by
    rcases hb with hb | hb
    · have hk := hR.w.bk _ b (.own hown hb)
      rw [two_half] at hk
      exact ⟨Nat.lt_of_lt_of_le hk.1 hA.size, hR0.w.freed (.own hown0 hb) (by simp [only]), hk.2.2.imp id fun q => ⟨q.1, hlow q.2⟩⟩
    · exact ⟨hb.2, (hR.w.free hb.1).hide.hide, .inl (by have := hR.w.size; omega)⟩
  have hw2 := hw1.setSus (n := n) (m := m) (v := a.eval x) (c := c) (vm := v') (cm := e) (by
      rw [setOwn_ne hne]
      cases he : ((g.drop fun k => k == m).hide (only n)).own n with
      | none => rfl
      | some x => exact absurd rfl (only_own.1 he).1) (fun b hb => by
        have hk := (hR.w.bk _ b (.own hown (own_block hR hown hb))).2.2
        rw [two_half] at hk
        exact hk.imp id fun q => q.2) setOwn_self ⟨hfl, hpc, hkeep.mono (Stay.refl _ _) (fun b hb => by rw [setOwn_fp]; exact .inl hb) (fun _ _ => rfl), fun b p1 p2 => by
      rcases hA.part with ⟨h0, rfl, _⟩ | ⟨b', off', cap', l', rfl, r1, r2, _, _, r5⟩
      · have hd0 : d.len = 0 := by rw [← n1, h0]; rfl
        rcases how0.hd with ⟨h, _⟩ | ⟨b1, off, cap, l, hv, _⟩
        · rw [h] at p1; cases p1
        · have : b1 = b := by rw [hv] at p1; simpa [Value.ownBlock] using p1
          subst this
          exact ⟨⟨off, cap, hv, by rw [e3, hd0]; exact hv⟩, by omega, hpe, fun i hi => by rw [e4, if_pos hi]⟩
      · have : b' = b := by simpa [Value.ownBlock] using p2
        subst this
        rcases r5 with ⟨hge, _⟩ | ⟨l0, hv0, _⟩
        · have := (hR.w.bk _ b' (.own hown (own_block hR hown p1))).1; omega
        · exact ⟨⟨off', cap', hv0, by rw [e3, n1]⟩, by omega, hpe, fun i hi => by rw [e4, if_pos hi]⟩⟩
  have hs1 := (hR0.s.fork (m := m) hown0).stay (w' := w') fun b hb => ⟨hb, hA.frame (hR.w.Zok b hb).1 fun hv => (hZ b hb).2 (own_block hR hown hv)⟩
  have hs2 := hs1.addOwn (n := m) (x := (v', e)) (B := fun b => g.fp n b ∨ (w.heap.size ≤ b ∧ b < w'.heap.size)) (I := fun _ => undef) (by
    show ((g.drop fun k => k == m).hide (only n)).own m = none
    simp [Gh.drop, Gh.hide, evens_own])
  have hR2 : R F ((((g.drop fun k => k == m).hide (only n)).setOwn m (v', e) (fun b => g.fp n b ∨ (w.heap.size ≤ b ∧ b < w'.heap.size)) (fun _ => undef)).setSus n (a.eval x, c, m)) ((st.drop fun k => k == m).fork n m c) a w' := ⟨hs2, hw2⟩
  have hself : VR ((((g.drop fun k => k == m).hide (only n)).setOwn m (v', e) (fun b => g.fp n b ∨ (w.heap.size ≤ b ∧ b < w'.heap.size)) (fun _ => undef)).setSus n (a.eval x, c, m)) w' (.u (.x (.own m e))) v' := by
    show (if m = m then _ else _) = _
    rw [if_pos rfl]
  refine hn _ _ _ (hR2.put hself o.dst) fun k hk hfr => ?_
  have h1 := (hfr.hide (q := evens fun k => k == m)).hide (q := only n)
  have h2 := h1.setOwn (x := (v', e)) (B := fun b => g.fp n b ∨ (w.heap.size ≤ b ∧ b < w'.heap.size)) (I := fun _ => undef) (show k ≠ m by simpa using hk)
  exact ⟨h2.own, h2.tab, by
    show (if k = n then _ else _) = none
    rw [if_neg (hfr.ne hown)]
    exact h2.sus⟩

/-! ### Rows of one's own are appended -/
/-- The rows of a slice, as values. -/
theorem Rows.vals {xs : List (List Int)} {l : List Value} {off b : Nat} {B : Nat → Prop} {I : Nat → Value} (h : Rows w xs (fun _ => False) l off b B I) : ∃ news : List Value, news.length = xs.length ∧ ∀ i, i < xs.length → news[i]? = some (I i) ∧ l[off + i]? = some (I i) := by
  refine ⟨(List.range xs.length).map I, by simp, fun i hi => ⟨by simp [hi], ?_⟩⟩
  obtain ⟨u, h1, h2⟩ := h.cell i _ (List.getElem?_eq_getElem hi)
  rw [h1, h2 fun h => h]
theorem OW1.one {v : Value} {ys : List Int} {B : Nat → Prop} (h : OW1 w v ys B) : v.oneCell' = true := by
  rcases h with ⟨rfl, _⟩ | ⟨_, _, _, _, rfl, _⟩ <;> rfl
/-- Slices of rows, one behind the other. -/
theorem App.rows {Z : Nat → Prop} {v v' : Value} {xs ys : List (List Int)} {news l1 : List Value} {w' : World} {Bn Bk : Nat → Prop} {In Ik : Nat → Value} {off1 b1 : Nat} (hA : App w v xs.length news v' w') (ho : OW w Z v (.orows xs) Bn In) (hk : Rows w ys (fun _ => False) l1 off1 b1 Bk Ik) (hn : news.length = ys.length) (hv : ∀ i, i < ys.length → news[i]? = some (Ik i))
    (hlt : ∀ b, Bn b ∨ Bk b → b < w.heap.size) (hdis : ∀ b, Bn b → Bk b → False) (hvb : ∀ b, v.ownBlock = some b → Bn b) :
    OW w' Z v' (.orows (xs ++ ys)) (fun b => (Bn b ∨ Bk b) ∨ (w.heap.size ≤ b ∧ b < w'.heap.size)) fun i => if i < xs.length then In i else Ik (i - xs.length) := by
  have rows : ∀ (l : List Value) (off b : Nat), ((w.heap.size ≤ b ∧ b < w'.heap.size) ∨ (v.ownBlock = some b)) → (∀ i, i < xs.length → ∃ u, l[off + i]? = some u ∧ u = In i) → (∀ i, i < ys.length → l[off + xs.length + i]? = some (Ik i)) → (∀ i x, xs[i]? = some x → OW1 w (In i) x fun b' => Bn b' ∧ v.ownBlock ≠ some b') → (∀ i j x y b', xs[i]? = some x → xs[j]? = some y → (In i).ownBlock = some b' → (In j).ownBlock = some b' → i = j) →
      Rows w' (xs ++ ys) (fun _ => False) l off b (fun b => (Bn b ∨ Bk b) ∨ (w.heap.size ≤ b ∧ b < w'.heap.size)) fun i => if i < xs.length then In i else Ik (i - xs.length) := by
    intro l off b hb h1 h2 h3 h4
    have split : ∀ i x, (xs ++ ys)[i]? = some x → (i < xs.length ∧ xs[i]? = some x) ∨ (¬ i < xs.length ∧ i - xs.length < ys.length ∧ ys[i - xs.length]? = some x) := fun i x hx => by
      rw [List.getElem?_append] at hx
      split at hx
      · rename_i h; exact .inl ⟨h, hx⟩
      · rename_i h; exact .inr ⟨h, (List.getElem?_eq_some_iff.1 hx).1, hx⟩
    have hbk : ∀ b', Bk b' → b' ≠ b := fun b' hk' e => by
      subst e
      rcases hb with hb | hb
      · have := hlt b' (.inr hk'); omega
      · exact hdis b' (hvb b' hb) hk'
    have hbn : ∀ b', Bn b' → v.ownBlock ≠ some b' → b' ≠ b := fun b' hn' hvn e => by
      subst e
      rcases hb with hb | hb
      · have := hlt b' (.inl hn'); omega
      · exact hvn hb
    refine ⟨fun i x hx => ?_, fun i x hx _ => ?_, fun i j x y b' hx hy _ _ p1 p2 => ?_⟩
    · rcases split i x hx with ⟨hi, hx⟩ | ⟨hi, hi2, hx⟩
      · obtain ⟨u, hu, e⟩ := h1 i hi
        exact ⟨u, hu, fun _ => by rw [if_pos hi]; exact e⟩
      · refine ⟨_, ?_, fun _ => by rw [if_neg hi]⟩
        rw [show off + i = off + xs.length + (i - xs.length) by omega]
        exact h2 _ hi2
    · rcases split i x hx with ⟨hi, hx⟩ | ⟨hi, hi2, hx⟩
      · rw [if_pos hi]
        exact (h3 i x hx).mono (fun b' _ q => ⟨.inl (.inl q.1), hbn b' q.1 q.2⟩) fun b' _ q => hA.frame (hlt b' (.inl q.1)) q.2
      · rw [if_neg hi]
        exact (hk.own _ x hx fun h => h).mono (fun b' _ q => ⟨.inl (.inr q.1), hbk b' q.1⟩) fun b' _ q => hA.frame (hlt b' (.inr q.1)) fun e => hdis b' (hvb b' e) q.1
    · rcases split i x hx with ⟨hi, hx⟩ | ⟨hi, hi2, hx⟩ <;> rcases split j y hy with ⟨hj, hy⟩ | ⟨hj, hj2, hy⟩
      · rw [if_pos hi] at p1
        rw [if_pos hj] at p2
        exact h4 i j x y b' hx hy p1 p2
      · rw [if_pos hi] at p1
        rw [if_neg hj] at p2
        exact (hdis b' ((h3 i x hx).block p1).1 (hk.inB hy (fun h => h) p2).1).elim
      · rw [if_neg hi] at p1
        rw [if_pos hj] at p2
        exact (hdis b' ((h3 j y hy).block p2).1 (hk.inB hx (fun h => h) p1).1).elim
      · rw [if_neg hi] at p1
        rw [if_neg hj] at p2
        have := hk.dis _ _ x y b' hx hy (fun h => h) (fun h => h) p1 p2
        omega
  rcases hA.part with ⟨h0, rfl, rfl⟩ | ⟨b, off, cap, l, rfl, h1, h2, h3, h4, h5⟩
  · subst h0
    have hys : ys = [] := List.eq_nil_of_length_eq_zero (by rw [← hn]; rfl)
    subst hys
    rw [List.append_nil]
    rcases ho with ho | ⟨b, off, cap, l, rfl, q1, q2, q3, q4, q5⟩
    · exact .inl ho
    · have q5 : Rows w' xs (fun _ => False) l off b Bn In := q5
      refine .inr ⟨b, off, cap, l, rfl, q1, q2, q3, .inl (.inl q4), ⟨fun i x hx => ?_, fun i x hx _ => ?_, fun i j x y b' hx hy _ _ p1 p2 => ?_⟩⟩
      · have hi := (List.getElem?_eq_some_iff.1 hx).1
        rw [if_pos hi]
        exact q5.cell i x hx
      · have hi := (List.getElem?_eq_some_iff.1 hx).1
        rw [if_pos hi]
        exact (q5.own i x hx fun h => h).mono (fun b' _ q => ⟨.inl (.inl q.1), q.2⟩) fun _ _ _ => rfl
      · rw [if_pos (List.getElem?_eq_some_iff.1 hx).1] at p1
        rw [if_pos (List.getElem?_eq_some_iff.1 hy).1] at p2
        exact q5.dis i j x y b' hx hy (fun h => h) (fun h => h) p1 p2
  · have hlen : (xs ++ ys).length = xs.length + news.length := by rw [List.length_append, hn]
    have hrest := fun hb h1' h3' h4' => rows l off b hb h1' (fun i hi => by rw [h4 i (by omega), hv i hi]) h3' h4'
    have fromOw : (∀ b0 off0 cap0 l0, v = .slice (some ⟨b0, off0, none⟩) xs.length cap0 → row w b0 = some l0 → ∀ i, i < xs.length → l[off + i]? = l0[off0 + i]?) → ((∀ i, i < xs.length → ∃ u, l[off + i]? = some u ∧ u = In i) ∧ (∀ i x, xs[i]? = some x → OW1 w (In i) x fun b' => Bn b' ∧ v.ownBlock ≠ some b') ∧ ∀ i j x y b', xs[i]? = some x → xs[j]? = some y → (In i).ownBlock = some b' → (In j).ownBlock = some b' → i = j) := fun hold => by
      rcases ho with ⟨_, h0⟩ | ⟨b0, off0, cap0, l0, hv0, q1, q2, q3, q4, q5⟩
      · have hx0 : xs = [] := List.eq_nil_of_length_eq_zero h0
        subst hx0
        exact ⟨fun i hi => absurd hi (by simp), fun i x hx => by simp at hx, fun i j x y b' hx => by simp at hx⟩
      · have q5 : Rows w xs (fun _ => False) l0 off0 b0 Bn In := q5
        refine ⟨fun i hi => ?_, fun i x hx => ?_, fun i j x y b' hx hy p1 p2 => q5.dis i j x y b' hx hy (fun h => h) (fun h => h) p1 p2⟩
        · obtain ⟨u, hu, hin⟩ := q5.cell i _ (List.getElem?_eq_getElem hi)
          exact ⟨u, by rw [hold b0 off0 cap0 l0 hv0 q1 i hi]; exact hu, hin fun h => h⟩
        · have hob : ∀ b', v.ownBlock = some b' → b' = b0 := fun b' e => by
            rw [hv0] at e
            have : b0 = b' := by simpa [Value.ownBlock] using e
            exact this.symm
          exact (q5.own i x hx fun h => h).mono (fun b' _ q => ⟨q.1, fun e => q.2 (hob b' e)⟩) fun _ _ _ => rfl
    rcases h5 with ⟨hge, hltb, hh, hold⟩ | ⟨l0, hv0, hr0, hold, hsz, hh⟩
    · obtain ⟨r1, r2, r3⟩ := fromOw hold
      exact .inr ⟨b, off, cap, l, by show _ = Value.slice _ (xs ++ ys).length _; rw [hlen], h1, h2, by show (xs ++ ys).length ≤ _; omega, .inr ⟨hge, hltb⟩, hrest (.inl ⟨hge, hltb⟩) r1 r2 r3⟩
    · obtain ⟨r1, r2, r3⟩ := fromOw fun b0 off0 cap0 l0' e1 e2 i hi => by
        rw [hv0] at e1
        injection e1 with e1
        injection e1 with e1
        injection e1 with e1 e3
        subst e1 e3
        rw [hr0] at e2
        injection e2 with e2
        subst e2
        exact hold i hi
      have hob : v.ownBlock = some b := by rw [hv0]; rfl
      exact .inr ⟨b, off, cap, l, by show _ = Value.slice _ (xs ++ ys).length _; rw [hlen], h1, h2, by show (xs ++ ys).length ≤ _; omega, .inl (.inl (hvb b hob)), hrest (.inr hob) r1 r2 r3⟩
/-- An append of rows of one's own: the run. -/
theorem append_runRows (hR : R F g st a w) {x y : Operand} {args : Array Operand} {tys : Array TypeId} {t : TypeId} {z : C} {ys : List (List Int)} {k n : Nat} (hT : TsOk P T) (ho : o.op = .call { callee := .builtin .append, args := args, argTypes := tys }) (ha : args.toList = [x, y]) (ht : tys.toList = [t, t]) (hz : (T t).u = .slice z)
    (hx : Hd w (a.eval x) n) (hy : ev st y = .u (.x (.own k (.orows ys)))) (hlen : n + ys.length ≤ 1099511627776) :
    ∃ news v' w' l1 off1 b1, news.length = ys.length ∧ (∀ i, i < ys.length → news[i]? = some (g.inn k i)) ∧ Rows w ys (fun _ => False) l1 off1 b1 (g.fp k) (g.inn k) ∧ App w (a.eval x) n news v' w' ∧ (execOp a.eval o).run P w = .ok (.value v') w' := by
  obtain ⟨el, ie, ze, d1, _, _, d2, d3, d4, d5, d6, _, d7⟩ := desc hT hz (by simp)
  have hown := ev_x hR hy
  rcases hR.w.own _ _ _ hown with ⟨e1, h0⟩ | ⟨b1, off1, cap1, l1, e1, q1, q2, q3, q4, q5⟩
  · have hys : ys = [] := List.eq_nil_of_length_eq_zero h0
    subst hys
    obtain ⟨v', w', hr, hA⟩ := append_cells (P := P) (w := w) (ty := o.type) (news := []) d1 d2 d3 d4 d5 d6 hx e1 (fun j q hq => by simp at hq) (fun q hq => by cases hq) (by simpa using hlen)
    exact ⟨[], v', w', [], 0, 0, rfl, fun i hi => absurd hi (by simp), ⟨fun i x hx => by simp at hx, fun i x hx => by simp at hx, fun i j x y b' hx => by simp at hx⟩, hA, run_appendOp ho ha ht rfl rfl hr⟩
  · have q5 : Rows w ys (fun _ => False) l1 off1 b1 (g.fp k) (g.inn k) := q5
    obtain ⟨news, n1, n2⟩ := q5.vals
    obtain ⟨v', w', hr, hA⟩ := append_cells (P := P) (w := w) (ty := o.type) (news := news) d1 d2 d3 d4 d5 d6 hx (e1.trans (by rw [n1]; rfl)) (fun j q hq => by
      have hj : j < ys.length := by have := (List.getElem?_eq_some_iff.1 hq).1; omega
      rw [(n2 j hj).1] at hq
      injection hq with hq
      exact ⟨_, rfl, by rw [add_none, row_cell q1, (n2 j hj).2, hq]⟩) (fun q hq => by
        obtain ⟨j, hj, rfl⟩ := List.mem_iff_getElem.1 hq
        have hj' : j < ys.length := by omega
        have := (n2 j hj').1
        rw [List.getElem?_eq_getElem hj] at this
        injection this with this
        rw [this]
        exact (q5.own j _ (List.getElem?_eq_getElem hj') fun h => h).one) (by rw [n1]; exact hlen)
    exact ⟨news, v', w', l1, off1, b1, n1, fun i hi => (n2 i hi).1, q5, hA, run_appendOp ho ha ht rfl rfl hr⟩
theorem s_appendRowsNil (hR : R F g st a w) {x y : Operand} {args : Array Operand} {tys : Array TypeId} {t : TypeId} {z c : C} {ys : List (List Int)} {k : Nat} (hT : TsOk P T) (ho : o.op = .call { callee := .builtin .append, args := args, argTypes := tys }) (ha : args.toList = [x, y]) (ht : tys.toList = [t, t]) (hz : (T t).u = .slice z)
    (hx : ev st x = .u (.x (.nil c))) (hy : ev st y = .u (.x (.own k (.orows ys)))) (hlow : isLow k = false) (hlen : ys.length ≤ 1099511627776)
    (hn : Nw F (fun m => m == nm site 0) g ((st.drop fun m => m == k || m == nm site 0).put o.dst (.u (.x (.own (nm site 0) (.orows ys))))) next) : o.wp P a w next Q := by
  obtain ⟨e1, e2⟩ := ev_x hR hx
  have hown := ev_x hR hy
  obtain ⟨news, v', w', l1, off1, b1, n1, n2, hrows, hA, hrun⟩ := append_runRows (P := P) (n := 0) hR hT ho ha ht hz (.inl ⟨e1, rfl⟩) hy (by omega)
  unfold Oper.wp
  rw [hrun]
  have how := hA.rows (Z := g.Z) (xs := []) (Bn := fun _ => False) (In := fun _ => undef) (.inl ⟨e1, rfl⟩) hrows n1 n2 (fun b hb => by
    rcases hb with hb | hb
    · exact hb.elim
    · exact (hR.w.bk _ b (.own hown hb)).1) (fun _ h _ => h) (fun b hb => by rw [e1] at hb; cases hb)
  rw [List.nil_append] at how
  have := hR.reown (n' := nm site 0) (p := fun m => m == k || m == nm site 0) hown (by simp) (by simp) (fun h => by rw [hlow] at h; cases h) hA.os hA.tape hA.output hA.size (fun b hb _ => hA.frame hb (by rw [e1]; simp [Value.ownBlock])) how (fun b hb => by
    rcases hb with (hb | hb) | hb
    · exact hb.elim
    · exact ⟨Nat.lt_of_lt_of_le (hR.w.bk _ b (.own hown hb)).1 hA.size, .inr ⟨k, _, hown, by simp, hb, fun h => by rw [hlow] at h; cases h⟩⟩
    · exact ⟨hb.2, .inl hb.1⟩)
  exact hn _ _ _ (this.put (v := .u (.x (.own _ _))) setOwn_self o.dst) fun m hm hfr => hfr.hide.setOwn (by simpa using hm)
theorem s_appendRows (hR : R F g st a w) {x y : Operand} {args : Array Operand} {tys : Array TypeId} {t : TypeId} {z : C} {xs ys : List (List Int)} {n k : Nat} (hT : TsOk P T) (ho : o.op = .call { callee := .builtin .append, args := args, argTypes := tys }) (ha : args.toList = [x, y]) (ht : tys.toList = [t, t]) (hz : (T t).u = .slice z)
    (hx : ev st x = .u (.x (.own n (.orows xs)))) (hy : ev st y = .u (.x (.own k (.orows ys)))) (hkn : k ≠ n) (hlow : isLow k = true → isLow n = true) (hlen : (xs ++ ys).length ≤ 1099511627776)
    (hn : Nw F (fun m => m == upName site n) g ((st.drop fun m => m == n || m == k || m == upName site n).put o.dst (.u (.x (.own (upName site n) (.orows (xs ++ ys)))))) next) : o.wp P a w next Q := by
  have hown := ev_x hR hx
  have hownk := ev_x hR hy
  have how0 := hR.w.own _ _ _ hown
  obtain ⟨news, v', w', l1, off1, b1, n1, n2, hrows, hA, hrun⟩ := append_runRows (P := P) hR hT ho ha ht hz how0.hd hy (by show xs.length + ys.length ≤ _; rw [List.length_append] at hlen; exact hlen)
  unfold Oper.wp
  rw [hrun]
  have how := hA.rows how0 hrows n1 n2 (fun b hb => by
    rcases hb with hb | hb
    · exact (hR.w.bk _ b (.own hown hb)).1
    · exact (hR.w.bk _ b (.own hownk hb)).1) (fun b h1 h2 => hkn (by have := hR.w.bkD _ _ b (.own hown h1) (.own hownk h2); omega)) (fun b hb => own_block hR hown hb)
  have := hR.reown (n' := upName site n) (p := fun m => m == n || m == k || m == upName site n) hown (by simp) (by simp) (isLow_high site) hA.os hA.tape hA.output hA.size (fun b hb hf => hA.frame hb fun hv => hf (own_block hR hown hv)) how (fun b hb => by
    rcases hb with (hb | hb) | hb
    · exact ⟨Nat.lt_of_lt_of_le (hR.w.bk _ b (.own hown hb)).1 hA.size, .inr ⟨n, _, hown, by simp, hb, isLow_high site⟩⟩
    · exact ⟨Nat.lt_of_lt_of_le (hR.w.bk _ b (.own hownk hb)).1 hA.size, .inr ⟨k, _, hownk, by simp, hb, fun h => isLow_high site (hlow h)⟩⟩
    · exact ⟨hb.2, .inl hb.1⟩)
  exact hn _ _ _ (this.put (v := .u (.x (.own _ _))) setOwn_self o.dst) fun m hm hfr => hfr.hide.setOwn (by simpa using hm)
end
end Go.BV

/-
  Literals of rows of one's own; a call that writes into a row.
-/
namespace Go.BV
/-- The names that an operation may give. -/
def Mine (site n : Nat) : Prop := ∃ j, j < 16 ∧ (n = nm site j ∨ n = nm site j + high)
structure Keeps (site : Nat) (g g' : Gh) (st st' : St) : Prop where
  fr : ∀ n, ¬ Mine site n → Fr g n → Fr g' n
  tb : ∀ n, ¬ Mine site n → st.tb n = none → st'.tb n = none
section
variable {P : Program} {T : TypeId → TI} {O : Env} {F : Fx} {g : Gh} {st : St} {a : Act} {w : World} {o : Oper} {site : Nat} {next : Act → World → Prop} {Q : Exit → Act → World → Prop}

theorem buildO_cons {xs0 : List (List Int)} {ns0 : List Nat} {i : Nat} {pv : V} {ps : List (Nat × V)} {r : List (List Int) × List Nat} (h : buildO xs0 ns0 ((i, pv) :: ps) = some r) : ∃ m ys, pv = .u (.x (.own m (.ints .i64 ys))) ∧ i = xs0.length ∧ ns0.contains m = false ∧ isLow m = false ∧ buildO (xs0 ++ [ys]) (ns0 ++ [m]) ps = some r := by
  cases pv with
  | tup => simp [buildO] at h
  | u u => cases u with
    | agg => simp [buildO] at h
    | x x =>
      cases x <;> try (simp [buildO] at h; done)
      rename_i m c
      cases c <;> try (simp [buildO] at h; done)
      rename_i k ys
      cases k <;> try (simp [buildO] at h; done)
      replace h : (bif i == xs0.length && !(ns0.contains m) && !isLow m then buildO (xs0 ++ [ys]) (ns0 ++ [m]) ps else none) = some r := h
      cases hb : (i == xs0.length && !(ns0.contains m) && !isLow m)
      · rw [hb] at h; cases h
      · rw [hb] at h
        simp only [Bool.and_eq_true, Bool.not_eq_true', beq_iff_eq] at hb
        exact ⟨m, ys, rfl, hb.1.1, hb.1.2, hb.2, h⟩
theorem buildO_le : ∀ {ps : List (Nat × V)} {xs0 xs : List (List Int)} {ns0 ns : List Nat}, buildO xs0 ns0 ps = some (xs, ns) → xs0.length ≤ xs.length
  | [], xs0, xs, ns0, ns, h => by simp only [buildO] at h; injection h with h; injection h with h _; subst h; exact Nat.le_refl _
  | (i, pv) :: ps, xs0, xs, ns0, ns, h => by
    obtain ⟨m, ys, _, _, _, _, h⟩ := buildO_cons h
    have := buildO_le h
    simp at this
    omega
theorem buildO_ok (hR : R F g st a w) : ∀ (ps : List (Nat × V)) (vs : List (Nat × Value)) (xs0 xs : List (List Int)) (ns0 ns : List Nat) (cells : Array Value), ps.map (·.1) = vs.map (·.1) → (∀ (k : Nat) v u, (ps.map (·.2))[k]? = some v → (vs.map (·.2))[k]? = some u → VR g w v u) → buildO xs0 ns0 ps = some (xs, ns) →
    xs0.length = ns0.length → ns0.Nodup → xs.length ≤ cells.size → (∀ i, i < xs0.length → ∃ m ys v, ns0[i]? = some m ∧ xs0[i]? = some ys ∧ cells[i]? = some v ∧ g.own m = some (v, .ints .i64 ys) ∧ isLow m = false) →
    ∃ cells', Instr.fill (fun i => some (i * 1, 1)) cells vs = some cells' ∧ cells'.size = cells.size ∧ xs.length = ns.length ∧ ns.Nodup ∧ ∀ i, i < xs.length → ∃ m ys v, ns[i]? = some m ∧ xs[i]? = some ys ∧ cells'[i]? = some v ∧ g.own m = some (v, .ints .i64 ys) ∧ isLow m = false
  | [], [], xs0, xs, ns0, ns, cells, _, _, h, h1, h2, h3, h4 => by
    simp only [buildO] at h
    injection h with h
    injection h with e1 e2
    subst e1 e2
    exact ⟨cells, rfl, rfl, h1, h2, h4⟩
  | [], _ :: _, _, _, _, _, _, he, _, _, _, _, _, _ => by simp at he
  | _ :: _, [], _, _, _, _, _, he, _, _, _, _, _, _ => by simp at he
  | (i, pv) :: ps, (j, v) :: vs, xs0, xs, ns0, ns, cells, he, hv, h, h1, h2, h3, h4 => by
    simp only [List.map_cons] at he
    injection he with e1 e2
    subst e1
    have hvr := hv 0 pv v rfl rfl
    obtain ⟨m, ys, rfl, rfl, hb2, hb3, h⟩ := buildO_cons h
    have hown : g.own m = some (v, .ints .i64 ys) := hvr
    have hone := (hR.w.own m _ _ hown).one.2
    have hlt : xs0.length < cells.size := by
      have := buildO_le h
      simp at this
      omega
    obtain ⟨cells1, q1, q2⟩ := fill_step (place := fun i => some (i * 1, 1)) (cells := cells) (i := xs0.length) (v := v) (rest := vs) rfl (by rw [hone]; rfl) (by omega)
    have hset' : cells1.toList = cells.toList.set xs0.length v := by
      rw [q1, hone, List.set_eq_take_append_cons_drop, if_pos (by simp; omega)]
      simp
    have hsz : cells1.size = cells.size := by
      have := congrArg List.length hset'
      simpa using this
    have hget : ∀ k, cells1[k]? = if k = xs0.length then some v else cells[k]? := fun k => by
      rw [← Array.getElem?_toList, hset', List.getElem?_set]
      by_cases e : xs0.length = k
      · rw [if_pos e, if_pos e.symm, if_pos (by simp; omega)]
      · rw [if_neg e, if_neg (Ne.symm e)]; simp
    rw [q2]
    obtain ⟨cells', r1, r2, r3, r4, r5⟩ := buildO_ok hR ps vs (xs0 ++ [ys]) xs (ns0 ++ [m]) ns cells1 e2 (fun k v' u' h3 h4 => hv (k + 1) v' u' (by simpa using h3) (by simpa using h4)) h (by simp [h1]) (by
      rw [List.nodup_append]
      refine ⟨h2, by simp, fun x hx y hy e => ?_⟩
      simp at hy
      subst hy e
      have : ns0.contains x = true := by simpa using hx
      rw [hb2] at this
      cases this) (by omega) (fun k hk => by
      simp only [List.length_append, List.length_singleton] at hk
      by_cases e : k = xs0.length
      · subst e
        exact ⟨m, ys, v, by rw [h1, List.getElem?_append_right (Nat.le_refl _)]; simp, by rw [List.getElem?_append_right (Nat.le_refl _)]; simp, by rw [hget, if_pos rfl], hown, hb3⟩
      · obtain ⟨m', ys', v', p1, p2, p3, p4⟩ := h4 k (by omega)
        exact ⟨m', ys', v', by rw [List.getElem?_append_left (by omega)]; exact p1, by rw [List.getElem?_append_left (by omega)]; exact p2, by rw [hget, if_neg e]; exact p3, p4⟩)
    exact ⟨cells', r1, by omega, r3, r4, r5⟩
theorem s_buildO (hR : R F g st a w) {t : TypeId} {n : Nat} {ps : Array (Nat × Operand)} {c : C} {xs : List (List Int)} {ns : List Nat} (hT : TsOk P T) (ho : o.op = .buildSlice t n ps) (ht : (T t).u = .slice c) (h24 : Nat.ble n 4096 = true) (hnx : n = xs.length) (hne : ns ≠ [])
    (hb : buildO [] [] (ps.toList.map fun (i, x) => (i, ev st x)) = some (xs, ns)) (hn : Nw F (fun m => m == nm site 0) g ((st.drop fun m => ns.contains m || m == nm site 0).put o.dst (.u (.x (.own (nm site 0) (.orows xs))))) next) : o.wp P a w next Q := by
  obtain ⟨el, ie, ze, d1, _, _, d2, d3, d4, d5, d6, dz, d7⟩ := desc hT ht (by simp)
  have hn4 : n ≤ 4096 := Nat.le_of_ble_eq_true h24
  obtain ⟨cells, h1, h2, h3, h4, h5⟩ := buildO_ok hR (ps.toList.map fun (i, x) => (i, ev st x)) (ps.toList.map fun (i, x) => (i, a.eval x)) [] xs [] ns ((Array.range n).map fun _ => ze) (by simp) (fun k v u h10 h11 => by
    simp only [List.map_map, List.getElem?_map, Option.map_eq_some_iff] at h10 h11
    obtain ⟨p, hp, rfl⟩ := h10
    obtain ⟨q, hq, rfl⟩ := h11
    rw [hp] at hq
    injection hq with hq
    subst hq
    exact ev_ok hR.s _) hb rfl List.nodup_nil (by simp [hnx]) (fun i hi => absurd hi (by simp))
  have hsz : cells.size = n := by simpa using h2
  have hrun := run_buildSlice (P := P) hR ho d1 d2 d3 d5 d6 hn4 h1
  unfold Oper.wp
  rw [hrun]
  obtain ⟨m0, ms, rfl⟩ : ∃ m0 ms, ns = m0 :: ms := by cases ns with
    | nil => exact absurd rfl hne
    | cons m0 ms => exact ⟨m0, ms, rfl⟩
  have hpos : 0 < xs.length := by rw [h3]; simp
  have hm0 : ∃ x, g.own m0 = some x ∧ isLow m0 = false := by
    obtain ⟨m, ys, v, p1, p2, p3, p4, p5⟩ := h5 0 hpos
    simp at p1
    subst p1
    exact ⟨_, p4, p5⟩
  obtain ⟨⟨v0, c0⟩, hm0, hlow0⟩ := hm0
  have hin : ∀ m, m ∈ (m0 :: ms) → ∃ v ys, g.own m = some (v, .ints .i64 ys) ∧ isLow m = false := fun m hm => by
    obtain ⟨i, hi, rfl⟩ := List.mem_iff_getElem.1 hm
    obtain ⟨m, ys, v, p1, p2, p3, p4, p5⟩ := h5 i (by omega)
    rw [List.getElem?_eq_getElem hi] at p1
    injection p1 with p1
    rw [p1]
    exact ⟨v, ys, p4, p5⟩
  have hwn : ∀ b, b < w.heap.size → (w.alloc (.cells cells el)).heap[b]? = w.heap[b]? := fun b hb => heap_alloc_lt hb
  have hrows : Rows (w.alloc (.cells cells el)) xs (fun _ => False) cells.toList 0 w.heap.size (fun b => (∃ m, m ∈ (m0 :: ms) ∧ (∃ x, g.own m = some x) ∧ g.fp m b) ∨ b = w.heap.size) (fun i => cells.getD i undef) := by
    have val : ∀ i m v, (m0 :: ms)[i]? = some m → cells[i]? = some v → cells.getD i undef = v := fun i m v _ h => by rw [Array.getD_eq_getD_getElem?, h]; rfl
    refine ⟨fun i x hx => ?_, fun i x hx _ => ?_, fun i j x y b' hx hy _ _ q1 q2 => ?_⟩
    · obtain ⟨m, ys, v, p1, p2, p3, p4, p5⟩ := h5 i (List.getElem?_eq_some_iff.1 hx).1
      exact ⟨v, by rw [Nat.zero_add, Array.getElem?_toList]; exact p3, fun _ => (val i m v p1 p3).symm⟩
    · obtain ⟨m, ys, v, p1, p2, p3, p4, p5⟩ := h5 i (List.getElem?_eq_some_iff.1 hx).1
      rw [hx] at p2
      injection p2 with p2
      subst p2
      rw [val i m v p1 p3]
      have hmm : m ∈ (m0 :: ms) := List.mem_of_getElem? p1
      refine (hR.w.own m _ _ p4).row (fun b _ hf => ⟨.inl ⟨m, hmm, ⟨_, p4⟩, hf⟩, fun e => ?_⟩) fun b hf => hwn b (hR.w.bk _ b (.own p4 hf)).1
      have := (hR.w.bk _ b (.own p4 hf)).1
      omega
    · obtain ⟨m, ys, v, p1, p2, p3, p4, p5⟩ := h5 i (List.getElem?_eq_some_iff.1 hx).1
      obtain ⟨m', ys', v', p1', p2', p3', p4', p5'⟩ := h5 j (List.getElem?_eq_some_iff.1 hy).1
      rw [val i m v p1 p3] at q1
      rw [val j m' v' p1' p3'] at q2
      have := hR.w.bkD _ _ b' (.own p4 (own_block hR p4 q1)) (.own p4' (own_block hR p4' q2))
      obtain rfl : m = m' := by omega
      exact (List.getElem?_inj (List.getElem?_eq_some_iff.1 p1).1 h4).1 (p1.trans p1'.symm)
  have := hR.reown (n' := nm site 0) (p := fun m => (m0 :: ms).contains m || m == nm site 0) (v' := .slice (some ⟨w.heap.size, 0, none⟩) n n) (c' := .orows xs) (w' := w.alloc (.cells cells el)) hm0 (by simp) (by simp) (fun h => by rw [hlow0] at h; cases h) rfl rfl rfl (by simp) (fun b hb _ => hwn b hb)
    (.inr ⟨w.heap.size, 0, n, cells.toList, by show _ = Value.slice _ xs.length _; rw [hnx], row_alloc, by simp [hsz], by show xs.length ≤ n; omega, .inr rfl, hrows⟩) (fun b hb => by
    rcases hb with ⟨m, hmm, ⟨x, hx⟩, hf⟩ | rfl
    · obtain ⟨_, _, _, hl⟩ := hin m hmm
      exact ⟨Nat.lt_of_lt_of_le (hR.w.bk _ b (.own hx hf)).1 (by simp), .inr ⟨m, x, hx, by simp at hmm; simp [hmm], hf, fun h => by rw [hl] at h; cases h⟩⟩
    · exact ⟨by simp, .inl (Nat.le_refl _)⟩)
  exact hn _ _ _ (this.put (v := .u (.x (.own _ _))) setOwn_self o.dst) fun m hm hfr => hfr.hide.setOwn (by simpa using hm)

/-! ### Results -/
theorem res_fin {g1 : Gh} {st1 : St} {w' : World} {out : Out} {rs : List Value} {us : List U} {BR : Nat → Prop} (hR1 : R F g1 st1 a w') (hmut : MutDs w' g1.Z out.res rs BR) (hBR : ∀ b, BR b → b < w'.heap.size ∧ F.w0.heap.size ≤ b ∧ Free g1 b) (hfr : ∀ j, 8 ≤ j → j < 16 → Fr g1 (nm site j)) (hus : nameDs (fun j => nm site (8 + j)) 0 out.res = some us) :
    ∃ g', R F g' st1 a w' ∧ UsR g' w' us rs ∧ ∀ n, (∀ j, j < 16 → n ≠ nm site j) → Fr g1 n → Fr g' n := by
  obtain ⟨g', h1, h2, h3⟩ := nameDs_ok hR1 hmut (nms := fun j => nm site (8 + j)) (j := 0) ⟨fun i _ hi => ⟨(hfr (8 + i) (by omega) (by omega)).own, (hfr (8 + i) (by omega) (by omega)).sus, rfl⟩, fun i i' _ _ h => by unfold nm at h; omega, fun b hb => ⟨(hBR b hb).1, (hBR b hb).2.2.hide, fun i _ => .inl (hBR b hb).2.1⟩⟩ hus
  refine ⟨g', h1, h3, fun n hne hf => ⟨?_, by rw [h2.tab]; exact hf.tab, by rw [h2.sus]; exact hf.sus⟩⟩
  rw [(h2.new n fun i _ hi => hne (8 + i) (by omega)).1]
  exact hf.own

/-! ### A call that writes into a row -/
theorem part_nil : ∀ {md : List Md} {vs : List V}, md.length = vs.length → part false md vs = [] → md.all Md.isVal = true
  | [], [], _, _ => rfl
  | m :: md, v :: vs, hl, h => by
    unfold part at h
    cases m <;> first | (simp [Md.isVal] at h; done) | skip
    simp only [List.all_cons, Md.isVal, Bool.true_and]
    exact part_nil (by simpa using hl) (by simpa [Md.isVal] using h)
  | [], _ :: _, hl, _ => by simp at hl
  | _ :: _, [], hl, _ => by simp at hl
theorem part_all : ∀ {md : List Md} {vs : List V}, md.length = vs.length → md.all Md.isVal = true → part true md vs = vs
  | [], [], _, _ => rfl
  | m :: md, v :: vs, hl, h => by
    simp only [List.all_cons, Bool.and_eq_true] at h
    simp only [part, h.1, beq_self_eq_true, cond_true]
    rw [part_all (by simpa using hl) h.2]
  | [], _ :: _, hl, _ => by simp at hl
  | _ :: _, [], hl, _ => by simp at hl
theorem toDUs_len {tb : Nat → Option (List X)} {pos : Nat → Option Nat} : ∀ {md : List Md} {vs : List V} {ds : List DU}, toDUs tb pos md vs = some ds → md.length = vs.length ∧ ds.length = vs.length
  | [], [], ds, h => by simp only [toDUs] at h; injection h with h; subst h; exact ⟨rfl, rfl⟩
  | m :: md, .u u :: vs, ds, h => by
    simp only [toDUs] at h
    split at h
    · split at h
      · rename_i ds' hds
        injection h with h
        subst h
        have := toDUs_len hds
        simp [this]
      · cases h
    · cases h
  | _ :: _, .tup _ :: _, _, h => by simp [toDUs] at h
  | [], _ :: _, _, h => by simp [toDUs] at h
  | _ :: _, [], _, h => by simp [toDUs] at h
/-- The values of a call that writes into one row. -/
theorem args_bw (hS : SG F g w st a) (hw : WG F g w) {Z' : Nat → Prop} (hz : ∀ b, g.Z b → Z' b) {pos env : Nat → Option Nat} (he : ∀ n p, pos n = some p → ∀ b vs, g.tab n = some (b, vs) → env p = some b) {n i : Nat} {c : C} {B : Nat → Prop} (hB : ∀ v, XR g w (.bw n c i) v → c.whole = true ∧ ∃ I, OW w Z' v c B I) :
    ∀ {md : List Md} {xs : List V} {ds : List DU} {vs : List Value}, md.all Md.isVW = true → xs.length = vs.length → (∀ (i : Nat) x v, xs[i]? = some x → vs[i]? = some v → VR g w x v) →
    (∀ n ∈ vToks st.tb (part true md xs), Sees g Z' n) → (∀ n o, V.u (.x (.ptr n o)) ∈ xs → ∀ b l, g.tab n = some (b, l) → Z' b) → part false md xs = [.u (.x (.bw n c i))] → toDUs st.tb pos md xs = some ds → ArgsR w Z' env md ds vs B
  | [], [], ds, [], _, _, _, _, _, hp, h => by cases hp
  | m :: md, x :: xs, ds, v :: vs, hm, h2, hx, ht, hpp, hp, h => by
    simp only [List.all_cons, Bool.and_eq_true] at hm
    cases x with
    | tup us => simp [toDUs] at h
    | u u =>
      simp only [toDUs] at h
      split at h
      · rename_i d hd
        split at h
        · rename_i ds' hds
          injection h with h
          subst h
          have hx' : ∀ (i : Nat) y z, xs[i]? = some y → vs[i]? = some z → VR g w y z := fun i y z hy hz' => hx (i + 1) y z (by simpa using hy) (by simpa using hz')
          cases m with
          | val =>
            simp only [part, Md.isVal, beq_self_eq_true, cond_true, vToks] at ht
            refine ⟨toDU_read hS hw hz he (fun n hn => ht n (List.mem_append_left _ hn)) (fun n o e => hpp n o (by rw [e]; exact List.mem_cons_self ..)) (hx 0 (.u u) v rfl rfl) hd, args_bw hS hw hz he hB hm.2 (by simpa using h2) hx' (fun n hn => ht n (List.mem_append_right _ hn)) (fun n o h => hpp n o (List.mem_cons_of_mem _ h)) (by simpa [part, Md.isVal] using hp) hds⟩
          | wr =>
            have hp' : .u u :: part false md xs = [.u (.x (.bw n c i))] := by simpa [part, Md.isVal] using hp
            injection hp' with e1 e2
            injection e1 with e1
            subst e1
            simp only [toDU, X.toM] at hd
            injection hd with hd
            subst hd
            have hv := part_nil (toDUs_len hds).1 e2
            have ht' : ∀ n ∈ vToks st.tb xs, Sees g Z' n := fun n hn => ht n (by
              show n ∈ vToks st.tb (part true md xs)
              rw [part_all (toDUs_len hds).1 hv]
              exact hn)
            exact ⟨B, fun _ => False, ⟨fun b => by simp, fun _ _ h => h⟩, trivial, hB v (hx 0 (.u (.x (.bw n c i))) v rfl rfl), vals_read hS hw hz he hv (by simpa using h2) hx' ht' (fun n o h => hpp n o (List.mem_cons_of_mem _ h)) hds⟩
          | ext => simp [Md.isVW] at hm
          | ref => simp [Md.isVW] at hm
        · cases h
      · cases h
  | [], _ :: _, _, _, _, _, _, _, _, hp, _ => by cases hp
  | _ :: _, [], _, _, _, _, _, _, _, hp, _ => by cases hp
  | [], [], _, _ :: _, _, _, _, _, _, hp, _ => by cases hp
  | _ :: _, _ :: _, _, [], _, h2, _, _, _, _, _ => by simp at h2
end
end Go.BV

/-
  All that a call hands over; a call that writes into a row.
-/
namespace Go.BV
section
variable {P : Program} {T : TypeId → TI} {O : Env} {F : Fx} {g : Gh} {st : St} {a : Act} {w : World} {o : Oper} {site : Nat} {next : Act → World → Prop} {Q : Exit → Act → World → Prop}

theorem ptrsOf_mem {n : Nat} : ∀ {vs : List V}, ptrV n ∈ vs → n ∈ ptrsOf vs
  | [], h => by cases h
  | v :: vs, h => by
    have tl : n ∈ ptrsOf vs → n ∈ ptrsOf (v :: vs) := fun q => by
      cases v with
      | tup => exact q
      | u u => cases u with
        | agg => exact q
        | x x => cases x with
          | ptr m o => cases o with
            | zero => exact List.mem_cons_of_mem _ q
            | succ => exact q
          | _ => exact q
    rcases List.mem_cons.1 h with h | h
    · rw [← h]; exact List.mem_cons_self ..
    · exact tl (ptrsOf_mem h)
/-- Variables as values. -/
theorem vars_vals (ns : List Nat) (h : ∀ n ∈ ns, ∃ b vs, g.tab n = some (b, vs)) : ∃ us : List Value, us.length = ns.length ∧ ∀ (i : Nat) x u, (ns.map ptrV)[i]? = some x → us[i]? = some u → VR g w x u := by
  induction ns with
  | nil => exact ⟨[], rfl, fun i x u h => by simp at h⟩
  | cons n ns ih =>
    obtain ⟨us, h1, h2⟩ := ih fun m hm => h m (List.mem_cons_of_mem _ hm)
    obtain ⟨b, vs, hb⟩ := h n (List.mem_cons_self ..)
    refine ⟨.pointer (some ⟨b, 0, none⟩) :: us, by simp [h1], fun i x u hx hu => ?_⟩
    cases i with
    | zero =>
      simp at hx hu
      subst hx hu
      exact ⟨b, vs, hb, rfl⟩
    | succ i => exact h2 i x u (by simpa using hx) (by simpa using hu)
theorem caps_vals {caps bs : List Nat} (h : capsR g caps bs) : caps.length = bs.length ∧ ∀ (i : Nat) x u, (caps.map ptrV)[i]? = some x → (bs.map fun b => Value.pointer (some ⟨b, 0, none⟩))[i]? = some u → VR g w x u := by
  obtain ⟨vss, h1, h2⟩ := h
  induction caps generalizing bs vss with
  | nil => cases bs with
    | nil => exact ⟨rfl, fun i x u h => by simp at h⟩
    | cons b bs => cases vss with
      | nil => simp at h2
      | cons => simp at h1
  | cons n caps ih => cases bs with
    | nil => simp at h1
    | cons b bs => cases vss with
      | nil => simp at h2
      | cons vs vss =>
        simp only [List.map_cons, List.zip_cons_cons] at h1
        injection h1 with h1 h1'
        obtain ⟨h3, h4⟩ := ih vss h1' (by simpa using h2)
        refine ⟨by simp [h3], fun i x u hx hu => ?_⟩
        cases i with
        | zero =>
          simp at hx hu
          subst hx hu
          exact ⟨b, vs, h1, rfl⟩
        | succ i => exact h4 i x u (by simpa using hx) (by simpa using hu)
/-- What a call hands over, as values. -/
theorem handed_vals (hR : R F g st a w) {f : Operand} {args : Array Operand} {k : FuncId} {fs : List (Bool × List S0)} {caps : List Nat} (he : ev st f = .u (.x (.fn k fs caps))) (hp : (ptrsOf (handed st.tb fs (args.toList.map (ev st)) caps)).all (fun n => (st.tb n).isSome) = true) :
    ∃ (fvs : List Value) (bs : List Nat) (us : List Value), a.eval f = .func (.func k) fvs.toArray (bs.map fun b => Value.pointer (some ⟨b, 0, none⟩)).toArray ∧ us.length = (handed st.tb fs (args.toList.map (ev st)) caps).length ∧ (∀ (i : Nat) x u, (handed st.tb fs (args.toList.map (ev st)) caps)[i]? = some x → us[i]? = some u → VR g w x u) ∧
      us.take (fs.length + args.size + caps.length) = fvs ++ args.toList.map a.eval ++ bs.map fun b => Value.pointer (some ⟨b, 0, none⟩) := by
  obtain ⟨bs, fvs, hcb, hfr, hev⟩ := ev_x hR he
  obtain ⟨h1, h2⟩ := firstV_ok (w := w) hfr
  obtain ⟨h3, h4⟩ := caps_vals (w := w) hcb
  have hl : ∀ n ∈ hidden st.tb (fs.map firstV ++ args.toList.map (ev st) ++ caps.map ptrV), ∃ b vs, g.tab n = some (b, vs) := fun n hn => by
    have hm : n ∈ ptrsOf (handed st.tb fs (args.toList.map (ev st)) caps) := ptrsOf_mem (List.mem_append_right _ (List.mem_map.2 ⟨n, hn, rfl⟩))
    have := List.all_eq_true.1 hp n hm
    obtain ⟨cs, hcs⟩ := Option.isSome_iff_exists.1 this
    exact hR.s.tbs n cs hcs
  obtain ⟨hvs, h5, h6⟩ := vars_vals (w := w) _ hl
  refine ⟨fvs, bs, fvs ++ args.toList.map a.eval ++ (bs.map fun b => Value.pointer (some ⟨b, 0, none⟩)) ++ hvs, hev, ?_, ?_, ?_⟩
  · unfold handed
    simp [h1, h3, h5]
  · intro i x u hx hu
    unfold handed at hx
    exact getElem?_two (by simp [h1, h3]) (getElem?_two (by simp [h1]) (getElem?_two (by simp [h1]) h2 (evs_ok hR.s)) h4) h6 i x u hx hu
  · rw [List.take_append_of_le_length (by simp [h1, h3]; omega), List.take_of_length_le (by simp [h1, h3]; omega)]

/-- What was written, where one value alone is written to. -/
theorem upd_one {w' : World} {Z : Nat → Prop} {env : Nat → Option Nat} {n i : Nat} {c : C} {u : DU} : ∀ {md : List Md} {xs : List V} {ds : List DU} {vs : List Value} {BU : Nat → Prop}, md.all Md.isVW = true → xs.length = vs.length → (∀ (i : Nat) x v, xs[i]? = some x → vs[i]? = some v → VR g w x v) → part false md xs = [.u (.x (.bw n c i))] → UpdR w' Z env md ds [u] vs BU →
    ∃ v B1, XR g w (.bw n c i) v ∧ (∀ b, B1 b → BU b) ∧ MutD w' Z env u v B1
  | [], [], _, _, _, _, _, _, hp, _ => by cases hp
  | m :: md, x :: xs, ds, v :: vs, BU, hm, hl, hx, hp, h => by
    simp only [List.all_cons, Bool.and_eq_true] at hm
    cases m with
    | val =>
      cases ds with
      | nil => exact h.elim
      | cons d ds => exact upd_one hm.2 (by simpa using hl) (fun i y z hy hz => hx (i + 1) y z (by simpa using hy) (by simpa using hz)) (by simpa [part, Md.isVal] using hp) h
    | wr =>
      cases ds with
      | nil => exact h.elim
      | cons d ds =>
        obtain ⟨B1, B2, h1, _, h2, _⟩ := h
        have hp' : x :: part false md xs = [.u (.x (.bw n c i))] := by simpa [part, Md.isVal] using hp
        injection hp' with e1 e2
        exact ⟨v, B1, by have := hx 0 x v rfl rfl; rw [e1] at this; exact this, fun b hb => (h1.all b).2 (.inl hb), h2⟩
    | ext => simp [Md.isVW] at hm
    | ref => simp [Md.isVW] at hm
  | [], _ :: _, _, _, _, _, _, _, hp, _ => by cases hp
  | _ :: _, [], _, _, _, _, _, _, hp, _ => by cases hp
  | _ :: _, _ :: _, _, [], _, _, hl, _, _, _ => by simp at hl
theorem s_callB {ρ : Type} {K : St → Option ρ} {r : ρ} (hR : R F g st a w) {f : Operand} {args : Array Operand} {tys : Array TypeId} {k n i : Nat} {c : C} {fs : List (Bool × List S0)} {caps : List Nat} {ora : Ora} (hO : OOk P O) (hf : Fresh site g st) (ho : o.op = .call { callee := .value f, args := args, argTypes := tys })
    (he : ev st f = .u (.x (.fn k fs caps))) (hk : O.fn k = some ora) (hpt : part false ora.md (handed st.tb fs (args.toList.map (ev st)) caps) = [.u (.x (.bw n c i))])
    (h : callB ora site o.dst (fs.length + args.size + caps.length) (handed st.tb fs (args.toList.map (ev st)) caps) n i st K = some r)
    (hn : ∀ st' g' a' w', K st' = some r → R F g' st' a' w' → Keeps site g g' st st' → next a' w') : o.wp P a w next Q := by
  obtain ⟨spec, hm, hsp⟩ := hO.meets k ora hk
  obtain ⟨fn, hfn, hb, hnm⟩ := hO.fn k ora hk
  unfold callB at h
  cases hc : (ora.na == fs.length + args.size + caps.length && (ptrsOf (handed st.tb fs (args.toList.map (ev st)) caps)).isEmpty && ora.md.all Md.isVW && disjB [n] (vToks st.tb (part true ora.md (handed st.tb fs (args.toList.map (ev st)) caps))) && !ora.weak)
  · rw [hc] at h; cases h
  rw [hc] at h
  simp only [cond_true] at h
  simp only [Bool.and_eq_true] at hc
  obtain ⟨⟨⟨⟨c1, c2⟩, c3⟩, c4⟩, _⟩ := hc
  split at h
  case h_2 => cases h
  rename_i ds hds
  obtain ⟨out, hG, h⟩ := G_some (hO.nat k ora hk) h
  split at h
  case h_2 => cases h
  rename_i ys hup
  cases hfl : out.res.all DU.flat
  · rw [hfl] at h; cases h
  rw [hfl] at h
  simp only [cond_true] at h
  split at h
  case h_2 => cases h
  rename_i us hus
  obtain ⟨fvs, bs, vals, hev, hlen, hvr, htake⟩ := handed_vals hR he (by
    have : ptrsOf (handed st.tb fs (args.toList.map (ev st)) caps) = [] := by simpa using c2
    rw [this]; rfl)
  generalize handed st.tb fs (args.toList.map (ev st)) caps = vs at *
  unfold Oper.wp
  rw [run_callFn ho hev hfn hb hnm]
  simp only [Oper.upon_enter]
  -- the row
  obtain ⟨j, hj⟩ : ∃ j, vs[j]? = some (V.u (.x (.bw n c i))) := by
    have key : ∀ (md : List Md) (l : List V), (V.u (.x (.bw n c i))) ∈ part false md l → (V.u (.x (.bw n c i))) ∈ l := by
      intro md
      induction md with
      | nil => intro l hl; cases l <;> cases hl
      | cons m md ih =>
        intro l hl
        cases l with
        | nil => cases hl
        | cons x l =>
          unfold part at hl
          cases hb : (m.isVal == false)
          · rw [hb] at hl; exact List.mem_cons_of_mem _ (ih l hl)
          · rw [hb] at hl
            rcases List.mem_cons.1 hl with e | hl
            · rw [e]; exact List.mem_cons_self ..
            · exact List.mem_cons_of_mem _ (ih l hl)
    obtain ⟨j, hj, e⟩ := List.mem_iff_getElem.1 (key ora.md vs (by rw [hpt]; exact List.mem_cons_self ..))
    exact ⟨j, by rw [List.getElem?_eq_getElem hj, e]⟩
  have hjl := (List.getElem?_eq_some_iff.1 hj).1
  obtain ⟨vn, xs, zs, p1, p2, p3, p4⟩ := hvr j _ _ hj (List.getElem?_eq_getElem (by omega : j < vals.length))
  obtain ⟨b0, off0, cap0, l0, rfl, q1, q2, q3, q4, q5⟩ := row_at hR p1 p2
  have hrow := q5.own i zs p2 fun h => h
  have hBf : ∀ b, (g.inn n i).ownBlock = some b → g.fp n b ∧ b ≠ b0 := fun b hb => hrow.block hb
  have hargs := args_bw hR.s hR.w (Z' := fun b => b < w.heap.size ∧ (g.inn n i).ownBlock ≠ some b) (B := fun b => (g.inn n i).ownBlock = some b) (env := envOf vals) (fun b hb => ⟨(hR.w.Zok b hb).1, fun e => (hR.w.bk _ b (.own p1 (hBf b e).1)).2.1 hb⟩) (fun n p hp b l hb => pos_env hlen.symm hvr hp hb) (n := n) (i := i) (c := c) (fun v hv => by
    obtain ⟨vn', xs', zs', r1, r2, rfl, rfl⟩ := hv
    rw [p1] at r1
    injection r1 with r1
    injection r1 with _ r1
    injection r1 with r1
    subst r1
    rw [p2] at r2
    injection r2 with r2
    subst r2
    exact ⟨rfl, fun _ => undef, (hrow.mono (fun b hb _ => hb) fun _ _ _ => rfl).toOW⟩) c3 hlen.symm hvr (fun m hm' => by
      have hmn : m ≠ n := fun e => by
        have := List.all_eq_true.1 c4 n (List.mem_cons_self ..)
        rw [← e] at this
        simp [hm'] at this
      refine fun x b hx hb => ⟨(hR.w.bk _ b (.own hx hb)).1, fun e => hmn ?_⟩
      have := hR.w.bkD _ _ b (.own hx hb) (.own p1 (hBf b e).1); omega) (fun m o _ b l hx => ⟨(hR.w.bk _ b (.tab hx)).1, fun e => by
        have := hR.w.bkD _ _ b (.tab hx) (.own p1 (hBf b e).1); omega⟩) hpt hds
  have hmeet := hm w _ vals ds _ out (fun b hb => hb) (fun b hb => (hR.w.bk _ b (.own p1 (hBf b hb).1)).1) hargs (hsp ds out hG)
  rw [show ora.na = fs.length + args.size + caps.length by simpa using c1, htake] at hmeet
  refine hmeet.mono ?_
  rintro e w' ⟨u, rs, BR, BU, rfl, hp⟩
  show next (a.put o.dst u) w'
  obtain ⟨v1, B1, hv1, hB1, hmu⟩ := upd_one c3 hlen.symm hvr hpt (by rw [← hup]; exact hp.upd)
  obtain ⟨vn', xs', zs', r1, r2, r3, rfl⟩ := hv1
  rw [p1] at r1
  injection r1 with r1
  injection r1 with r1 r1'
  injection r1' with r1'
  subst r1'
  obtain ⟨_, I1, how⟩ := hmu
  have hb0 := (hR.w.bk _ b0 (.own p1 q4)).1
  have hne0 : (g.inn n i).ownBlock ≠ some b0 := fun e => (hBf b0 e).2 rfl
  have hilt : i < xs.length := (List.getElem?_eq_some_iff.1 p2).1
  have hsame : ∀ b, b < w.heap.size → (g.inn n i).ownBlock ≠ some b → w'.heap[b]? = w.heap[b]? := hp.frame
  have hR1 := hR.subG (s := .row i ys) (B := g.fp n) (I := g.inn n) (w' := w') trivial p1 setRow_len.symm (fun b hb => .inl hb) hp.os hp.tape hp.output hp.size (fun b hb hf => hsame b hb fun e => hf (hBf b e).1)
    (.inr ⟨b0, off0, cap0, l0, by show _ = Value.slice _ (xs.set i ys).length _; simp, by rw [row_same (hsame b0 hb0 hne0)]; exact q1, q2, by show (xs.set i ys).length ≤ _; simp; omega, q4, by
      have get : ∀ j x, (xs.set i ys)[j]? = some x → (j = i ∧ x = ys) ∨ (j ≠ i ∧ xs[j]? = some x) := fun j x hx => by
        by_cases e : j = i
        · subst e
          rw [List.getElem?_set_self hilt] at hx
          injection hx with hx
          exact .inl ⟨rfl, hx.symm⟩
        · rw [List.getElem?_set_ne (Ne.symm e)] at hx
          exact .inr ⟨e, hx⟩
      have get2 : ∀ j x, (xs.set i ys)[j]? = some x → ∃ y, xs[j]? = some y := fun j x hx => by
        rcases get j x hx with ⟨rfl, _⟩ | ⟨_, hx⟩
        · exact ⟨_, p2⟩
        · exact ⟨_, hx⟩
      refine ⟨fun j x hx => ?_, fun j x hx _ => ?_, fun j k x y b' hx hy _ _ s1 s2 => ?_⟩
      · obtain ⟨y, hy⟩ := get2 j x hx
        exact q5.cell j y hy
      · rcases get j x hx with ⟨rfl, rfl⟩ | ⟨e, hx⟩
        · exact how.row (fun b hb _ => ⟨(hBf b hb).1, (hBf b hb).2⟩) fun _ _ => rfl
        · exact (q5.own j x hx fun h => h).mono (fun b' _ q => q) fun b' hb' q => hsame b' (hR.w.bk _ b' (.own p1 q.1)).1 fun e' => e (q5.dis j i x zs b' hx p2 (fun h => h) (fun h => h) hb' e')
      · obtain ⟨x', hx'⟩ := get2 j x hx
        obtain ⟨y', hy'⟩ := get2 k y hy
        exact q5.dis j k x' y' b' hx' hy' (fun h => h) (fun h => h) s1 s2⟩)
  have hsz := hR.w.size
  have hbk : ∀ m b, Bk ((g.hide (only n)).setOwn n (Value.slice (some ⟨b0, off0, none⟩) xs.length cap0, (Sb.row i ys).on (.orows xs)) (g.fp n) (g.inn n)) m b → b < w.heap.size := fun m b hm' => by
    rcases setOwn_bk.1 hm' with ⟨_, q⟩ | ⟨_, q⟩
    · exact (hR.w.bk _ b (.own p1 q)).1
    · exact (hR.w.bk _ b (hide_bk.1 q).2).1
  have hR2 : R F (((g.hide (only n)).setOwn n (Value.slice (some ⟨b0, off0, none⟩) xs.length cap0, (Sb.row i ys).on (.orows xs)) (g.fp n) (g.inn n)).addZ fun b => w.heap.size ≤ b ∧ b < w'.heap.size ∧ ¬ BR b ∧ ¬ BU b) (st.sub n (.row i ys)) a w' :=
    ⟨hR1.s.keep addZ_stay (fun _ _ h => ⟨h, rfl⟩) rfl fun _ _ h => h, hR1.w.addZ fun b hb => ⟨hb.2.1, fun hm' => by have := F.Mlt b hm'; omega, .inr (by omega), fun m hm' => by have := hbk m b hm'; omega⟩⟩
  have hfr2 : ∀ m, Fr g m → Fr (((g.hide (only n)).setOwn n (Value.slice (some ⟨b0, off0, none⟩) xs.length cap0, (Sb.row i ys).on (.orows xs)) (g.fp n) (g.inn n)).addZ fun b => w.heap.size ≤ b ∧ b < w'.heap.size ∧ ¬ BR b ∧ ¬ BU b) m := fun m hm' => by
    have := hm'.hide (q := only n) |>.setOwn (n := n) (x := (Value.slice (some ⟨b0, off0, none⟩) xs.length cap0, (Sb.row i ys).on (.orows xs))) (B := g.fp n) (I := g.inn n) (hm'.ne p1)
    exact ⟨this.own, this.tab, this.sus⟩
  obtain ⟨g', hR3, hu', hfr3⟩ := res_fin (site := site) hR2 (flat_MutDs hfl hp.res) (fun b hb => ⟨(hp.fresh b hb).2, by have := (hp.fresh b hb).1; omega, ⟨fun hz => by
      rcases hz with hz | hz
      · have := (hR.w.Zok b hz).1; have := (hp.fresh b hb).1; omega
      · exact hz.2.2.1 hb, fun m hm' => by have := hbk m b hm'; have := (hp.fresh b hb).1; omega⟩⟩) (fun j _ hj => hfr2 _ (hf.fr j hj)) hus
  rw [hp.val]
  refine hn _ _ _ _ h (hR3.put (res_ok hu') o.dst) ⟨fun m hm' hf' => hfr3 m (fun j hj e => hm' ⟨j, hj, .inl e⟩) (hfr2 m hf'), fun m _ hm' => ?_⟩
  have : ((st.sub n (.row i ys)).put o.dst (resV us)).tb m = (st.sub n (.row i ys)).tb m := by cases o.dst <;> rfl
  rw [this]
  show lk (st.tabs.map fun (k, cs) => (k, cs.map (X.sub n (.row i ys)))) m = none
  rw [lk_map (List.map (X.sub n (.row i ys)))]
  simp only [St.tb] at hm'
  rw [hm']; rfl
end
end Go.BV


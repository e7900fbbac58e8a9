/-
  An evaluator of the model's code that tells values by what they hold, and the proof that what it answers is what the machine does (part 2).
-/
import Derived.Test.YtafdeomdhkmjmaaB1
set_option linter.unusedVariables false
set_option linter.unusedSimpArgs false
/-
  Operations that write: stores, parts of one's own slices, append.
-/
namespace Go.BV
section
variable {P : Program} {T : TypeId → TI} {O : FuncId → Option Ora} {F : Fx} {g : Gh} {st : St} {a : Act} {w : World} {o : Oper} {site : Nat} {next : Act → World → Prop} {Q : Exit → Act → World → Prop}

/-- What names are left alone. -/
def Nw (F : Fx) (p : Nat → Bool) (g : Gh) (st' : St) (next : Act → World → Prop) : Prop := ∀ g' a' w', R F g' st' a' w' → (∀ n, p n = false → (g.own n = none → g'.own n = none) ∧ (g.tab n = none → g'.tab n = none)) → next a' w'

theorem row_setRow {b : Nat} {l m : List Value} (h : row w b = some l) : row (w.setRow b m.toArray) b = some m := by
  obtain ⟨e, h⟩ := row_heap h
  have := setRow_heap w b l.toArray m.toArray e (0, 0) h
  simpa using row_of_heap this
theorem run_stores {b k : Nat} {l vs : List Value} (h : row w b = some l) (hl : k + vs.length ≤ l.length) (h1 : ∀ v ∈ vs, v.oneCell' = true) : (storeCells ⟨b, k, none⟩ vs).run P w = .ok () (w.setRow b (l.take k ++ vs ++ l.drop (k + vs.length)).toArray) := by
  obtain ⟨e, h⟩ := row_heap h
  have := run_storeCells_at P b k e vs 0 l.toArray w h (by simpa using hl) h1
  simpa using this

theorem s_storePtr (hR : R F g st a w) {t : TypeId} {x y : Operand} {n k : Nat} {u : U} {xs ys : List X} (hT : TsOk P T) (ho : o.op = .store t x y) (hx : ev st x = .u (.x (.ptr n k))) (hy : ev st y = .u u) (hl : u.cells.length = (T t).size) (hs : Nat.blt 0 (T t).size = true) (hc : u.cells.all X.cellOk = true)
    (hxs : st.tb n = some xs) (hsp : splice xs u.cells k = some ys) (hn : Nw F (fun _ => false) g ({ st with tabs := setl st.tabs n ys }.put o.dst (.tup [])) next) : o.wp P a w next Q := by
  have hk := known hT (blt_ok hR hs)
  obtain ⟨inf, z, i1, i2, _⟩ := (hT.ok t hk).info
  obtain ⟨b, vs, h1, h2⟩ := ev_x hR hx
  have hu := UR.cells hR.w (ev_u hR hy) hc
  obtain ⟨xs', h3, h4⟩ := hR.s.tabs n b vs h1
  rw [hxs] at h3
  injection h3 with h3
  subst h3
  have hlen := hu.1.length
  have hlen2 := h4.length
  unfold splice at hsp
  cases hb : Nat.ble (k + u.cells.length) xs.length
  · rw [hb] at hsp; cases hsp
  · rw [hb] at hsp
    injection hsp with hsp
    have hle := Nat.le_of_ble_eq_true hb
    have hrow := hR.w.tab n b vs h1
    have hst := run_stores (P := P) (k := k) (vs := (a.eval y).cells.toList) hrow (by omega) hu.2
    unfold Oper.wp
    have hrun : (execOp a.eval o).run P w = .ok .skip (w.setRow b (vs.take k ++ (a.eval y).cells.toList ++ vs.drop (k + (a.eval y).cells.toList.length)).toArray) := by
      have hsz : (a.eval y).cells.size = inf.size := by rw [i2, ← hl, hlen]; simp
      simp only [execOp, ho, Instr.storeAt, h2, Instr.sureAddr, Sem.run_bind, Sem.run_pure, Result.andThen_ok, storeVar, sizeOf, typeInfo, run_program, i1, hsz, ne_eq, not_true_eq_false, if_false, hst]
    rw [hrun]
    have h5 := hR.setTab h1 (vs' := vs.take k ++ (a.eval y).cells.toList ++ vs.drop (k + (a.eval y).cells.toList.length)) (cs' := ys) (by rw [← hsp, ← hlen]; exact ((h4.take k).append hu.1).append (h4.drop _)) (w' := w.setRow b (vs.take k ++ (a.eval y).cells.toList ++ vs.drop (k + (a.eval y).cells.toList.length)).toArray) rfl rfl rfl (by simp [World.setRow]) (fun b' hb' => setRow_other w b b' _ hb') (row_setRow hrow)
    exact hn _ _ _ (h5.put (v := .tup []) (u := undef) ⟨[], rfl, trivial⟩ o.dst) fun m _ => ⟨fun h => h, fun h => by simp only [Gh.setTab]; rw [if_neg (fun e => by rw [e, h1] at h; cases h)]; exact h⟩

/-- A store of a cell into a slice of one's own. -/
theorem el_store (hR : R F g st a w) {n i : Nat} {c c' : C} {s : S} {b : Addr} {len cap : Nat} {v : Value} (h1 : g.own n = some (.slice (some b) len cap, c)) (hi : i < c.len) (hs : SR w g.Z s v) (h1c : v.oneCell' = true) (hset : c.set i s = some c') :
    ∃ w', (storeCells (b.add i) [v]).run P w = .ok () w' ∧ R F (g.setOwn n (.slice (some b) len cap, c')) (st.sub n (.setc c')) a w' := by
  rcases hR.w.own _ _ _ h1 with ⟨e, _⟩ | ⟨b', off, cap', l, e, h3, h4, h5, h6⟩
  · cases e
  · injection e with e1 e2 e3
    injection e1 with e1
    subst e1 e2 e3
    have hlt : off + i < l.length := by omega
    obtain ⟨hl1, hg1⟩ := C_set hR hset hi
    have hst := run_stores (P := P) (k := off + i) (vs := [v]) h3 (by simp; omega) (by simpa using h1c)
    have hl' : l.take (off + i) ++ [v] ++ l.drop (off + i + [v].length) = l.set (off + i) v := by
      rw [List.set_eq_take_append_cons_drop, if_pos hlt]; simp
    rw [hl'] at hst
    refine ⟨_, by rw [add_none]; exact hst, ?_⟩
    refine hR.setc h1 hl1.symm (b := b') rfl rfl rfl rfl (by simp [World.setRow]) (fun b'' hb' => setRow_other w b' b'' _ hb') (.inr ⟨b', off, cap, l.set (off + i) v, by rw [hl1], row_setRow h3, by simpa using h4, by omega, fun j hj => ?_⟩)
    have hP := hR.w.ownP n _ c b' h1 rfl
    have hst' : Stay g.Z w g.Z (w.setRow b' (l.set (off + i) v).toArray) := fun z hz => ⟨hz, setRow_other w b' z _ fun e => hP.1 (e ▸ hz)⟩
    rw [hl1] at hj
    rw [hg1 j hj]
    by_cases e : j = i
    · subst e
      rw [if_pos rfl]
      exact ⟨v, by simp [hlt], hs.mono hst'⟩
    · rw [if_neg e]
      obtain ⟨u, hu, hsr⟩ := h6 j hj
      exact ⟨u, by rw [List.getElem?_set_ne (by omega)]; exact hu, hsr.mono hst'⟩
theorem SR.one {Z : Nat → Prop} {s : S} {v : Value} (h : SR w Z s v) : v.oneCell' = true ∧ v.cells = #[v] := by
  cases s <;> simp only [SR] at h
  case sl c => exact slice_one (CR_iff.1 h)
  all_goals (subst h; exact ⟨rfl, rfl⟩)
theorem s_storeEl (hR : R F g st a w) {t : TypeId} {x y : Operand} {n i : Nat} {c c' : C} {u : X} {s : S} (hT : TsOk P T) (ho : o.op = .store t x y) (hx : ev st x = .u (.x (.el n c i))) (hy : ev st y = .u (.x u)) (hl : 1 = (T t).size) (hs : u.toS = some s) (hno : ∀ m d, u ≠ .own m d) (hset : c.set i s = some c')
    (hn : Nw F (fun _ => false) g ((st.sub n (.setc c')).put o.dst (.tup [])) next) : o.wp P a w next Q := by
  have hk := known hT (show (T t).size ≠ 0 by omega)
  obtain ⟨inf, z, i1, i2, _⟩ := (hT.ok t hk).info
  obtain ⟨b, len, cap, h1, h2, h3⟩ := ev_x hR hx
  have hsr := toS_ok hR (ev_x hR hy) hs hno
  have hone := hsr.one
  obtain ⟨w', hrun, hR'⟩ := el_store (P := P) hR h1 h2 hsr hone.1 hset
  unfold Oper.wp
  have : (execOp a.eval o).run P w = .ok .skip w' := by
    have hsz : (#[a.eval y] : Array Value).size = inf.size := by rw [i2, ← hl]; rfl
    simp only [execOp, ho, Instr.storeAt, h3, Instr.sureAddr, Sem.run_bind, Sem.run_pure, Result.andThen_ok, storeVar, sizeOf, typeInfo, run_program, i1, hone.2, hsz, ne_eq, not_true_eq_false, if_false, hrun]
  rw [this]
  exact hn _ _ _ (hR'.put (v := .tup []) (u := undef) ⟨[], rfl, trivial⟩ o.dst) fun m _ => ⟨fun h => by simp only [Gh.setOwn]; rw [if_neg (fun e => by rw [e, h1] at h; cases h)]; exact h, fun h => h⟩
theorem s_storeElOwn (hR : R F g st a w) {t : TypeId} {x y : Operand} {n i m : Nat} {c c' d : C} (hT : TsOk P T) (ho : o.op = .store t x y) (hx : ev st x = .u (.x (.el n c i))) (hy : ev st y = .u (.x (.own m d))) (hl : 1 = (T t).size) (hmn : m ≠ n) (hlow : isLow m = false) (hset : c.set i (.sl d) = some c')
    (hn : Nw F (fun _ => false) g (((st.sub m .ro).sub n (.setc c')).put o.dst (.tup [])) next) : o.wp P a w next Q := by
  have hk := known hT (show (T t).size ≠ 0 by omega)
  obtain ⟨inf, z, i1, i2, _⟩ := (hT.ok t hk).info
  obtain ⟨b, len, cap, h1, h2, h3⟩ := ev_x hR hx
  have hown := ev_x hR hy
  have hR1 := hR.ro (n := m) hlow
  have hsr : SR w (g.ro m).Z (.sl d) (a.eval y) := by
    refine CR.mono (w := w) (Z := fun b => g.Z b ∨ (a.eval y).ownBlock = some b) (fun b hb => ⟨?_, rfl⟩) (hR.w.own m _ d hown).reads
    rcases hb with hb | hb
    · exact .inl hb
    · exact .inr ⟨_, _, hown, hb⟩
  have hone := hsr.one
  obtain ⟨w', hrun, hR'⟩ := el_store (P := P) hR1 (ro_own.2 ⟨Ne.symm hmn, h1⟩) h2 hsr hone.1 hset
  unfold Oper.wp
  have : (execOp a.eval o).run P w = .ok .skip w' := by
    have hsz : (#[a.eval y] : Array Value).size = inf.size := by rw [i2, ← hl]; rfl
    simp only [execOp, ho, Instr.storeAt, h3, Instr.sureAddr, Sem.run_bind, Sem.run_pure, Result.andThen_ok, storeVar, sizeOf, typeInfo, run_program, i1, hone.2, hsz, ne_eq, not_true_eq_false, if_false, hrun]
  rw [this]
  refine hn _ _ _ (hR'.put (v := .tup []) (u := undef) ⟨[], rfl, trivial⟩ o.dst) fun k _ => ⟨fun h => ?_, fun h => h⟩
  simp only [Gh.setOwn]
  rw [if_neg (fun e => by rw [e, h1] at h; cases h)]
  simp only [Gh.ro]
  split
  · rfl
  · exact h

/-- A slice of one's own under another name. -/
theorem R.reown (h : R F g st a w) {n n' : Nat} {p : Nat → Bool} {v v' : Value} {c c' : C} (hn : g.own n = some (v, c)) (hp : p n = true) (hp' : p n' = true) (hlow : isLow n = true → isLow n' = true) {w' : World} (hos : w'.os = w.os) (ht : w'.tape = w.tape) (hout : w'.output = w.output) (hs : w.heap.size ≤ w'.heap.size)
    (hh : ∀ b, b < w.heap.size → v.ownBlock ≠ some b → w'.heap[b]? = w.heap[b]?) (ho : OW w' g.Z v' c') (hb : ∀ b, v'.ownBlock = some b → v.ownBlock = some b ∨ w.heap.size ≤ b) :
    R F ((g.clr p).setOwn n' (v', c')) (st.clr p) a w' := by
  have h1 := h.clr p
  -- the cleared state does not see what was n's
  have hst : Stay g.Z w g.Z w' := fun b hz => ⟨hz, hh b (h.w.Zok b hz).1 fun e => (h.w.ownP n v c b hn e).1 hz⟩
  have tr : Tr (g.clr p) w (g.clr p) w' id := tr_id hst (fun _ _ _ h => h) (fun _ b vs h => ⟨vs, h⟩)
  have hother : ∀ m u d b, (g.clr p).own m = some (u, d) → u.ownBlock = some b → v.ownBlock ≠ some b := fun m u d b hm hb e => by
    have := Gh.clr_own.1 hm
    have := h.w.ownD m u d b n v c this.2 hb hn e
    subst this
    rw [hp] at this; cases this.1
  have htab : ∀ m b vs, (g.clr p).tab m = some (b, vs) → v.ownBlock ≠ some b := fun m b vs hm e => h.w.otD n v c b m vs hn e (Gh.clr_tab.1 hm).2
  have h2 : R F (g.clr p) (st.clr p) a w' := by
    refine ⟨⟨h1.s.size, fun i x hx => ?_, h1.s.defers, fun m b vs hm => ?_, h1.s.mus, h1.s.low⟩, ⟨hos.trans h1.w.os, ht.trans h1.w.tape, hout.trans h1.w.output, Nat.le_trans h1.w.size hs, fun b hb hm => ?_, fun b hb => ⟨Nat.lt_of_lt_of_le (h1.w.Zok b hb).1 hs, (h1.w.Zok b hb).2⟩, h1.w.Zin, fun m u d hm => ?_, h1.w.ownP, h1.w.ownD, fun m b vs hm => ?_, h1.w.tabP, h1.w.tabD, h1.w.otD⟩⟩
    · obtain ⟨u, hu, hr⟩ := h1.s.tmps i x hx
      exact ⟨u, hu, by simpa [map_id_v] using tr.v hr⟩
    · obtain ⟨cs, q1, q2⟩ := h1.s.tabs m b vs hm
      exact ⟨cs, q1, by simpa using tr.xs q2⟩
    · refine (hh b (Nat.lt_of_lt_of_le hb h.w.size) fun e => ?_).trans (h1.w.frame b hb hm)
      rcases (h.w.ownP n v c b hn e).2 with q | q
      · omega
      · exact hm q.1
    · have := h1.w.own m u d hm
      exact this.mono hst fun b hb => hh b (own_lt this hb) (hother m u d b hm hb)
    · have := h1.w.tab m b vs hm
      rw [row_same (hh b (row_lt this) (htab m b vs hm))]
      exact this
  refine h2.newOwn (by simp only [Gh.clr, hp', cond_true]) ho fun b hb' => ?_
  rcases hb b hb' with e | e
  · refine ⟨⟨(h.w.ownP n v c b hn e).1, fun m u d hm e' => hother m u d b hm e' e, fun m vs hm => htab m b vs hm e⟩, ?_⟩
    exact (h.w.ownP n v c b hn e).2.imp id fun q => ⟨q.1, hlow q.2⟩
  · exact ⟨⟨fun hz => by have := (h.w.Zok b hz).1; omega, fun m u d hm e' => by have := own_lt (h1.w.own m u d hm) e'; omega, fun m vs hm => by have := row_lt (h1.w.tab m b vs hm); omega⟩, .inl (by have := h.w.size; omega)⟩

theorem isLow_high {n : Nat} (site : Nat) : isLow n = true → isLow (bif isLow n then nm site 0 + high else nm site 0) = true := by
  intro h
  rw [h]
  have : Nat.blt (nm site 0 + high) high = false := by
    rw [Bool.eq_false_iff]
    intro h
    have := Nat.le_of_ble_eq_true h
    omega
  simp [isLow, this]
theorem s_sliceOwn (hR : R F g st a w) {t : TypeId} {x : Operand} {lo hi : Option Operand} {e c : C} {n l h : Nat} (hT : TsOk P T) (ho : o.op = .slice t x lo hi none) (ht : (T t).u = .slice e) (hx : ev st x = .u (.x (.own n c))) (hb : bound (lo.map (ev st)) (hi.map (ev st)) c.len (fun l h => some (l, h)) = some (l, h))
    (hn : Nw F (fun m => m == bif isLow n then nm site 0 + high else nm site 0) g ((st.clr fun m => m == n || m == (bif isLow n then nm site 0 + high else nm site 0)).put o.dst (.u (.x (.own (bif isLow n then nm site 0 + high else nm site 0) ((c.take h).drop l))))) next) : o.wp P a w next Q := by
  obtain ⟨el, ie, ze, d1, _, _, d2, d3, _⟩ := desc hT ht (by simp)
  have hown := ev_x hR hx
  have hv : ∃ b cap, a.eval x = .slice b c.len cap ∧ c.len ≤ cap := by
    rcases hR.w.own _ _ _ hown with ⟨e1, e2⟩ | ⟨b, off, cap, l, e1, _, _, h3, _⟩
    · exact ⟨none, 0, by rw [e2]; exact e1, by omega⟩
    · exact ⟨_, cap, e1, h3⟩
  obtain ⟨b, cap, e1, e2⟩ := hv
  obtain ⟨h1, h2, h3⟩ := bound_ok (P := P) (isSlice := true) hR e2 hb
  obtain ⟨q1, q2⟩ := C_part hR c h2 h3
  unfold Oper.wp
  have hrun : (execOp a.eval o).run P w = .ok (.value (.slice (if cap = l then b else b.map (·.add l)) (h - l) (cap - l))) w := by
    simp [execOp, ho, Instr.sliceAt, Instr.slice, run_underlying d1, e1, h1, sizeOf, typeInfo, d2, d3]
  rw [hrun]
  have how := hR.w.own _ _ _ hown
  rw [e1] at how hown
  have hnew : OW w g.Z (.slice (if cap = l then b else b.map (·.add l)) (h - l) (cap - l)) ((c.take h).drop l) ∧ (∀ bb, (Value.slice (if cap = l then b else b.map (·.add l)) (h - l) (cap - l)).ownBlock = some bb → (Value.slice b c.len cap).ownBlock = some bb) := by
    rcases how with ⟨q3, q4⟩ | ⟨b', off, cap', ll, q3, q4, q5, q6, q7⟩
    · injection q3 with q3 q5 q6
      subst q3
      refine ⟨.inl ⟨?_, by rw [q1]; omega⟩, fun bb hbb => ?_⟩
      · have : l = 0 := by omega
        have : h = 0 := by omega
        subst_vars
        simp
      · split at hbb <;> simp [Value.ownBlock] at hbb
    · injection q3 with q3 _ q8
      subst q3 q8
      refine ⟨.inr ?_, fun bb hbb => ?_⟩
      · by_cases hcl : cap = l
        · rw [if_pos hcl]
          refine ⟨b', off, cap - l, ll, by rw [q1], q4, by omega, by rw [q1]; omega, fun i hi => ?_⟩
          rw [q1] at hi; omega
        · rw [if_neg hcl]
          refine ⟨b', off + l, cap - l, ll, by rw [q1]; simp [add_none], q4, by omega, by rw [q1]; omega, fun i hi => ?_⟩
          rw [q1] at hi
          rw [q2 i hi]
          obtain ⟨u, hu, hs⟩ := q7 (l + i) (by omega)
          exact ⟨u, by rw [Nat.add_assoc]; exact hu, hs⟩
      · split at hbb
        · exact hbb
        · simp only [Option.map_some, Value.ownBlock, add_block] at hbb ⊢
          exact hbb
  have := hR.reown (n' := bif isLow n then nm site 0 + high else nm site 0) (p := fun m => m == n || m == (bif isLow n then nm site 0 + high else nm site 0)) hown (by simp) (by simp) (isLow_high site) rfl rfl rfl (Nat.le_refl _) (fun _ _ _ => rfl) hnew.1 (fun bb hbb => .inl (hnew.2 bb hbb))
  refine hn _ _ _ (this.put (v := .u (.x (.own _ _))) (setOwn_own.2 (.inl ⟨rfl, rfl⟩)) o.dst) fun m hm => ⟨fun hg => ?_, fun hg => ?_⟩
  · simp only [Gh.setOwn]
    rw [if_neg (by simpa using hm)]
    simp only [Gh.clr]
    cases (m == n || m == bif isLow n then nm site 0 + high else nm site 0) <;> first | exact hg | rfl
  · simp only [Gh.setOwn, Gh.clr]
    cases (m == n || m == bif isLow n then nm site 0 + high else nm site 0) <;> first | exact hg | rfl
end
end Go.BV

/-
  append.
-/
namespace Go.BV
section
variable {P : Program} {T : TypeId → TI} {O : FuncId → Option Ora} {F : Fx} {g : Gh} {st : St} {a : Act} {w : World} {o : Oper} {site : Nat} {next : Act → World → Prop} {Q : Exit → Act → World → Prop}

theorem C_app {c d e : C} (h : c.app d = some e) : e.len = c.len + d.len ∧ ∀ i, e.get i = if i < c.len then c.get i else d.get (i - c.len) := by
  unfold C.app at h
  split at h
  · split at h
    · rename_i hk
      injection h with h
      subst h hk
      refine ⟨by simp [C.len], fun i => ?_⟩
      simp only [C.len, C.get, List.getD_eq_getElem?_getD, List.getElem?_append]
      split <;> rfl
    · cases h
  all_goals first
    | (injection h with h
       subst h
       refine ⟨by simp [C.len], fun i => ?_⟩
       simp only [C.len, C.get, List.getD_eq_getElem?_getD, List.getElem?_append]
       split <;> rfl)
    | cases h
theorem listOf {p : Nat → Value → Prop} : ∀ (n : Nat), (∀ i, i < n → ∃ u, p i u) → ∃ l : List Value, l.length = n ∧ ∀ i u, l[i]? = some u → p i u
  | 0, _ => ⟨[], rfl, fun i u h => by simp at h⟩
  | n + 1, h => by
    obtain ⟨l, h1, h2⟩ := listOf n fun i hi => h i (by omega)
    obtain ⟨u, hu⟩ := h n (by omega)
    refine ⟨l ++ [u], by simp [h1], fun i v hv => ?_⟩
    rw [List.getElem?_append] at hv
    split at hv
    · exact h2 i v hv
    · have : i = n := by
        have := (List.getElem?_eq_some_iff.1 hv).1
        simp at this
        omega
      subst this
      rw [h1, Nat.sub_self] at hv
      simp at hv
      subst hv
      exact hu

theorem append_ok {Z : Nat → Prop} {t el ty : TypeId} {ie : TypeInfo} {ze v u : Value} {c d e : C} {a' : Option Addr} {cap' : Nat} (d1 : P.underlying t = some (.slice el)) (d2 : P.info? el = some ie) (d3 : ie.size = 1) (d4 : ie.bytes ≤ 64) (d5 : ie.zero = some ze) (d6 : ze.cells = #[ze])
    (hZ : ∀ b, Z b → b < w.heap.size ∧ v.ownBlock ≠ some b) (ho : OW w Z v c) (hu : u = .slice a' d.len cap') (hc : ∀ i, i < d.len → ∃ ad q, a' = some ad ∧ w.cell? (ad.add i) = some q ∧ SR w Z (d.get i) q) (ha : c.app d = some e) (hlen : e.len ≤ 1099511627776) :
    ∃ v' w', (Builtin.append_ #[t, t] ty #[v, u]).run P w = .ok v' w' ∧ w'.os = w.os ∧ w'.tape = w.tape ∧ w'.output = w.output ∧ w.heap.size ≤ w'.heap.size ∧ (∀ b, b < w.heap.size → v.ownBlock ≠ some b → w'.heap[b]? = w.heap[b]?) ∧ OW w' Z v' e ∧ (∀ b, v'.ownBlock = some b → v.ownBlock = some b ∨ w.heap.size ≤ b) := by
  subst hu
  obtain ⟨e1, e2⟩ := C_app ha
  by_cases h0 : d.len = 0
  · -- nothing is added
    rw [h0] at e1
    refine ⟨v, w, ?_, rfl, rfl, rfl, Nat.le_refl _, fun _ _ _ => rfl, ?_, fun b hb => .inl hb⟩
    · have hf : (Builtin.firstCells 1 0 (.slice a' 0 cap')).run P w = .ok #[] w := by cases a' <;> simp [Builtin.firstCells, loadCells, loadCellsFrom]
      rcases ho with ⟨rfl, _⟩ | ⟨b, off, cap, l, rfl, h1, h2, h3, h4⟩
      · rw [h0]
        simp [Builtin.append_, run_underlying d1, sizeOf, typeInfo, d2, d3, Builtin.lenOf, hf]
      · rw [h0]
        simp [Builtin.append_, run_underlying d1, sizeOf, typeInfo, d2, d3, Builtin.lenOf, hf, h3, storeCells]
    · rcases ho with ⟨h1, h2⟩ | ⟨b, off, cap, l, h1, h2, h3, h4, h5⟩
      · exact .inl ⟨h1, by omega⟩
      · refine .inr ⟨b, off, cap, l, by rw [e1]; exact h1, h2, h3, by omega, fun i hi => ?_⟩
        rw [e2, if_pos (by omega)]
        exact h5 i (by omega)
  · -- the cells that are added
    obtain ⟨ad, rfl⟩ : ∃ ad, a' = some ad := by obtain ⟨ad, _, h, _⟩ := hc 0 (by omega); exact ⟨ad, h⟩
    obtain ⟨news, n1, n2⟩ := listOf (p := fun i q => w.cell? (ad.add i) = some q ∧ SR w Z (d.get i) q) d.len fun i hi => by
      obtain ⟨ad', q, h1, h2⟩ := hc i hi
      injection h1 with h1
      subst h1
      exact ⟨q, h2⟩
    have hnews : ∀ j q, news[j]? = some q → w.cell? (ad.add j) = some q := fun j q h => (n2 j q h).1
    have hone : ∀ q ∈ news, q.oneCell' = true := fun q hq => by
      obtain ⟨j, hj, rfl⟩ := List.mem_iff_getElem.1 hq
      exact (n2 j _ (List.getElem?_eq_getElem hj)).2.one.1
    have hnew : ∀ i, i < d.len → ∃ q, news[i]? = some q ∧ SR w Z (d.get i) q := fun i hi => ⟨news[i], List.getElem?_eq_getElem (by omega), (n2 i _ (List.getElem?_eq_getElem (by omega))).2⟩
    have grown : ∀ (olds rest : List Value) (q : Nat), olds.length = c.len → (∀ i, i < c.len → ∃ q, olds[i]? = some q ∧ SR w Z (c.get i) q) → e.len ≤ q → e.len + rest.length ≥ q → ∀ w', w'.heap.size = w.heap.size + 1 → (∀ b, b < w.heap.size → w'.heap[b]? = w.heap[b]?) → row w' w.heap.size = some (olds ++ news ++ rest) →
        OW w' Z (.slice (some ⟨w.heap.size, 0, none⟩) e.len q) e := by
      intro olds rest q ho1 ho2 hq1 hq2 w' hs hh hr
      have hst : Stay Z w Z w' := fun b hb => ⟨hb, hh b (hZ b hb).1⟩
      refine .inr ⟨w.heap.size, 0, q, _, rfl, hr, by simp only [List.length_append]; omega, hq1, fun i hi => ?_⟩
      rw [e2, Nat.zero_add]
      split
      · rename_i hlt
        obtain ⟨x, hx, hs⟩ := ho2 i hlt
        exact ⟨x, by rw [List.append_assoc, List.getElem?_append_left (by omega)]; exact hx, hs.mono hst⟩
      · rename_i hge
        obtain ⟨x, hx, hs⟩ := hnew (i - c.len) (by omega)
        exact ⟨x, by rw [List.append_assoc, List.getElem?_append_right (by omega), ho1, List.getElem?_append_left (by omega)]; exact hx, hs.mono hst⟩
    have hb48 : ∀ n, n ≤ 1099511627776 → n * ie.bytes ≤ 140737488355328 := fun n hn => by
      have := Nat.mul_le_mul hn d4
      omega
    have hz : ∀ n, (Builtin.zeroCells ze.cells n).size = n := fun n => by rw [size_zeroCells, d6]; simp
    have hblk : ∀ (n q : Nat) (bb : Nat), (Value.slice (some ⟨w.heap.size, 0, none⟩) n q).ownBlock = some bb → w.heap.size ≤ bb := fun n q bb h => by
      have : w.heap.size = bb := by simpa [Value.ownBlock] using h
      omega
    rcases ho with ⟨rfl, h1⟩ | ⟨b, off, cap, l, rfl, h1, h2, h3, h4⟩
    · have hr := run_append_nil (P := P) w t ty el ie ze d1 d2 d5 ad d.len cap' news (by rw [n1, d3]; omega) hnews (by omega) (by omega) (by have := hb48 d.len (by omega); omega)
      refine ⟨_, _, hr, rfl, rfl, rfl, by simp, fun b hb _ => heap_alloc_lt hb, ?_, fun bb hbb => .inr (hblk _ _ bb hbb)⟩
      have hge := grownCap_ge w d.len 0 el
      have hg := grown [] (Builtin.zeroCells ze.cells (grownCap w d.len 0 el - d.len)).toList (grownCap w d.len 0 el) (by simp [h1]) (fun i hi => by omega) (by omega) (by rw [Array.length_toList, hz]; omega) (w.drew.alloc (.cells (news.toArray ++ Builtin.zeroCells ze.cells (grownCap w d.len 0 el - d.len)) el)) (by simp) (fun b hb => heap_alloc_lt hb) (by
        have := row_alloc (w := w.drew) (arr := news.toArray ++ Builtin.zeroCells ze.cells (grownCap w d.len 0 el - d.len)) (e := el)
        simpa using this)
      rwa [show e.len = d.len by omega] at hg
    · have hnb : ∀ z, Z z → z ≠ b := fun z hz e => (hZ z hz).2 (by rw [e]; rfl)
      by_cases hroom : c.len + d.len ≤ cap
      · -- there is room
        have hst := run_stores (P := P) (k := off + c.len) (vs := news) h1 (by omega) hone
        have hf : (Builtin.firstCells 1 d.len (.slice (some ad) d.len cap')).run P w = .ok news.toArray w := run_firstCells_some w 1 d.len ad d.len cap' news (by omega) hnews
        refine ⟨.slice (some ⟨b, off, none⟩) (c.len + d.len) cap, w.setRow b (l.take (off + c.len) ++ news ++ l.drop (off + c.len + news.length)).toArray, ?_, rfl, rfl, rfl, by simp [World.setRow], fun b' _ hb' => setRow_other w b b' _ (fun e => hb' (by rw [e]; rfl)), ?_, fun bb hbb => .inl hbb⟩
        · simp [Builtin.append_, run_underlying d1, sizeOf, typeInfo, d2, d3, Builtin.lenOf, hroom, hf, add_none, hst]
        · have hst' : Stay Z w Z (w.setRow b (l.take (off + c.len) ++ news ++ l.drop (off + c.len + news.length)).toArray) := fun z hz => ⟨hz, setRow_other w b z _ (hnb z hz)⟩
          refine .inr ⟨b, off, cap, _, by rw [e1], row_setRow h1, by simp; omega, by omega, fun i hi => ?_⟩
          rw [e2]
          split
          · rename_i hlt
            obtain ⟨x, hx, hs⟩ := h4 i hlt
            exact ⟨x, by rw [List.append_assoc, List.getElem?_append_left (by simp; omega), List.getElem?_take, if_pos (by omega)]; exact hx, hs.mono hst'⟩
          · rename_i hge
            obtain ⟨x, hx, hs⟩ := hnew (i - c.len) (by omega)
            refine ⟨x, ?_, hs.mono hst'⟩
            rw [List.append_assoc, List.getElem?_append_right (by simp; omega), List.length_take, List.getElem?_append_left (by omega), show off + i - min (off + c.len) l.length = i - c.len by omega]
            exact hx
      · have hold : ∀ (j : Nat) (q : Value), ((l.drop off).take c.len)[j]? = some q → w.cell? ((⟨b, off, none⟩ : Addr).add j) = some q := fun j q hq => by
          rw [List.getElem?_take] at hq
          split at hq
          · rw [add_none, row_cell h1]; simpa using hq
          · cases hq
        have hr := run_append_grow (P := P) w t ty el ie ze d1 d2 d5 ⟨b, off, none⟩ c.len cap ((l.drop off).take c.len) (by simp [d3]; omega) hold ad d.len cap' news (by rw [n1, d3]; omega) hnews (by omega) (by omega) (growslice_fits (by omega) (hb48 _ (by omega)))
        refine ⟨_, _, hr, rfl, rfl, rfl, by simp, fun b hb _ => heap_alloc_lt hb, ?_, fun bb hbb => .inr (hblk _ _ bb hbb)⟩
        have hge := grownCap_ge w (c.len + d.len) cap el
        have hg := grown ((l.drop off).take c.len) (Builtin.zeroCells ze.cells (grownCap w (c.len + d.len) cap el - (c.len + d.len))).toList (grownCap w (c.len + d.len) cap el) (by simp; omega) (fun i hi => by
          obtain ⟨x, hx, hs⟩ := h4 i hi
          exact ⟨x, by rw [List.getElem?_take, if_pos hi]; simpa using hx, hs⟩) (by omega) (by rw [Array.length_toList, hz]; omega) (w.drew.alloc (.cells (((l.drop off).take c.len).toArray ++ news.toArray ++ Builtin.zeroCells ze.cells (grownCap w (c.len + d.len) cap el - (c.len + d.len))) el)) (by simp) (fun b hb => heap_alloc_lt hb) (by
          have := row_alloc (w := w.drew) (arr := ((l.drop off).take c.len).toArray ++ news.toArray ++ Builtin.zeroCells ze.cells (grownCap w (c.len + d.len) cap el - (c.len + d.len))) (e := el)
          simpa using this)
        rwa [show e.len = c.len + d.len by omega] at hg

theorem asSlice_ok (hR : R F g st a w) {x : V} {c : C} {u : Value} (h : asSlice x = some c) (hx : VR g w x u) : ∃ b cap, u = .slice b c.len cap ∧ ∀ i, i < c.len → ∃ ad q, b = some ad ∧ w.cell? (ad.add i) = some q ∧ SR w g.Z (c.get i) q := by
  unfold asSlice at h
  split at h <;> first | (cases h; done) | (injection h with h; subst h)
  · obtain ⟨b, cap, e, _, h1, h2⟩ := CR_iff.1 (show CR w g.Z _ u from hx)
    refine ⟨b, cap, e, fun i hi => ?_⟩
    obtain ⟨ad, rfl, _⟩ := h1 (by omega)
    obtain ⟨q, hq⟩ := h2 ad rfl i hi
    exact ⟨ad, q, rfl, hq⟩
  · obtain ⟨e1, e2⟩ := hx; exact ⟨none, 0, by rw [e2]; exact e1, fun i hi => by omega⟩
  · rcases hR.w.own _ _ _ hx with ⟨e1, e2⟩ | ⟨b, off, cap, l, e1, h1, h2, h3, h4⟩
    · exact ⟨none, 0, by rw [e2]; exact e1, fun i hi => by omega⟩
    · refine ⟨_, cap, e1, fun i hi => ?_⟩
      obtain ⟨q, hq, hs⟩ := h4 i hi
      exact ⟨_, q, rfl, by rw [add_none, row_cell h1]; exact hq, hs⟩

theorem run_appendOp {x y : Operand} {args : Array Operand} {tys : Array TypeId} {t : TypeId} {v u r : Value} {w' : World} (ho : o.op = .call { callee := .builtin .append, args := args, argTypes := tys }) (ha : args.toList = [x, y]) (ht : tys.toList = [t, t]) (hx : a.eval x = v) (hy : a.eval y = u) (h : (Builtin.append_ #[t, t] o.type #[v, u]).run P w = .ok r w') :
    (execOp a.eval o).run P w = .ok (.value r) w' := by
  have ha' : args = #[x, y] := by rw [← Array.toArray_toList (xs := args), ha]
  have ht' : tys = #[t, t] := by rw [← Array.toArray_toList (xs := tys), ht]
  simp only [execOp, ho, ha', ht', resolve, invoke, builtin, Sem.run_bind, Sem.run_pure, Result.andThen_ok, List.map_toArray, List.map_cons, List.map_nil, hx, hy, h]

theorem s_appendNil (hR : R F g st a w) {x y : Operand} {args : Array Operand} {tys : Array TypeId} {t : TypeId} {z c d e : C} (hT : TsOk P T) (ho : o.op = .call { callee := .builtin .append, args := args, argTypes := tys }) (ha : args.toList = [x, y]) (ht : tys.toList = [t, t]) (hz : (T t).u = .slice z)
    (hx : ev st x = .u (.x (.nil c))) (hy : asSlice (ev st y) = some d) (happ : c.app d = some e) (hlen : e.len ≤ 1099511627776)
    (hn : Nw F (fun m => m == nm site 0 || m == nm site 0 + high) g ((st.clr fun m => m == nm site 0).put o.dst (.u (.x (.own (nm site 0) e)))) next) : o.wp P a w next Q := by
  obtain ⟨el, ie, ze, d1, _, _, d2, d3, d4, d5, d6, d7⟩ := desc hT hz (by simp)
  obtain ⟨e1, e2⟩ := ev_x hR hx
  obtain ⟨b, cap, h1, h2⟩ := asSlice_ok hR hy (ev_ok hR.s y)
  obtain ⟨v', w', hr, q1, q2, q3, q4, q5, q6, q7⟩ := append_ok (ty := o.type) d1 d2 d3 d4 d5 d6 (Z := g.Z) (fun b hb => ⟨(hR.w.Zok b hb).1, by rw [e1]; simp [Value.ownBlock]⟩) (.inl ⟨e1, e2⟩) h1 h2 happ hlen
  unfold Oper.wp
  rw [run_appendOp ho ha ht rfl rfl hr]
  have h3 := (hR.clr fun m => m == nm site 0).grow q1 q2 q3 q4 (fun b hb => q5 b hb (by rw [e1]; simp [Value.ownBlock]))
  have h4 := h3.newOwn (n := nm site 0) (v := v') (c := e) (by simp [Gh.clr]) q6 fun b hb => by
    rcases q7 b hb with q | q
    · rw [e1] at q; simp [Value.ownBlock] at q
    · exact ⟨⟨fun hz => by have := (hR.w.Zok b hz).1; omega, fun m u d hm e' => by have := own_lt (hR.w.own m u d (Gh.clr_own.1 hm).2) e'; omega, fun m vs hm => by have := row_lt (hR.w.tab m b vs (Gh.clr_tab.1 hm).2); omega⟩, .inl (by have := hR.w.size; omega)⟩
  refine hn _ _ _ (h4.put (v := .u (.x (.own _ _))) (setOwn_own.2 (.inl ⟨rfl, rfl⟩)) o.dst) fun m hm => ⟨fun hg => ?_, fun hg => ?_⟩
  · simp only [Bool.or_eq_false_iff, beq_eq_false_iff_ne] at hm
    simp only [Gh.setOwn]
    rw [if_neg hm.1]
    simp only [Gh.clr]
    cases m == nm site 0 <;> first | exact hg | rfl
  · simp only [Gh.setOwn, Gh.clr]
    cases m == nm site 0 <;> first | exact hg | rfl

theorem s_appendOwn (hR : R F g st a w) {x y : Operand} {args : Array Operand} {tys : Array TypeId} {t : TypeId} {n : Nat} {z c d e : C} (hT : TsOk P T) (ho : o.op = .call { callee := .builtin .append, args := args, argTypes := tys }) (ha : args.toList = [x, y]) (ht : tys.toList = [t, t]) (hz : (T t).u = .slice z)
    (hx : ev st x = .u (.x (.own n c))) (hy : asSlice (ev st y) = some d) (happ : c.app d = some e) (hlen : e.len ≤ 1099511627776)
    (hn : Nw F (fun m => m == nm site 0 || m == nm site 0 + high) g ((st.clr fun m => m == n || m == (bif isLow n then nm site 0 + high else nm site 0)).put o.dst (.u (.x (.own (bif isLow n then nm site 0 + high else nm site 0) e)))) next) : o.wp P a w next Q := by
  obtain ⟨el, ie, ze, d1, _, _, d2, d3, d4, d5, d6, d7⟩ := desc hT hz (by simp)
  have hown := ev_x hR hx
  obtain ⟨b, cap, h1, h2⟩ := asSlice_ok hR hy (ev_ok hR.s y)
  obtain ⟨v', w', hr, q1, q2, q3, q4, q5, q6, q7⟩ := append_ok (ty := o.type) d1 d2 d3 d4 d5 d6 (Z := g.Z) (fun b hb => ⟨(hR.w.Zok b hb).1, fun e => (hR.w.ownP n _ c b hown e).1 hb⟩) (hR.w.own _ _ _ hown) h1 h2 happ hlen
  unfold Oper.wp
  rw [run_appendOp ho ha ht rfl rfl hr]
  have := hR.reown (n' := bif isLow n then nm site 0 + high else nm site 0) (p := fun m => m == n || m == (bif isLow n then nm site 0 + high else nm site 0)) hown (by simp) (by simp) (isLow_high site) q1 q2 q3 q4 q5 q6 q7
  refine hn _ _ _ (this.put (v := .u (.x (.own _ _))) (setOwn_own.2 (.inl ⟨rfl, rfl⟩)) o.dst) fun m hm => ⟨fun hg => ?_, fun hg => ?_⟩
  · simp only [Bool.or_eq_false_iff, beq_eq_false_iff_ne] at hm
    simp only [Gh.setOwn]
    rw [if_neg (by cases isLow n <;> simp <;> first | exact hm.1 | exact hm.2)]
    simp only [Gh.clr]
    cases (m == n || m == bif isLow n then nm site 0 + high else nm site 0) <;> first | exact hg | rfl
  · simp only [Gh.setOwn, Gh.clr]
    cases (m == n || m == bif isLow n then nm site 0 + high else nm site 0) <;> first | exact hg | rfl
end
end Go.BV

/-
  Calls that write into what they are handed: the two halves of the relation apart.
-/
namespace Go.BV
section
variable {F : Fx} {g h : Gh} {st : St} {a : Act} {w : World}

theorem SG.setc (s : SG F h w st a) {n : Nat} {v : Value} {c c' : C} (hn : h.own n = some (v, c)) (hlen : c.len = c'.len) : SG F (h.setOwn n (v, c')) w (st.sub n (.setc c')) a := by
  have tr : Tr h w (h.setOwn n (v, c')) w (X.sub n (.setc c')) := by
    refine tr_set n c' (Stay.refl _ _) (fun m u d hm h => setOwn_own.2 (.inr ⟨hm, h⟩)) (fun u d hd => ?_) (fun _ b vs h => ⟨vs, h⟩)
    rw [hn] at hd
    injection hd with hd
    injection hd with h1 h2
    subst h1 h2
    exact ⟨setOwn_own.2 (.inl ⟨rfl, rfl⟩), hlen⟩
  refine s.map tr (fun m b' vs hm => ?_) (fun m d hm => ?_) s.low
  · obtain ⟨cs, h1, h2⟩ := s.tabs m b' vs hm
    refine ⟨cs.map (X.sub n (.setc c')), ?_, tr.xs h2⟩
    show lk (st.tabs.map fun (k, cs) => (k, cs.map (X.sub n (.setc c')))) m = _
    rw [lk_map (List.map (X.sub n (.setc c')))]
    simp only [St.tb] at h1
    simp [h1]
  · replace hm : lk (setl st.mus n c') m = some d := hm
    by_cases e : m = n
    · subst e
      cases hl : lk st.mus m with
      | none => rw [lk_setl_none _ _ _ _ hl] at hm; cases hm
      | some d0 =>
        rw [lk_setl_eq _ _ _ _ hl] at hm
        injection hm with hm
        subst hm
        have := s.mus m d0 hl
        rw [hn] at this
        injection this with this
        injection this with h1 h2
        subst h1
        exact setOwn_own.2 (.inl ⟨rfl, rfl⟩)
    · rw [lk_setl_ne _ _ _ _ e] at hm
      exact setOwn_own.2 (.inr ⟨e, s.mus m d hm⟩)
theorem SG.clr (s : SG F h w st a) (p : Nat → Bool) : SG F (h.clr p) w (st.clr p) a := by
  have tr : Tr h w (h.clr p) w (X.clr p) := tr_clr p (Stay.refl _ _) (fun n v c hp hn => Gh.clr_own.2 ⟨hp, hn⟩) (fun n b vs hp hn => ⟨vs, Gh.clr_tab.2 ⟨hp, hn⟩⟩)
  refine s.map tr (fun n b vs hn => ?_) (fun n c hn => ?_) (fun n b vs hl hn => s.low n b vs hl (Gh.clr_tab.1 hn).2)
  · obtain ⟨hp, hn⟩ := Gh.clr_tab.1 hn
    obtain ⟨cs, h1, h2⟩ := s.tabs n b vs hn
    refine ⟨cs.map (X.clr p), ?_, tr.xs h2⟩
    rw [lk_filter p (List.map (X.clr p))]
    simp only [St.tb] at h1
    simp [hp, h1]
  · rw [lk_filter0 p] at hn
    cases hp : p n
    · rw [hp, cond_false] at hn
      exact Gh.clr_own.2 ⟨hp, s.mus n c hn⟩
    · rw [hp] at hn; cases hn
theorem SG.tr_same {h' : Gh} {w' : World} (s : SG F h w st a) (hz : Stay h.Z w h'.Z w') (ho : ∀ n x, h.own n = some x → h'.own n = some x) (ht : h'.tab = h.tab) : SG F h' w' st a := by
  have tr : Tr h w h' w' id := tr_id hz (fun n v c hn => ho n _ hn) (fun _ b vs hn => ⟨vs, by rw [ht]; exact hn⟩)
  refine ⟨s.size, fun i x hx => ?_, s.defers, fun m b vs hm => ?_, fun m x hm => ho _ _ (s.mus m x hm), fun n b vs hl hn => s.low n b vs hl (by rw [ht] at hn; exact hn)⟩
  · obtain ⟨u, hu, hr⟩ := s.tmps i x hx
    exact ⟨u, hu, by simpa [map_id_v] using tr.v hr⟩
  · rw [ht] at hm
    obtain ⟨cs, h1, h2⟩ := s.tabs m b vs hm
    exact ⟨cs, h1, by simpa using tr.xs h2⟩
theorem SG.setTab (s : SG F h w st a) {n b : Nat} {vs vs' : List Value} {cs' : List X} (hn : h.tab n = some (b, vs)) (hx : XsR h w cs' vs') : SG F (h.setTab n (b, vs')) w { st with tabs := setl st.tabs n cs' } a := by
  have tr : Tr h w (h.setTab n (b, vs')) w id := by
    refine tr_id (Stay.refl _ _) (fun m u d h => h) (fun m b' us hm => ?_)
    by_cases e : m = n
    · subst e
      rw [hn] at hm
      injection hm with hm
      injection hm with h1 h2
      subst h1
      exact ⟨vs', setTab_tab.2 (.inl ⟨rfl, rfl⟩)⟩
    · exact ⟨us, setTab_tab.2 (.inr ⟨e, hm⟩)⟩
  refine ⟨s.size, fun i x hx => ?_, s.defers, fun m b' us hm => ?_, s.mus, fun m b' us hl hm => ?_⟩
  · obtain ⟨u, hu, hr⟩ := s.tmps i x hx
    exact ⟨u, hu, by simpa [map_id_v] using tr.v hr⟩
  · rcases setTab_tab.1 hm with ⟨rfl, e⟩ | ⟨hne, hm⟩
    · cases e
      obtain ⟨cs, h1, _⟩ := s.tabs _ _ _ hn
      exact ⟨cs', lk_setl_eq _ _ _ _ h1, by simpa using tr.xs hx⟩
    · obtain ⟨cs, h1, h2⟩ := s.tabs m b' us hm
      exact ⟨cs, (lk_setl_ne _ _ _ _ hne).trans h1, by simpa using tr.xs h2⟩
  · rcases setTab_tab.1 hm with ⟨rfl, e⟩ | ⟨hne, hm⟩
    · cases e; exact s.low _ _ _ hl hn
    · exact s.low m b' us hl hm

theorem WG.newOwn (k : WG F g w) {n : Nat} {v : Value} {c : C} (hn : g.own n = none) (ho : OW w g.Z v c) (hf : ∀ b, v.ownBlock = some b → Free F g b ∧ (F.w0.heap.size ≤ b ∨ (F.M b ∧ isLow n = true))) : WG F (g.setOwn n (v, c)) w := by
  refine ⟨k.os, k.tape, k.output, k.size, k.frame, k.Zok, k.Zin, fun m x y hm => ?_, fun m x y b hm hb => ?_, fun m x y b m' x' y' hm hb hm' hb' => ?_, k.tab, k.tabP, k.tabD, fun m x y b m' vs hm hb hm' => ?_⟩
  · rcases setOwn_own.1 hm with ⟨_, e⟩ | ⟨_, hm⟩
    · cases e; exact ho
    · exact k.own m x y hm
  · rcases setOwn_own.1 hm with ⟨rfl, e⟩ | ⟨_, hm⟩
    · cases e; exact ⟨(hf b hb).1.z, (hf b hb).2⟩
    · exact k.ownP m x y b hm hb
  · rcases setOwn_own.1 hm with ⟨rfl, e⟩ | ⟨_, hm1⟩ <;> rcases setOwn_own.1 hm' with ⟨rfl, e'⟩ | ⟨_, hm2⟩
    · rfl
    · cases e; exact absurd hb' ((hf b hb).1.own _ _ _ hm2)
    · cases e'; exact absurd hb ((hf b hb').1.own _ _ _ hm1)
    · exact k.ownD m x y b m' x' y' hm1 hb hm2 hb'
  · rcases setOwn_own.1 hm with ⟨rfl, e⟩ | ⟨_, hm⟩
    · cases e; exact (hf b hb).1.tab _ _ hm'
    · exact k.otD m x y b m' vs hm hb hm'
theorem WG.newTab (k : WG F g w) {n b : Nat} {vs : List Value} (hn : g.tab n = none) (hr : row w b = some vs) (hf : Free F g b) (hb : F.w0.heap.size ≤ b ∨ (F.M b ∧ isLow n = true)) : WG F (g.setTab n (b, vs)) w := by
  refine ⟨k.os, k.tape, k.output, k.size, k.frame, k.Zok, k.Zin, k.own, k.ownP, k.ownD, fun m b' vs' hm => ?_, fun m b' vs' hm => ?_, fun m b' vs' m' vs'' hm hm' => ?_, fun m x y b' m' vs' hm hb' hm' => ?_⟩
  · rcases setTab_tab.1 hm with ⟨rfl, e⟩ | ⟨hne, hm⟩
    · cases e; exact hr
    · exact k.tab m b' vs' hm
  · rcases setTab_tab.1 hm with ⟨rfl, e⟩ | ⟨hne, hm⟩
    · cases e; exact ⟨hf.z, hb⟩
    · exact k.tabP m b' vs' hm
  · rcases setTab_tab.1 hm with ⟨rfl, e⟩ | ⟨hne, hm1⟩ <;> rcases setTab_tab.1 hm' with ⟨rfl, e'⟩ | ⟨hne', hm2⟩
    · rfl
    · cases e; exact absurd hm2 (hf.tab _ _)
    · cases e'; exact absurd hm1 (hf.tab _ _)
    · exact k.tabD m b' vs' m' vs'' hm1 hm2
  · rcases setTab_tab.1 hm' with ⟨rfl, e⟩ | ⟨hne, hm'⟩
    · cases e; exact hf.own _ _ _ hm hb'
    · exact k.otD m x y b' m' vs' hm hb' hm'

/-- Names that are waiting. -/
def Gh.hide (g : Gh) (po pt : Nat → Bool) : Gh := { g with own := fun n => bif po n then none else g.own n, tab := fun n => bif pt n then none else g.tab n }
theorem hide_own {g : Gh} {po pt : Nat → Bool} {n : Nat} {x : Value × C} : (g.hide po pt).own n = some x ↔ po n = false ∧ g.own n = some x := by
  simp only [Gh.hide]; cases po n <;> simp
theorem hide_tab {g : Gh} {po pt : Nat → Bool} {n : Nat} {x : Nat × List Value} : (g.hide po pt).tab n = some x ↔ pt n = false ∧ g.tab n = some x := by
  simp only [Gh.hide]; cases pt n <;> simp
/-- The world behind a call that wrote into the blocks 'bs': what is named otherwise stays. -/
theorem WG.called (k : WG F g w) {w' : World} {bs bR : List Nat} (hos : w'.os = w.os) (ht : w'.tape = w.tape) (hout : w'.output = w.output) (hs : w.heap.size ≤ w'.heap.size) (hh : ∀ b, b < w.heap.size → b ∉ bs → w'.heap[b]? = w.heap[b]?)
    (hbs : ∀ b, b ∈ bs → ¬ g.Z b ∧ (F.w0.heap.size ≤ b ∨ F.M b)) (po pt : Nat → Bool) (hpo : ∀ n v c b, g.own n = some (v, c) → v.ownBlock = some b → b ∈ bs → po n = true) (hpt : ∀ n b vs, g.tab n = some (b, vs) → b ∈ bs → pt n = true) :
    WG F { (g.hide po pt) with Z := fun b => g.Z b ∨ (w.heap.size ≤ b ∧ b < w'.heap.size ∧ b ∉ bR) } w' := by
  have hz : Stay g.Z w (fun b => g.Z b ∨ (w.heap.size ≤ b ∧ b < w'.heap.size ∧ b ∉ bR)) w' := fun b hb => ⟨.inl hb, hh b (k.Zok b hb).1 fun e => (hbs b e).1 hb⟩
  refine ⟨hos.trans k.os, ht.trans k.tape, hout.trans k.output, Nat.le_trans k.size hs, fun b hb hm => ?_, fun b hb => ?_, fun b hb => .inl (k.Zin b hb), fun n v c hn => ?_, fun n v c b hn hb => ?_, fun n v c b n' v' c' hn hb hn' => k.ownD n v c b n' v' c' ((hide_own (g := g) (po := po) (pt := pt)).1 hn).2 hb ((hide_own (g := g) (po := po) (pt := pt)).1 hn').2, fun n b vs hn => ?_, fun n b vs hn => ?_, fun n b vs n' vs' hn hn' => k.tabD n b vs n' vs' ((hide_tab (g := g) (po := po) (pt := pt)).1 hn).2 ((hide_tab (g := g) (po := po) (pt := pt)).1 hn').2, fun n v c b n' vs hn hb hn' => k.otD n v c b n' vs ((hide_own (g := g) (po := po) (pt := pt)).1 hn).2 hb ((hide_tab (g := g) (po := po) (pt := pt)).1 hn').2⟩
  · refine (hh b (Nat.lt_of_lt_of_le hb k.size) fun e => ?_).trans (k.frame b hb hm)
    rcases (hbs b e).2 with q | q
    · omega
    · exact hm q
  · rcases hb with hb | ⟨hb1, hb2, _⟩
    · exact ⟨Nat.lt_of_lt_of_le (k.Zok b hb).1 hs, (k.Zok b hb).2⟩
    · have := k.size
      exact ⟨hb2, fun hm => by have := F.Mlt b hm; omega, .inr (by omega)⟩
  · obtain ⟨hp, hn⟩ := (hide_own (g := g) (po := po) (pt := pt)).1 hn
    have := k.own n v c hn
    exact this.mono hz fun b hb => hh b (own_lt this hb) fun e => by rw [hpo n v c b hn hb e] at hp; cases hp
  · obtain ⟨hp, hn⟩ := (hide_own (g := g) (po := po) (pt := pt)).1 hn
    refine ⟨?_, (k.ownP n v c b hn hb).2⟩
    rintro (hz' | ⟨hz', _⟩)
    · exact (k.ownP n v c b hn hb).1 hz'
    · have := own_lt (k.own n v c hn) hb; omega
  · obtain ⟨hp, hn⟩ := (hide_tab (g := g) (po := po) (pt := pt)).1 hn
    have := k.tab n b vs hn
    rw [row_same (hh b (row_lt this) fun e => by rw [hpt n b vs hn e] at hp; cases hp)]
    exact this
  · obtain ⟨hp, hn⟩ := (hide_tab (g := g) (po := po) (pt := pt)).1 hn
    refine ⟨?_, (k.tabP n b vs hn).2⟩
    rintro (hz' | ⟨hz', _⟩)
    · exact (k.tabP n b vs hn).1 hz'
    · have := row_lt (k.tab n b vs hn); omega

theorem gh_ext {g g' : Gh} (h1 : ∀ n, g.own n = g'.own n) (h2 : ∀ n, g.tab n = g'.tab n) (h3 : g.Z = g'.Z) : g = g' := by
  obtain ⟨o, t, z⟩ := g
  obtain ⟨o', t', z'⟩ := g'
  have e1 : o = o' := funext h1
  have e2 : t = t' := funext h2
  subst e1 e2
  have e3 : z = z' := h3
  subst e3
  rfl
end
end Go.BV

namespace Go.BV
/-- The names that an operation may give. -/
def Mine (site n : Nat) : Prop := ∃ j, j < 16 ∧ (n = nm site j ∨ n = nm site j + high)
structure Keeps (site : Nat) (g g' : Gh) (st st' : St) : Prop where
  own : ∀ n, ¬ Mine site n → g.own n = none → g'.own n = none
  tab : ∀ n, ¬ Mine site n → g.tab n = none → g'.tab n = none
  tb : ∀ n, ¬ Mine site n → st.tb n = none → st'.tb n = none

section
variable {P : Program} {T : TypeId → TI} {O : FuncId → Option Ora} {F : Fx} {g : Gh} {st : St} {a : Act} {w : World} {o : Oper} {site : Nat} {next : Act → World → Prop} {Q : Exit → Act → World → Prop}
theorem s_callF {ρ : Type} {K : St → Option ρ} {r : ρ} (hR : R F g st a w) {f : Operand} {args : Array Operand} {tys : Array TypeId} {k : FuncId} {caps : List Nat} {ora : Ora} (hO : OOk P O) (hf : Fresh site g st) (ho : o.op = .call { callee := .value f, args := args, argTypes := tys })
    (he : ev st f = .u (.x (.fn k caps))) (hk : O k = some ora) (h : callF ora site o.dst (args.toList.map (ev st) ++ caps.map fun n => .u (.x (.ptr n 0))) st K = some r)
    (hn : ∀ st' g' a' w', K st' = some r → R F g' st' a' w' → Keeps site g g' st st' → next a' w') : o.wp P a w next Q := by
  unfold callF at h
  cases h
end
end Go.BV

/-
  Operations, regions in the order of the text, code.
-/
namespace Go.BV
section
variable {P : Program} {T : TypeId → TI} {O : FuncId → Option Ora} {F : Fx} {g : Gh} {st : St} {a : Act} {w : World} {o : Oper} {site : Nat} {next : Act → World → Prop} {Q : Exit → Act → World → Prop} {ρ : Type}

theorem Keeps.refl : Keeps site g g st st := ⟨fun _ _ h => h, fun _ _ h => h, fun _ _ h => h⟩
theorem tb_map {f : X → X} {n : Nat} (h : lk st.tabs n = none) : lk (st.tabs.map fun (m, cs) => (m, cs.map f)) n = none := by rw [lk_map (List.map f), h]; rfl
theorem tb_sub {m n : Nat} {s : Sb} (h : st.tb n = none) : (st.sub m s).tb n = none := tb_map h
theorem tb_clr {p : Nat → Bool} {n : Nat} (h : st.tb n = none) : (st.clr p).tb n = none := by
  show lk _ n = none
  simp only [St.clr]
  rw [lk_filter p (List.map (X.clr p))]
  simp only [St.tb] at h
  cases p n <;> simp [h]
theorem tb_put {dst : Option Tmp} {v : V} {n : Nat} : (st.put dst v).tb n = st.tb n := by cases dst <;> rfl
theorem tb_out {dst : Option Tmp} {v : V} {ext : Option (List X)} {n : Nat} (hm : ¬ Mine site n) (h : st.tb n = none) : (st.out site dst v ext).tb n = none := by
  cases ext with
  | none => rw [show st.out site dst v none = st.put dst v from rfl, tb_put]; exact h
  | some cs =>
    rw [show st.out site dst v (some cs) = St.put { st with tabs := insl st.tabs (nm site 0) cs } dst v from rfl, tb_put]
    show lk (insl st.tabs (nm site 0) cs) n = none
    rw [lk_insl_ne]
    · exact h
    · intro e; exact hm ⟨0, by omega, .inl e⟩
theorem cv_K (hO : OOk P O) {K : V → Option (List X) → Option ρ} {r : ρ} {e : Operand → V} {tb : Nat → Option (List X)} {op : Op} (h : cv T O site op e tb K = some r) : ∃ v x, cvD T O site op e tb = some (v, x) ∧ K v x = some r := by
  rw [cv_nat hO.nat] at h
  obtain ⟨⟨v, x⟩, h1, h2⟩ := Option.bind_eq_some_iff.1 h
  exact ⟨v, x, h1, h2⟩
theorem mine_low : Mine site (nm site 0) := ⟨0, by omega, .inl rfl⟩
theorem mine_high : Mine site (nm site 0 + high) := ⟨0, by omega, .inr rfl⟩
theorem keeps_nw {p : Nat → Bool} {g' : Gh} {st' : St} (h : ∀ n, p n = false → (g.own n = none → g'.own n = none) ∧ (g.tab n = none → g'.tab n = none)) (hp : ∀ n, p n = true → Mine site n) (ht : ∀ n, ¬ Mine site n → st.tb n = none → st'.tb n = none) : Keeps site g g' st st' := by
  refine ⟨fun n hn => (h n ?_).1, fun n hn => (h n ?_).2, ht⟩
  · cases e : p n
    · rfl
    · exact absurd (hp n e) hn
  · cases e : p n
    · rfl
    · exact absurd (hp n e) hn

theorem s_assignNil {c : C} (hR : R F g st a w) (ho : o.op = .assign (.const (.slice none 0 0))) (hn : Nw F (fun _ => false) g (st.put o.dst (.u (.x (.nil (c.zeros 0))))) next) : o.wp P a w next Q := by
  unfold Oper.wp
  have : (execOp a.eval o).run P w = .ok (.value (.slice none 0 0)) w := by simp [execOp, ho, Act.eval]
  rw [this]
  exact hn _ _ _ (hR.put (v := .u (.x (.nil (c.zeros 0)))) (u := .slice none 0 0) ⟨rfl, by cases c <;> rfl⟩ o.dst) fun m _ => ⟨fun h => h, fun h => h⟩
theorem step_sound (hT : TsOk P T) (hO : OOk P O) {dr : Bool} {K : St → Option ρ} {r : ρ} (h : step T O dr site o st K = some r) (hR : R F g st a w) (hf : Fresh site g st)
    (hn : ∀ st' g' a' w', K st' = some r → R F g' st' a' w' → Keeps site g g' st st' → next a' w') : o.wp P a w next Q := by
  unfold step at h
  split at h
  · rename_i rr hw
    have hrr : rr = some r := by
      cases hd : (dr && !isStore o)
      · rw [hd] at h; exact h
      · rw [hd] at h; cases h
    subst hrr
    unfold wild at hw
    split at hw
    · rename_i t x y ho
      injection hw with hw
      split at hw
      · rename_i ax u hx hy
        cases hb : (u.cells.length == (T t).size && Nat.blt 0 (T t).size)
        · rw [hb] at hw; cases hw
        · rw [hb] at hw
          simp only [cond_true] at hw
          simp only [Bool.and_eq_true] at hb
          have hl : u.cells.length = (T t).size := by simpa using hb.1
          split at hw
          · rename_i st' hst
            unfold storeX at hst
            split at hst
            · rename_i n k
              cases hc : u.cells.all X.cellOk
              · rw [hc] at hst; cases hst
              · rw [hc] at hst
                simp only [cond_true] at hst
                split at hst
                · rename_i xs hxs
                  split at hst
                  · rename_i ys hys
                    injection hst with hst
                    subst hst
                    refine s_storePtr hR hT ho hx hy hl hb.2 hc hxs hys fun g' a' w' h1 h2 => hn _ g' a' w' hw h1 (keeps_nw h2 (fun n h => by cases h) fun m _ hm => ?_)
                    rw [tb_put]
                    exact lk_setl_none _ _ _ _ hm
                  · cases hst
                · cases hst
            · rename_i n c i
              split at hst
              · rename_i m ys
                cases hc : (m == n || isLow m)
                · rw [hc] at hst
                  simp only [cond_false] at hst
                  simp only [Bool.or_eq_false_iff] at hc
                  split at hst
                  · rename_i c' hset
                    injection hst with hst
                    subst hst
                    refine s_storeElOwn hR hT ho hx hy (by rw [← hl]; rfl) (by simpa using hc.1) hc.2 hset fun g' a' w' h1 h2 => hn _ g' a' w' hw h1 (keeps_nw h2 (fun n h => by cases h) fun q _ hq => ?_)
                    rw [tb_put]
                    exact tb_sub (tb_sub hq)
                  · cases hst
                · rw [hc] at hst; cases hst
              · rename_i y' hno
                split at hst
                · rename_i s hs
                  split at hst
                  · rename_i c' hset
                    injection hst with hst
                    subst hst
                    refine s_storeEl hR hT ho hx hy (by rw [← hl]; rfl) hs (fun m d e => hno m d (by rw [e])) hset fun g' a' w' h1 h2 => hn _ g' a' w' hw h1 (keeps_nw h2 (fun n h => by cases h) fun q _ hq => ?_)
                    rw [tb_put]
                    exact tb_sub hq
                  · cases hst
                · cases hst
              · cases hst
            · cases hst
          · cases hw
      · cases hw
    · rename_i ho
      injection hw with hw
      split at hw
      · rename_i c hc
        refine s_assignNil hR ho fun g' a' w' h1 h2 => hn _ g' a' w' hw h1 (keeps_nw h2 (fun n h => by cases h) fun q _ hq => ?_)
        rw [tb_put]
        exact hq
      · cases hw
    · rename_i t x lo hi ho
      split at hw
      · rename_i n c hx
        injection hw with hw
        split at hw
        · rename_i z hz
          rw [bound_nat] at hw
          obtain ⟨⟨l, hh⟩, h1, h2⟩ := Option.bind_eq_some_iff.1 hw
          refine s_sliceOwn (site := site) hR hT ho hz hx h1 fun g' a' w' h3 h4 => hn _ g' a' w' h2 h3 (keeps_nw h4 (fun m hm => ?_) fun m _ hm => ?_)
          · have : m = bif isLow n then nm site 0 + high else nm site 0 := by simpa using hm
            rw [this]
            cases isLow n
            · exact mine_low
            · exact mine_high
          · rw [tb_put]; exact tb_clr hm
        · cases hw
      · cases hw
    · rename_i f args tys ho
      split at hw
      · rename_i k caps hx
        split at hw
        · rename_i ora hora
          cases hc : (caps.isEmpty && ora.md.all Md.isVal && (!ora.weak || (vToks st.tb (args.toList.map (ev st))).isEmpty))
          case true => rw [hc] at hw; cases hw
          case false =>
            rw [hc] at hw
            simp only [cond_false] at hw
            injection hw with hw
            exact s_callF hR hO hf ho hx hora hw hn
        · cases hw
      · cases hw
    · rename_i args tys ho
      split at hw
      · rename_i x y hxy
        injection hw with hw
        obtain ⟨x', y', ha, rfl, rfl⟩ : ∃ x' y', args.toList = [x', y'] ∧ ev st x' = x ∧ ev st y' = y := by
          cases hl : args.toList with
          | nil => rw [hl] at hxy; cases hxy
          | cons p l => cases l with
            | nil => rw [hl] at hxy; simp at hxy
            | cons q l => cases l with
              | nil => rw [hl] at hxy; simp at hxy; exact ⟨p, q, rfl, hxy.1, hxy.2⟩
              | cons => rw [hl] at hxy; simp at hxy
        split at hw
        · rename_i t t' ht
          cases hb : t == t'
          · rw [hb] at hw; cases hw
          · rw [hb] at hw
            simp only [cond_true] at hw
            have : t = t' := by simpa using hb
            subst this
            split at hw
            · rename_i z hz
              unfold appendC at hw
              split at hw
              · rename_i c d hx hy
                split at hw
                · rename_i e happ
                  split at hw
                  · rename_i hlen
                    refine s_appendNil (site := site) hR hT ho ha ht hz hx hy happ hlen fun g' a' w' h3 h4 => hn _ g' a' w' hw h3 (keeps_nw h4 (fun m hm => ?_) fun m _ hm => ?_)
                    · simp only [Bool.or_eq_true, beq_iff_eq] at hm
                      rcases hm with rfl | rfl
                      · exact mine_low
                      · exact mine_high
                    · rw [tb_put]; exact tb_clr hm
                  · cases hw
                · cases hw
              · rename_i n c d hx hy
                cases htk : isTok n (ev st y')
                case true => rw [htk] at hw; cases hw
                case false =>
                  rw [htk] at hw
                  simp only [cond_false] at hw
                  split at hw
                  · rename_i e happ
                    split at hw
                    · rename_i hlen
                      refine s_appendOwn (site := site) hR hT ho ha ht hz hx hy happ hlen fun g' a' w' h3 h4 => hn _ g' a' w' hw h3 (keeps_nw h4 (fun m hm => ?_) fun m _ hm => ?_)
                      · simp only [Bool.or_eq_true, beq_iff_eq] at hm
                        rcases hm with rfl | rfl
                        · exact mine_low
                        · exact mine_high
                      · rw [tb_put]; exact tb_clr hm
                    · cases hw
                  · cases hw
              · cases hw
            · cases hw
        · cases hw
      · cases hw
    · cases hw
  · obtain ⟨v, x, h1, h2⟩ := cv_K hO h
    refine cv_sound hT hO hR hf h1 fun g' a' w' h3 h4 => hn _ g' a' w' h2 h3 ⟨fun n hm hn => ?_, fun n hm hn => ?_, fun n hm hn => tb_out hm hn⟩
    · rw [h4.own n fun j hj e => hm ⟨j, hj, .inl e⟩]; exact hn
    · rw [h4.tab n fun j hj e => hm ⟨j, hj, .inl e⟩]; exact hn
end
end Go.BV

/-
  Regions: the order of the text.
-/
namespace Go.BV
section
variable {P : Program} {T : TypeId → TI} {O : FuncId → Option Ora} {F : Fx} {g : Gh} {st : St} {a : Act} {w : World} {o : Oper} {site : Nat} {next : Act → World → Prop} {Q : Exit → Act → World → Prop} {ρ : Type}

/-- What holds wherever an operation leads holds. -/
theorem wp_real {p : Prop} (h : o.wp P a w (fun _ _ => p) (fun _ _ _ => False)) : p := by
  unfold Oper.wp at h
  generalize (execOp a.eval o).run P w = r at h
  cases r with
  | ok n w' =>
    cases n <;> simp only [Oper.upon] at h
    case value => exact h
    case skip => exact h
    case defer => exact h
    case enter f args =>
      obtain ⟨e, w'', fr, hR, _⟩ := h []
      cases e with
      | returned v => exact hR
      | panicked c => exact hR.elim
      | outgrown => obtain ⟨_, _, h⟩ := hR; exact h.elim
    case row r args =>
      obtain ⟨v, w'', hR, _⟩ := h (default : Frame) []
      exact hR
  | halt x w' => cases x <;> simp only [Oper.upon] at h
theorem step_real (hT : TsOk P T) (hO : OOk P O) {dr : Bool} {K : St → Option ρ} {r : ρ} (h : step T O dr site o st K = some r) (hR : R F g st a w) (hf : Fresh site g st) :
    ∃ st' g' a' w', K st' = some r ∧ R F g' st' a' w' ∧ Keeps site g g' st st' :=
  wp_real (P := P) (o := o) (a := a) (w := w) (step_sound hT hO h hR hf fun st' g' a' w' h1 h2 h3 => ⟨st', g', a', w', h1, h2, h3⟩)

/-! ### Guards -/
def Wants (all : List Oper) (o : Oper) (st : St) (b : Bool) : Prop := match o.guard with
  | none => b = true
  | some (j, want) => ∃ d, (all[j]?).bind (·.dst) = some d ∧ ((∃ c, st.tmps[d]? = some (.u (.x (.bool c))) ∧ b = (c == want)) ∨ (∃ us, st.tmps[d]? = some (.tup us) ∧ b = false))
theorem put_same {d : Nat} {v : V} (h : st.tmps[d]? = some v) : st.put (some d) v = st := by
  have : st.tmps.set d v = st.tmps := by
    apply List.ext_getElem?
    intro i
    rw [List.getElem?_set]
    split
    · rename_i e
      subst e
      obtain ⟨hlt, _⟩ := List.getElem?_eq_some_iff.1 h
      rw [if_pos hlt, h]
    · rfl
  show ({ st with tmps := st.tmps.set d v } : St) = st
  rw [this]
theorem guarded_iff {all : List Oper} {yes no : St → Option ρ} {r : ρ} : guarded all o st yes no = some r ↔ (Wants all o st true ∧ yes st = some r) ∨ (Wants all o st false ∧ no st = some r) := by
  unfold guarded Wants
  cases hg : o.guard with
  | none => simp
  | some p =>
    obtain ⟨j, want⟩ := p
    simp only
    cases hd : (all[j]?).bind (·.dst) with
    | none => simp
    | some d =>
      simp only [Option.some.injEq, exists_eq_left']
      cases hv : st.tmps[d]? with
      | none => simp
      | some v =>
        cases v with
        | tup us => simp
        | u u =>
          cases u with
          | agg => simp
          | x x =>
            cases x <;> simp
            rename_i b
            cases b <;> cases want <;> simp [put_same hv]
theorem wants_real {all : List Oper} {ops : Array Oper} (ha : all = ops.toList) (hR : R F g st a w) {b : Bool} (h : Wants all o st b) : Region.wanted o (yielded ops a.tmps) = b := by
  subst ha
  unfold Wants at h
  unfold Region.wanted
  split at h
  · rename_i hg
    rw [hg]
    exact h.symm
  · rename_i j want hg
    rw [hg]
    obtain ⟨d, hd, h⟩ := h
    rw [Array.getElem?_toList] at hd
    simp only
    unfold yielded
    rw [hd]
    simp only [Option.bind_some]
    rcases h with ⟨c, hc, rfl⟩ | ⟨us, hc, rfl⟩
    · obtain ⟨u, hu, hv⟩ := hR.s.tmps d _ hc
      rw [hu]
      have : u = .bool c := hv
      subst this
      cases c <;> cases want <;> rfl
    · obtain ⟨u, hu, hv⟩ := hR.s.tmps d _ hc
      rw [hu]
      obtain ⟨vs, rfl, _⟩ := hv
      rfl

/-! ### Names of a region -/
theorem mine_iff {s n : Nat} (h : Mine s n) (s' : Nat) (hne : s ≠ s') (hs : s < 1024064) (hs' : s' < 1024064) : ¬ Mine s' n := by
  rintro ⟨j', hj', h'⟩
  obtain ⟨j, hj, h⟩ := h
  unfold nm high at *
  omega
theorem mine_nm {s j : Nat} (h : j < 16) : Mine s (nm s j) := ⟨j, h, .inl rfl⟩
theorem mine_nmH {s j : Nat} (h : j < 16) : Mine s (nm s j + high) := ⟨j, h, .inr rfl⟩
theorem Keeps.fresh {g' : Gh} {st' : St} (k : Keeps site g g' st st') {s : Nat} (hne : s ≠ site) (hs : s < 1024064) (hs' : site < 1024064) (hf : Fresh s g st) : Fresh s g' st' :=
  ⟨fun j hj => k.own _ (mine_iff (mine_nm hj) site hne hs hs') (hf.own j hj), fun j hj => k.tab _ (mine_iff (mine_nm hj) site hne hs hs') (hf.tab j hj), fun j hj => k.tb _ (mine_iff (mine_nm hj) site hne hs hs') (hf.tb j hj), fun j hj => k.own _ (mine_iff (mine_nmH hj) site hne hs hs') (hf.ownH j hj)⟩
theorem region_fresh {rid i : Nat} (hi : i < 64) (hr : rid < 16000) : Fresh (64 * rid + i) (g.clr (ofRegion rid)) (st.clr (ofRegion rid)) := by
  have h1 : ∀ j, j < 16 → ofRegion rid (nm (64 * rid + i) j) = true := fun j hj => by
    unfold ofRegion nm high
    simp only [Bool.and_eq_true, Nat.blt_eq, Nat.ble_eq]
    omega
  have h2 : ∀ j, j < 16 → ofRegion rid (nm (64 * rid + i) j + high) = true := fun j hj => by
    unfold ofRegion nm high
    simp only [Bool.and_eq_true, Nat.blt_eq, Nat.ble_eq]
    omega
  refine ⟨fun j hj => ?_, fun j hj => ?_, fun j hj => ?_, fun j hj => ?_⟩
  · simp only [Gh.clr, h1 j hj, cond_true]
  · simp only [Gh.clr, h1 j hj, cond_true]
  · show lk _ _ = none
    simp only [St.clr]
    rw [lk_filter (ofRegion rid) (List.map (X.clr (ofRegion rid))), h1 j hj]
    rfl
  · simp only [Gh.clr, h2 j hj, cond_true]

theorem put_tb {dst : Option Tmp} {v : V} : (st.put dst v).tb = st.tb := by cases dst <;> rfl
theorem Fresh.put {s : Nat} {dst : Option Tmp} {v : V} (h : Fresh s g st) : Fresh s g (st.put dst v) := ⟨h.own, h.tab, fun j hj => by rw [put_tb]; exact h.tb j hj, h.ownH⟩

/-! ### The order of the text -/
def Sites (rid : Nat) (L : List (Nat × Oper)) : Prop := rid < 16000 ∧ (∀ p ∈ L, p.1 < 64) ∧ (L.map (·.1)).Nodup
theorem Sites.tail {rid : Nat} {p : Nat × Oper} {L : List (Nat × Oper)} (h : Sites rid (p :: L)) : Sites rid L := ⟨h.1, fun q hq => h.2.1 q (List.mem_cons_of_mem _ hq), by have := h.2.2; simp only [List.map_cons, List.nodup_cons] at this; exact this.2⟩
theorem opsText (hT : TsOk P T) (hO : OOk P O) {dr : Bool} {rid : Nat} {ops : Array Oper} {K : St → Option ρ} {r : ρ}
    (hQ : ∀ st g a w, K st = some r → R F g st a w → Q .normal a w) : ∀ (L : List (Nat × Oper)) (st : St) (g : Gh) (a : Act) (w : World), Sites rid L → (∀ p ∈ L, ops[p.1]? = some p.2) → R F g st a w → (∀ p ∈ L, Fresh (64 * rid + p.1) g st) →
      opsRun T O dr rid ops.toList L st K = some r → wpOps P ops Q (L.map (·.1)) a w
  | [], st, g, a, w, _, _, hR, _, h => hQ st g a w h hR
  | (i, o) :: L, st, g, a, w, hS, hL, hR, hf, h => by
    have ho : ops[i]? = some o := hL (i, o) (List.mem_cons_self ..)
    have hi : i < 64 := hS.2.1 (i, o) (List.mem_cons_self ..)
    have hnd := hS.2.2
    simp only [List.map_cons, List.nodup_cons] at hnd
    have hsite : ∀ p ∈ L, 64 * rid + p.1 ≠ 64 * rid + i ∧ 64 * rid + p.1 < 1024064 := fun p hp => by
      have h1 := hS.2.1 p (List.mem_cons_of_mem _ hp)
      have h2 := hS.1
      have h3 : p.1 ≠ i := fun e => hnd.1 (e ▸ List.mem_map.2 ⟨p, hp, rfl⟩)
      omega
    have hsi : 64 * rid + i < 1024064 := by have := hS.1; omega
    simp only [List.map_cons, wpOps, ho]
    simp only [opsRun] at h
    rcases guarded_iff.1 h with ⟨hw, h⟩ | ⟨hw, h⟩
    · rw [wants_real rfl hR hw, if_pos rfl]
      refine .inl (step_sound hT hO h hR (hf _ (List.mem_cons_self ..)) fun st' g' a' w' h1 h2 h3 => ?_)
      exact opsText hT hO hQ L st' g' a' w' hS.tail (fun p hp => hL p (List.mem_cons_of_mem _ hp)) h2 (fun p hp => h3.fresh (hsite p hp).1 (hsite p hp).2 hsi (hf p (List.mem_cons_of_mem _ hp))) h1
    · rw [wants_real rfl hR hw, if_neg (by simp)]
      exact opsText hT hO hQ L _ g _ w hS.tail (fun p hp => hL p (List.mem_cons_of_mem _ hp)) (hR.put (v := .tup []) (u := undef) ⟨[], rfl, trivial⟩ o.dst) (fun p hp => (hf p (List.mem_cons_of_mem _ hp)).put) h

theorem numbered_mem {n : Nat} {l : List Oper} {p : Nat × Oper} (h : p ∈ numbered n l) : n ≤ p.1 ∧ p.1 < n + l.length ∧ l[p.1 - n]? = some p.2 := by
  induction l generalizing n with
  | nil => cases h
  | cons o l ih =>
    simp only [numbered, List.mem_cons] at h
    rcases h with rfl | h
    · simp
    · obtain ⟨h1, h2, h3⟩ := ih h
      simp only [List.length_cons]
      refine ⟨by omega, by omega, ?_⟩
      rw [show p.1 - n = (p.1 - (n + 1)) + 1 by omega, List.getElem?_cons_succ]
      exact h3
theorem numbered_fst (n : Nat) (l : List Oper) : (numbered n l).map (·.1) = List.range' n l.length := by
  induction l generalizing n with
  | nil => rfl
  | cons o l ih => simp only [numbered, List.map_cons, ih, List.length_cons, List.range'_succ]
theorem numbered_sites {rid : Nat} {l : List Oper} (h1 : l.length ≤ 64) (h2 : rid < 16000) : Sites rid (numbered 0 l) :=
  ⟨h2, fun p hp => by have := numbered_mem hp; omega, by rw [numbered_fst]; exact List.nodup_range'⟩
end
end Go.BV

/-
  Regions: orders that are drawn.
-/
namespace Go.BV
section
variable {P : Program} {T : TypeId → TI} {O : FuncId → Option Ora} {F : Fx} {g : Gh} {st : St} {a : Act} {w : World} {o : Oper} {site : Nat} {next : Act → World → Prop} {Q : Exit → Act → World → Prop} {ρ : Type}

/-! ### What an operation's answer hangs on -/
def Agree (op : Op) (e : Operand → V) (tb tb' : Nat → Option (List X)) : Prop := ∀ x ∈ op.operands, ∀ n k, e x = .u (.x (.ptr n k)) → tb n = tb' n
theorem loadX_congr {tb tb' : Nat → Option (List X)} {x : X} {n : Nat} {b : Bool} (h : ∀ m k, x = .ptr m k → tb m = tb' m) : loadX tb x n b = loadX tb' x n b := by
  cases x <;> first | rfl | simp only [loadX, h _ _ rfl]
theorem toDU_congr {tb tb' : Nat → Option (List X)} {u : U} (h : ∀ m k, u = .x (.ptr m k) → tb m = tb' m) : toDU tb u = toDU tb' u := by
  cases u with
  | agg => rfl
  | x x => cases x <;> first | rfl | simp only [toDU, h _ _ rfl]
theorem toDUs_congr {tb tb' : Nat → Option (List X)} : ∀ {l : List V}, (∀ x ∈ l, ∀ m k, x = .u (.x (.ptr m k)) → tb m = tb' m) → toDUs tb l = toDUs tb' l
  | [], _ => rfl
  | .tup _ :: _, _ => rfl
  | .u u :: l, h => by
    unfold toDUs
    rw [toDU_congr (tb := tb) (tb' := tb') fun m k e => h _ (List.mem_cons_self ..) m k (by rw [e]), toDUs_congr fun x hx => h x (List.mem_cons_of_mem _ hx)]
theorem uToks_empty {tb tb' : Nat → Option (List X)} {u : U} : (uToks tb u).isEmpty = (uToks tb' u).isEmpty := by
  cases u with
  | agg => rfl
  | x x => cases x <;> rfl
theorem app_empty {α : Type} (l m : List α) : (l ++ m).isEmpty = (l.isEmpty && m.isEmpty) := by cases l <;> rfl
theorem vToks_empty {tb tb' : Nat → Option (List X)} : ∀ {l : List V}, (vToks tb l).isEmpty = (vToks tb' l).isEmpty
  | [] => rfl
  | .tup _ :: l => by unfold vToks; exact vToks_empty
  | .u u :: l => by unfold vToks; rw [app_empty, app_empty, uToks_empty (tb := tb) (tb' := tb'), vToks_empty (tb := tb) (tb' := tb')]

theorem cvD_congr {op : Op} {e e' : Operand → V} {tb tb' : Nat → Option (List X)} (he : ∀ x ∈ op.operands, e x = e' x) (ht : Agree op e tb tb') : cvD T O site op e tb = cvD T O site op e' tb' := by
  unfold cvD
  have pairs : ∀ ps : Array (Nat × Operand), (∀ x ∈ (ps.toList.map (·.2)), e x = e' x) → (ps.toList.map fun (i, x) => (i, e x)) = ps.toList.map fun (i, x) => (i, e' x) := fun ps h =>
    List.map_congr_left fun p hp => by
      obtain ⟨i, x⟩ := p
      simp only [h x (List.mem_map.2 ⟨(i, x), hp, rfl⟩)]
  cases op <;> simp only [Op.operands] at he <;> unfold Agree at ht <;> simp only [Op.operands] at ht <;> try (simp only [cv]; done)
  case build t ps => simp only [cv]; rw [pairs ps fun x hx => he x (by simpa using hx)]
  case buildSlice t n ps => simp only [cv]; rw [pairs ps fun x hx => he x (by simpa using hx)]
  case makeFunc fn first caps =>
    cases fn <;> simp only [cv]
    rw [List.map_congr_left (g := e') fun x hx => he x (by simp at hx; simp [hx])]
  case load t x =>
    simp only [cv]
    rw [← he x (by simp)]
    split
    · rename_i y hy
      rw [loadX_congr (tb := tb) (tb' := tb') fun m k h => ht x (by simp) m k (by rw [hy, h])]
    · rfl
  case slice t x lo hi mx => simp only [cv]; cases lo <;> cases hi <;> cases mx <;> simp_all
  case call c =>
    obtain ⟨callee, args, tys⟩ := c
    have hargs : args.toList.map e = args.toList.map e' := List.map_congr_left fun x hx => he x (by simp at hx; simp [Call.operands, hx])
    cases callee with
    | invoke => rfl
    | builtin b => cases b <;> simp only [cv, hargs]
    | value f =>
      simp only [cv]
      rw [← he f (by simp [Call.operands]), ← hargs]
      have h1 : (vToks tb (args.toList.map e)).isEmpty = (vToks tb' (args.toList.map e)).isEmpty := vToks_empty
      have h2 : toDUs tb (args.toList.map e) = toDUs tb' (args.toList.map e) := toDUs_congr fun x hx m k hxe => by
        obtain ⟨y, hy, rfl⟩ := List.mem_map.1 hx
        exact ht y (by simp at hy; simp [Call.operands, hy]) m k hxe
      rw [h1, h2]
  all_goals (simp only [cv]; simp_all)

def Calm (T : TypeId → TI) (O : FuncId → Option Ora) (site : Nat) (o : Oper) (st : St) : Prop := wild (ρ := St) T O site o st (fun s => some s) = none
theorem wild_congr {ρ' : Type} {st' : St} {K : St → Option ρ} {K' : St → Option ρ'} (hs : isStore o = false) (he : ∀ x ∈ o.op.operands, ev st x = ev st' x) (h : wild T O site o st K = none) : wild T O site o st' K' = none := by
  unfold wild at *
  split at h
  · cases h
  · cases h
  · rename_i t x lo hi ho
    rw [ho] at he
    simp only [Op.operands] at he
    try simp only [ho]
    rw [← he x (by simp)]
    split at h
    · cases h
    · rfl
  · rename_i f args tys ho
    rw [ho] at he
    simp only [Op.operands] at he
    try simp only [ho]
    have hargs : args.toList.map (ev st) = args.toList.map (ev st') := List.map_congr_left fun x hx => he x (by simp at hx; simp [Call.operands, hx])
    rw [← he f (by simp [Call.operands]), ← hargs]
    split at h
    · rename_i k caps hk
      split at h
      · rename_i ora hora
        rw [vToks_empty (tb := st'.tb) (tb' := st.tb)]
        cases hb : (caps.isEmpty && ora.md.all Md.isVal && (!ora.weak || (vToks st.tb (args.toList.map (ev st))).isEmpty))
        · rw [hb] at h; cases h
        · rfl
      · rfl
    · rfl
  · rename_i args tys ho
    rw [ho] at he
    simp only [Op.operands] at he
    try simp only [ho]
    have hargs : args.toList.map (ev st) = args.toList.map (ev st') := List.map_congr_left fun x hx => he x (by simp at hx; simp [Call.operands, hx])
    rw [← hargs]
    split at h
    · cases h
    · rfl
  · rfl

/-- One operation of a drawn region, no store. -/
def OneR (T : TypeId → TI) (O : FuncId → Option Ora) (site : Nat) (all : List Oper) (o : Oper) (st st' : St) : Prop :=
  (Wants all o st true ∧ Calm T O site o st ∧ ∃ v x, cvD T O site o.op (ev st) st.tb = some (v, x) ∧ st' = st.out site o.dst v x) ∨ (Wants all o st false ∧ st' = st.put o.dst (.tup []))
theorem step_iff (hO : OOk P O) (hs : isStore o = false) {K : St → Option ρ} {r : ρ} : step T O true site o st K = some r ↔ Calm T O site o st ∧ ∃ v x, cvD T O site o.op (ev st) st.tb = some (v, x) ∧ K (st.out site o.dst v x) = some r := by
  unfold step
  rw [cv_nat hO.nat]
  cases hw : wild T O site o st K with
  | some rr =>
    simp only [hs, Bool.not_false, Bool.and_self, cond_true]
    constructor
    · intro h; cases h
    · rintro ⟨h, _⟩
      have := wild_congr (ρ' := ρ) (K' := K) hs (fun x _ => rfl) h
      rw [hw] at this; cases this
  | none =>
    constructor
    · intro h
      obtain ⟨⟨v, x⟩, h1, h2⟩ := Option.bind_eq_some_iff.1 h
      exact ⟨wild_congr hs (fun x _ => rfl) hw, v, x, h1, h2⟩
    · rintro ⟨_, v, x, h1, h2⟩
      exact Option.bind_eq_some_iff.2 ⟨(v, x), h1, h2⟩
theorem opsRun_iff (hO : OOk P O) {rid i : Nat} {all : List Oper} {L : List (Nat × Oper)} (hs : isStore o = false) {K : St → Option ρ} {r : ρ} :
    opsRun T O true rid all ((i, o) :: L) st K = some r ↔ ∃ st', OneR T O (64 * rid + i) all o st st' ∧ opsRun T O true rid all L st' K = some r := by
  simp only [opsRun]
  rw [guarded_iff]
  constructor
  · rintro (⟨h1, h2⟩ | ⟨h1, h2⟩)
    · obtain ⟨h3, v, x, h4, h5⟩ := (step_iff hO hs).1 h2
      exact ⟨_, .inl ⟨h1, h3, v, x, h4, rfl⟩, h5⟩
    · exact ⟨_, .inr ⟨h1, rfl⟩, h2⟩
  · rintro ⟨st', (⟨h1, h3, v, x, h4, rfl⟩ | ⟨h1, rfl⟩), h5⟩
    · exact .inl ⟨h1, (step_iff hO hs).2 ⟨h3, v, x, h4, h5⟩⟩
    · exact .inr ⟨h1, h5⟩

/-! ### Two that are apart -/
/-- What an operation does to the state. -/
def St.chg (st : St) (site : Nat) (dst : Option Tmp) (v : V) (ext : Option (List X)) : St := st.out site dst v ext
theorem out_tmps {dst : Option Tmp} {v : V} {ext : Option (List X)} {t : Nat} (h : dst ≠ some t) : (st.out site dst v ext).tmps[t]? = st.tmps[t]? := by
  have : ∀ st : St, (st.put dst v).tmps[t]? = st.tmps[t]? := fun st => by
    cases dst with
    | none => rfl
    | some d => simp only [St.put]; rw [List.getElem?_set_ne]; intro e; exact h (by rw [e])
  cases ext with
  | none => exact this st
  | some cs => exact this _
theorem out_ev {dst : Option Tmp} {v : V} {ext : Option (List X)} {x : Operand} (h : ∀ d, dst = some d → x ≠ .tmp d) : ev (st.out site dst v ext) x = ev st x := by
  cases x with
  | tmp t =>
    show St.get _ t = St.get _ t
    simp only [St.get, List.getD_eq_getElem?_getD]
    rw [out_tmps fun e => h t e rfl]
  | _ => rfl
theorem out_wants {all : List Oper} {ops : Array Oper} (ha : all = ops.toList) {dst : Option Tmp} {v : V} {ext : Option (List X)} {b : Bool} (h : ∀ d, dst = some d → d ∉ o.looksAt ops) : Wants all o (st.out site dst v ext) b ↔ Wants all o st b := by
  subst ha
  unfold Wants
  cases hg : o.guard with
  | none => rfl
  | some p =>
    obtain ⟨j, want⟩ := p
    simp only
    constructor
    all_goals
      rintro ⟨d, hd, h'⟩
      have hne : dst ≠ some d := fun e => h d e (by rw [Array.getElem?_toList] at hd; simp [Oper.looksAt, hg, hd])
      refine ⟨d, hd, ?_⟩
      simpa [out_tmps hne] using h'
theorem out_tb_ne {dst : Option Tmp} {v : V} {ext : Option (List X)} {n : Nat} (h : n ≠ nm site 0) : (st.out site dst v ext).tb n = st.tb n := by
  cases ext with
  | none => show (st.put dst v).tb n = _; rw [put_tb]
  | some cs =>
    show (St.put { st with tabs := insl st.tabs (nm site 0) cs } dst v).tb n = _
    rw [put_tb]
    exact lk_insl_ne _ _ _ _ h
theorem put_out : st.put o.dst (.tup []) = st.out site o.dst (.tup []) none := rfl
theorem insl_comm {α : Type} {m n : Nat} {x y : α} (h : m ≠ n) : ∀ l : List (Nat × α), insl (insl l m x) n y = insl (insl l n y) m x
  | [] => by
    simp only [insl]
    rcases Nat.lt_or_gt_of_ne h with h' | h'
    · have h1 : Nat.blt n m = false := by rw [Bool.eq_false_iff]; simp; omega
      have h2 : Nat.blt m n = true := by simpa using h'
      simp [h1, h2]
    · have h1 : Nat.blt m n = false := by rw [Bool.eq_false_iff]; simp; omega
      have h2 : Nat.blt n m = true := by simpa using h'
      simp [h1, h2]
  | (k, z) :: l => by
    have ih := insl_comm (x := x) (y := y) h l
    have bf : ∀ p q, ¬ p < q → Nat.blt p q = false := fun p q hh => by rw [Bool.eq_false_iff]; simpa using hh
    have bt : ∀ p q, p < q → Nat.blt p q = true := fun p q hh => by simpa using hh
    by_cases h1 : m < k <;> by_cases h2 : n < k
    · simp only [insl, bt _ _ h1, bt _ _ h2, cond_true]
      rcases Nat.lt_or_gt_of_ne h with h' | h'
      · simp only [bf n m (by omega), bt _ _ h', cond_true, cond_false, insl, bt _ _ h2]
      · simp only [bf m n (by omega), bt _ _ h', cond_true, cond_false, insl, bt _ _ h1]
    · simp only [insl, bt _ _ h1, bf _ _ h2, cond_true, cond_false, bf n m (by omega)]
    · simp only [insl, bt _ _ h2, bf _ _ h1, cond_true, cond_false, bf m n (by omega)]
    · simp only [insl, bf _ _ h1, bf _ _ h2, cond_false, ih]
def setd : Option Tmp → V → List V → List V
  | some d, v, l => l.set d v
  | none, _, l => l
theorem put_setd (st : St) (d : Option Tmp) (v : V) : st.put d v = { st with tmps := setd d v st.tmps } := by cases d <;> rfl
theorem setd_comm {d d' : Option Tmp} {v v' : V} (hd : ∀ k, d = some k → d' ≠ some k) (l : List V) : setd d' v' (setd d v l) = setd d v (setd d' v' l) := by
  cases d with
  | none => rfl
  | some k => cases d' with
    | none => rfl
    | some k' => exact List.set_comm _ _ (fun e => hd k rfl (by rw [e]))
theorem out_comm {s s' : Nat} {d d' : Option Tmp} {v v' : V} {e e' : Option (List X)} (hd : ∀ k, d = some k → d' ≠ some k) (hs : nm s 0 ≠ nm s' 0) : (st.out s d v e).out s' d' v' e' = (st.out s' d' v' e').out s d v e := by
  cases e <;> cases e' <;> simp only [St.out, put_setd, setd_comm hd]
  rw [insl_comm hs]
theorem one_swap {x : Oper} {sx si : Nat} {ops : Array Oper} {all : List Oper} (ha : all = ops.toList) {st1 st2 : St} (hap : x.apart ops o = true) (hsx : isStore x = false) (hso : isStore o = false) (hne : nm sx 0 ≠ nm si 0) (hR : R F g st a w) (fx : Fresh sx g st) (fi : Fresh si g st)
    (h1 : OneR T O sx all x st st1) (h2 : OneR T O si all o st1 st2) : ∃ st1', OneR T O si all o st st1' ∧ OneR T O sx all x st1' st2 := by
  obtain ⟨p1, p2, p3⟩ := Oper.apart_spec hap
  have hsome : ∃ v e, st1 = st.out sx x.dst v e := by
    rcases h1 with ⟨_, _, v, e, _, h⟩ | ⟨_, h⟩
    · exact ⟨v, e, h⟩
    · exact ⟨_, none, h⟩
  obtain ⟨v, e, rfl⟩ := hsome
  have hsome2 : ∃ v' e', st2 = (st.out sx x.dst v e).out si o.dst v' e' := by
    rcases h2 with ⟨_, _, v, e, _, h⟩ | ⟨_, h⟩
    · exact ⟨v, e, h⟩
    · exact ⟨_, none, h⟩
  have look : ∀ {y z : Oper}, (∀ d, y.dst = some d → d ∉ z.looksAt ops) → ∀ q ∈ z.op.operands, ∀ d, y.dst = some d → q ≠ .tmp d := fun {y z} hyz q hq d hd e => by
    subst e
    exact hyz d hd (List.mem_append_left _ (List.mem_filterMap.2 ⟨.tmp d, by simpa using hq, rfl⟩))
  have hev : ∀ q ∈ o.op.operands, ev (st.out sx x.dst v e) q = ev st q := fun q hq => out_ev (look p1 q hq)
  have hag : Agree o.op (ev (st.out sx x.dst v e)) (st.out sx x.dst v e).tb st.tb := fun q hq n k hk => by
    rw [hev q hq] at hk
    obtain ⟨b, vs, ht, _⟩ := ev_x hR hk
    refine out_tb_ne fun en => ?_
    rw [en, fx.tab 0 (by omega)] at ht
    cases ht
  have key2 : ∀ v' e', st2 = (st.out sx x.dst v e).out si o.dst v' e' → OneR T O si all o st (st.out si o.dst v' e') → ∃ st1', OneR T O si all o st st1' ∧ OneR T O sx all x st1' st2 := by
    intro v' e' he2 ho1
    refine ⟨_, ho1, ?_⟩
    rw [he2, out_comm p2 hne]
    have hev2 : ∀ q ∈ x.op.operands, ev st q = ev (st.out si o.dst v' e') q := fun q hq => (out_ev (look p3 q hq)).symm
    rcases h1 with ⟨q1, q2, v1, e1, q3, q4⟩ | ⟨q1, q4⟩
    · refine .inl ⟨(out_wants ha p3).2 q1, wild_congr hsx hev2 q2, v1, e1, ?_, ?_⟩
      · rw [← q3]
        refine (cvD_congr hev2 fun q hq n k hk => ?_).symm
        obtain ⟨b, vs, ht, _⟩ := ev_x hR hk
        refine (out_tb_ne fun en => ?_).symm
        rw [en, fi.tab 0 (by omega)] at ht
        cases ht
      · rw [← out_comm p2 hne, q4, out_comm p2 hne]
    · refine .inr ⟨(out_wants ha p3).2 q1, ?_⟩
      rw [← out_comm p2 hne, q4, put_out (site := sx), out_comm p2 hne]
      rfl
  rcases h2 with ⟨q1, q2, v1, e1, q3, q4⟩ | ⟨q1, q4⟩
  · exact key2 v1 e1 q4 (.inl ⟨(out_wants ha p1).1 q1, wild_congr hso hev q2, v1, e1, by rw [← q3]; exact (cvD_congr hev hag).symm, rfl⟩)
  · exact key2 (.tup []) none q4 (.inr ⟨(out_wants ha p1).1 q1, rfl⟩)
end
end Go.BV

/-
  Regions whose order is drawn.
-/
namespace Go.BV
section
variable {P : Program} {T : TypeId → TI} {O : FuncId → Option Ora} {F : Fx} {g : Gh} {st : St} {a : Act} {w : World} {o : Oper} {site : Nat} {next : Act → World → Prop} {Q : Exit → Act → World → Prop} {ρ : Type}

theorem maskOf_bit {acc : List Nat} {i : Nat} : ∀ (l : List Edge) (s : Nat), (l.foldl (fun s e => bif Region.binds .any e then s ||| (2 ^ e.on ||| acc.getD e.on 0) else s) s).testBit i = true →
    s.testBit i = true ∨ ∃ e ∈ l, Region.binds .any e = true ∧ (i = e.on ∨ (acc.getD e.on 0).testBit i = true)
  | [], s, h => .inl h
  | e :: l, s, h => by
    simp only [List.foldl_cons] at h
    rcases maskOf_bit l _ h with h | ⟨e', he', h⟩
    · cases hb : Region.binds .any e
      · rw [hb] at h; exact .inl h
      · rw [hb] at h
        simp only [cond_true, Nat.testBit_or, Bool.or_eq_true] at h
        rcases h with h | h | h
        · exact .inl h
        · refine .inr ⟨e, List.mem_cons_self .., hb, .inl ?_⟩
          rw [Nat.testBit_two_pow] at h
          exact (of_decide_eq_true h).symm
        · exact .inr ⟨e, List.mem_cons_self .., hb, .inr h⟩
    · exact .inr ⟨e', List.mem_cons_of_mem _ he', h⟩
theorem masks_app : ∀ (l : List Oper) (acc : List Nat), ∃ m, masks l acc = acc ++ m
  | [], acc => ⟨[], by simp [masks]⟩
  | o :: l, acc => by
    obtain ⟨m, h⟩ := masks_app l (acc ++ [maskOf o.after.toList acc])
    exact ⟨maskOf o.after.toList acc :: m, by rw [masks, h]; simp⟩
theorem masks_bit : ∀ (l : List Oper) (acc : List Nat) (t : Nat) (o : Oper), l[t]? = some o → ∀ i, ((masks l acc).getD (acc.length + t) 0).testBit i = true →
    ∃ e ∈ o.after, Region.binds .any e = true ∧ (i = e.on ∨ ((masks l acc).getD e.on 0).testBit i = true)
  | [], acc, t, o, h, i, _ => by simp at h
  | o :: l, acc, 0, o', h, i, hb => by
    simp at h
    subst h
    obtain ⟨m, hm⟩ := masks_app l (acc ++ [maskOf o.after.toList acc])
    rw [masks, hm] at hb ⊢
    simp only [List.append_assoc, List.singleton_append, Nat.add_zero, List.getD_eq_getElem?_getD] at hb
    rw [List.getElem?_append_right (Nat.le_refl _)] at hb
    simp only [Nat.sub_self, List.getElem?_cons_zero, Option.getD_some] at hb
    rcases maskOf_bit _ 0 hb with h0 | ⟨e, he, h1, h2⟩
    · simp at h0
    · refine ⟨e, by simpa using he, h1, ?_⟩
      rcases h2 with h2 | h2
      · exact .inl h2
      · refine .inr ?_
        simp only [List.getD_eq_getElem?_getD] at h2 ⊢
        by_cases hlt : e.on < acc.length
        · rw [List.append_assoc, List.getElem?_append_left hlt]; exact h2
        · rw [List.getElem?_eq_none (by omega)] at h2; simp at h2
  | o :: l, acc, t + 1, o', h, i, hb => by
    have := masks_bit l (acc ++ [maskOf o.after.toList acc]) t o' (by simpa using h) i (by
      rw [masks] at hb
      simp only [List.length_append, List.length_singleton]
      rw [show acc.length + 1 + t = acc.length + (t + 1) by omega]
      exact hb)
    simpa only [masks] using this

def Closed (ops : Array Oper) (listed : Array Bool) : Prop := ∀ (i : Nat) (o : Oper), ops[i]? = some o → listed.getD i false = true → ∀ e ∈ o.after, Region.binds .any e = true → listed.getD e.on false = true
theorem before_listed {ops : Array Oper} {listed : Array Bool} (hback : ∀ (j : Nat) (o : Oper), ops[j]? = some o → ∀ e ∈ o.after, e.on < j) (hc : Closed ops listed) :
    ∀ (n j : Nat), j < n → ∀ o, ops[j]? = some o → (∀ e ∈ o.after, Region.binds .any e = true → listed.getD e.on false = true) → ∀ i, ((masks ops.toList []).getD j 0).testBit i = true → listed.getD i false = true := by
  intro n
  induction n with
  | zero => intro j h; omega
  | succ n ih =>
    intro j hj o ho hall i hb
    obtain ⟨e, he, h1, h2⟩ := masks_bit ops.toList [] j o (by rw [Array.getElem?_toList]; exact ho) i (by simpa using hb)
    have hl := hall e he h1
    rcases h2 with rfl | h2
    · exact hl
    · have hlt := hback j o ho e he
      have hsz := (Array.getElem?_eq_some_iff.1 ho).1
      have ho' : ops[e.on]? = some ops[e.on] := Array.getElem?_eq_getElem (by omega)
      exact ih e.on (by omega) _ ho' (hc _ _ ho' hl) i h2

theorem drawOk_spec {ops : Array Oper} (h : drawOk ops = true) :
    Region.noSelect ops = true ∧ (∀ (j : Nat) (o : Oper), ops[j]? = some o → ∀ e ∈ o.after, e.on < j) ∧
    ∀ (i j : Nat) (x y : Oper), ops[i]? = some x → ops[j]? = some y → i < j → ((masks ops.toList []).getD j 0).testBit i = true ∨ (isStore x = false ∧ isStore y = false ∧ x.apart ops y = true) := by
  unfold drawOk at h
  simp only [Bool.and_eq_true, List.all_eq_true, List.mem_range] at h
  obtain ⟨⟨h1, h2⟩, h3⟩ := h
  refine ⟨h1, fun j o ho e he => ?_, fun i j x y hx hy hij => ?_⟩
  · have := h3 j (Array.getElem?_eq_some_iff.1 ho).1
    rw [ho] at this
    simp only at this
    have := Array.all_eq_true_iff_forall_mem.1 this e he
    simpa using this
  · have := h2 j (Array.getElem?_eq_some_iff.1 hy).1 i hij
    unfold pairOk at this
    rw [hx, hy] at this
    simp only [Bool.or_eq_true, Bool.and_eq_true, Bool.not_eq_true'] at this
    rcases this with this | this
    · exact .inl this
    · exact .inr ⟨this.1.1, this.1.2, this.2⟩

theorem one_real (hT : TsOk P T) (hO : OOk P O) {all : List Oper} {st' : St} (hs : isStore o = false) (hR : R F g st a w) (hf : Fresh site g st) (h : OneR T O site all o st st') : ∃ g' a' w', R F g' st' a' w' ∧ Keeps site g g' st st' := by
  rcases h with ⟨_, h2, v, x, h3, rfl⟩ | ⟨_, rfl⟩
  · have h := (step_iff hO hs (K := fun s => some s)).2 ⟨h2, v, x, h3, rfl⟩
    obtain ⟨s, g', a', w', e, h5, h6⟩ := step_real hT hO h hR hf
    injection e with e
    subst e
    exact ⟨g', a', w', h5, h6⟩
  · exact ⟨g, _, w, hR.put (v := .tup []) (u := undef) ⟨[], rfl, trivial⟩ o.dst, fun _ _ h => h, fun _ _ h => h, fun n _ h => by rw [tb_put]; exact h⟩

theorem opsMove (hT : TsOk P T) (hO : OOk P O) {rid i : Nat} {ops : Array Oper} {K : St → Option ρ} {r : ρ} {l2 : List (Nat × Oper)} (hso : isStore o = false) :
    ∀ (l1 : List (Nat × Oper)) (st : St) (g : Gh) (a : Act) (w : World), Sites rid (l1 ++ (i, o) :: l2) → R F g st a w → (∀ p ∈ l1 ++ (i, o) :: l2, Fresh (64 * rid + p.1) g st) → (∀ p ∈ l1, isStore p.2 = false ∧ p.2.apart ops o = true) →
      opsRun T O true rid ops.toList (l1 ++ (i, o) :: l2) st K = some r → opsRun T O true rid ops.toList ((i, o) :: (l1 ++ l2)) st K = some r
  | [], st, g, a, w, _, _, _, _, h => h
  | (j, x) :: l1, st, g, a, w, hS, hR, hf, hap, h => by
    have hx := hap (j, x) (List.mem_cons_self ..)
    have hj : j < 64 := hS.2.1 (j, x) (List.mem_cons_self ..)
    have hnd := hS.2.2
    simp only [List.cons_append, List.map_cons, List.nodup_cons] at hnd
    have hsite : ∀ p ∈ l1 ++ (i, o) :: l2, 64 * rid + p.1 ≠ 64 * rid + j ∧ 64 * rid + p.1 < 1024064 := fun p hp => by
      have h1 := hS.2.1 p (List.mem_cons_of_mem _ hp)
      have h2 := hS.1
      have h3 : p.1 ≠ j := fun e => hnd.1 (e ▸ List.mem_map.2 ⟨p, hp, rfl⟩)
      omega
    have hsj : 64 * rid + j < 1024064 := by have := hS.1; omega
    rw [List.cons_append] at h
    obtain ⟨st1, h1, h2⟩ := (opsRun_iff hO hx.1).1 h
    obtain ⟨g1, a1, w1, hR1, hk1⟩ := one_real hT hO hx.1 hR (hf (j, x) (List.mem_cons_self ..)) h1
    have h3 := opsMove hT hO hso l1 st1 g1 a1 w1 (Sites.tail hS) hR1 (fun p hp => hk1.fresh (hsite p hp).1 (hsite p hp).2 hsj (hf p (List.mem_cons_of_mem _ hp))) (fun p hp => hap p (List.mem_cons_of_mem _ hp)) h2
    obtain ⟨st2, h4, h5⟩ := (opsRun_iff hO hso).1 h3
    have hio : (i, o) ∈ l1 ++ (i, o) :: l2 := by simp
    obtain ⟨st1', h6, h7⟩ := one_swap (ops := ops) rfl hx.2 hx.1 hso (fun e => (hsite (i, o) hio).1 (by unfold nm at e; omega)) hR (hf (j, x) (List.mem_cons_self ..)) (hf (i, o) (List.mem_cons_of_mem _ hio)) h1 h4
    exact (opsRun_iff hO hso).2 ⟨st1', h6, (opsRun_iff hO hx.1).2 ⟨st2, h7, h5⟩⟩

theorem opsAny (hT : TsOk P T) (hO : OOk P O) {rid : Nat} {ops : Array Oper} {K : St → Option ρ} {r : ρ} (hd : drawOk ops = true)
    (hQ : ∀ st g a w, K st = some r → R F g st a w → Q .normal a w) : ∀ (n : Nat) (L : List (Nat × Oper)) (listed : Array Bool) (st : St) (g : Gh) (a : Act) (w : World), L.length = n → Sites rid L → (L.map (·.1)).Pairwise (· < ·) →
      (∀ p, p ∈ L ↔ ops[p.1]? = some p.2 ∧ listed.getD p.1 true = false) → listed.size = ops.size → Closed ops listed → R F g st a w → (∀ p ∈ L, Fresh (64 * rid + p.1) g st) →
      opsRun T O true rid ops.toList L st K = some r → wpAny P .any ops Q n listed a w := by
  obtain ⟨hsel, hback, hpair⟩ := drawOk_spec hd
  intro n
  induction n with
  | zero =>
    intro L listed st g a w hlen hS hp hL hsz hc hR hf h
    have hL0 : L = [] := List.length_eq_zero_iff.1 hlen
    subst hL0
    refine ⟨?_, hQ st g a w h hR⟩
    rw [List.eq_nil_iff_forall_not_mem]
    intro j hj
    obtain ⟨h0, o, ho, _⟩ := mem_ready.1 hj
    have := (hL (j, o)).2 ⟨ho, h0⟩
    cases this
  | succ n ih =>
    intro L listed st g a w hlen hS hp hL hsz hc hR hf h
    refine ⟨fun hnil => ?_, fun i hi => ?_⟩
    · cases L with
      | nil => simp at hlen
      | cons p L =>
        have hp0 := (hL p).1 (List.mem_cons_self ..)
        have : p.1 ∈ Region.ready .any ops listed := by
          refine mem_ready.2 ⟨hp0.2, p.2, hp0.1, fun e he _ => ?_⟩
          have hlt := hback p.1 p.2 hp0.1 e he
          have hps := (Array.getElem?_eq_some_iff.1 hp0.1).1
          cases hle : listed.getD e.on false
          · exfalso
            have ho' : ops[e.on]? = some ops[e.on] := Array.getElem?_eq_getElem (by omega)
            have hm := (hL (e.on, ops[e.on])).2 ⟨ho', by
              simp only [Array.getD_eq_getD_getElem?] at hle ⊢
              rw [Array.getElem?_eq_getElem (by omega)] at hle ⊢
              exact hle⟩
            simp only [List.map_cons, List.pairwise_cons] at hp
            rcases List.mem_cons.1 hm with h1 | h1
            · have : e.on = p.1 := by rw [← h1]
              omega
            · have := hp.1 e.on (List.mem_map.2 ⟨_, h1, rfl⟩)
              omega
          · rfl
        rw [hnil] at this
        cases this
    · obtain ⟨h0, o, ho, hall⟩ := mem_ready.1 hi
      have him := (hL (i, o)).2 ⟨ho, h0⟩
      obtain ⟨l1, l2, rfl⟩ := List.append_of_mem him
      have hlt : ∀ p ∈ l1, p.1 < i := fun p hp' => by
        rw [List.map_append, List.map_cons, List.pairwise_append] at hp
        exact hp.2.2 p.1 (List.mem_map.2 ⟨p, hp', rfl⟩) i (List.mem_cons_self ..)
      have hbits : ∀ p ∈ l1, isStore p.2 = false ∧ isStore o = false ∧ p.2.apart ops o = true := fun p hp' => by
        have hp1 := (hL p).1 (List.mem_append_left _ hp')
        rcases hpair p.1 i p.2 o hp1.1 ho (hlt p hp') with hb | hb
        · have := before_listed hback hc (i + 1) i (Nat.lt_succ_self _) o ho hall p.1 hb
          have h2 := hp1.2
          have hps := (Array.getElem?_eq_some_iff.1 hp1.1).1
          simp only [Array.getD_eq_getD_getElem?] at this h2
          rw [Array.getElem?_eq_getElem (by omega)] at this h2
          simp only [Option.getD_some] at this h2
          rw [this] at h2
          cases h2
        · exact hb
      have hmv : opsRun T O true rid ops.toList ((i, o) :: (l1 ++ l2)) st K = some r := by
        cases hst : isStore o
        · exact opsMove hT hO hst l1 st g a w hS hR hf (fun p hp' => ⟨(hbits p hp').1, (hbits p hp').2.2⟩) h
        · cases l1 with
          | nil => exact h
          | cons p l1 => have := (hbits p (List.mem_cons_self ..)).2.1; rw [hst] at this; cases this
      have hperm : (l1 ++ (i, o) :: l2).Perm ((i, o) :: (l1 ++ l2)) := List.perm_middle
      have hi64 : i < 64 := hS.2.1 (i, o) him
      have hsi : 64 * rid + i < 1024064 := by have := hS.1; omega
      have hnd : i ∉ (l1 ++ l2).map (·.1) := by
        have := (hperm.map (·.1)).nodup_iff.1 hS.2.2
        simp only [List.map_cons, List.nodup_cons] at this
        exact this.1
      have hsub : ∀ p ∈ l1 ++ l2, p ∈ l1 ++ (i, o) :: l2 := fun p hp' => by
        rcases List.mem_append.1 hp' with q | q
        · exact List.mem_append_left _ q
        · exact List.mem_append_right _ (List.mem_cons_of_mem _ q)
      have hsite : ∀ p ∈ l1 ++ l2, 64 * rid + p.1 ≠ 64 * rid + i ∧ 64 * rid + p.1 < 1024064 := fun p hp' => by
        have h1 := hS.2.1 p (hsub p hp')
        have h2 := hS.1
        have h3 : p.1 ≠ i := fun e => hnd (e ▸ List.mem_map.2 ⟨p, hp', rfl⟩)
        omega
      have hS' : Sites rid (l1 ++ l2) := ⟨hS.1, fun p hp' => hS.2.1 p (hsub p hp'), by
        have := (hperm.map (·.1)).nodup_iff.1 hS.2.2
        simp only [List.map_cons, List.nodup_cons] at this
        exact this.2⟩
      have hp' : ((l1 ++ l2).map (·.1)).Pairwise (· < ·) := by
        refine hp.sublist (List.Sublist.map _ ?_)
        exact List.Sublist.append (List.Sublist.refl _) (List.sublist_cons_self ..)
      have hL' : ∀ p, p ∈ l1 ++ l2 ↔ ops[p.1]? = some p.2 ∧ (listed.setIfInBounds i true).getD p.1 true = false := fun p => by
        constructor
        · intro hp'
          have h1 := (hL p).1 (hsub p hp')
          have hne : i ≠ p.1 := fun e => hnd (e ▸ List.mem_map.2 ⟨p, hp', rfl⟩)
          exact ⟨h1.1, by rw [getD_set_ne true hne]; exact h1.2⟩
        · rintro ⟨h1, h2⟩
          have hne : i ≠ p.1 := fun e => by
            subst e
            have hps := (Array.getElem?_eq_some_iff.1 h1).1
            simp [hsz, hps] at h2
          rw [getD_set_ne true hne] at h2
          have := (hL p).2 ⟨h1, h2⟩
          rcases List.mem_append.1 this with q | q
          · exact List.mem_append_left _ q
          · rcases List.mem_cons.1 q with q | q
            · exact absurd (by rw [q]) hne
            · exact List.mem_append_right _ q
      have hc' : Closed ops (listed.setIfInBounds i true) := fun k ok hk hl e he hb => by
        by_cases hki : i = k
        · subst hki
          rw [ho] at hk
          injection hk with hk
          subst hk
          exact getD_set_true (hall e he hb)
        · rw [getD_set_ne false hki] at hl
          exact getD_set_true (hc k ok hk hl e he hb)
      have hlen' : (l1 ++ l2).length = n := by simp at hlen ⊢; omega
      have hsz' : (listed.setIfInBounds i true).size = ops.size := by simpa using hsz
      unfold wpOp
      rw [ho]
      simp only
      simp only [opsRun] at hmv
      rcases guarded_iff.1 hmv with ⟨hw, h⟩ | ⟨hw, h⟩
      · rw [wants_real rfl hR hw, if_pos rfl]
        refine .inl (step_sound hT hO h hR (hf _ him) fun st' g' a' w' h1 h2 h3 => ?_)
        exact ih (l1 ++ l2) _ st' g' a' w' hlen' hS' hp' hL' hsz' hc' h2 (fun p hp'' => h3.fresh (hsite p hp'').1 (hsite p hp'').2 hsi (hf p (hsub p hp''))) h1
      · rw [wants_real rfl hR hw, if_neg (by simp)]
        exact ih (l1 ++ l2) _ _ g _ w hlen' hS' hp' hL' hsz' hc' (hR.put (v := .tup []) (u := undef) ⟨[], rfl, trivial⟩ o.dst) (fun p hp'' => (hf p (hsub p hp'')).put) h

theorem region_sound (hT : TsOk P T) (hO : OOk P O) (hm : P.follows .mixedOrders = true) {rid : Nat} {ops : Array Oper} {dr : Bool} {K : St → Option ρ} {r : ρ} (hsz : Nat.blt ops.size 64 = true) (hr : Nat.blt rid 16000 = true) (hd : dr = false ∨ drawOk ops = true)
    (hR : R F g st a w) (h : opsRun T O dr rid ops.toList (numbered 0 ops.toList) (st.clr (ofRegion rid)) K = some r)
    (hQ : ∀ st g a w, K st = some r → R F g st a w → Q .normal a w) : (Code.region rid ops dr).wp P Q a w := by
  have hsz' : ops.size < 64 := by simpa using hsz
  have hr' : rid < 16000 := by simpa using hr
  have hS : Sites rid (numbered 0 ops.toList) := numbered_sites (by simp; omega) hr'
  have hmem : ∀ p ∈ numbered 0 ops.toList, ops[p.1]? = some p.2 := fun p hp => by
    have := (numbered_mem hp).2.2
    simpa [Array.getElem?_toList] using this
  have hR1 := hR.clr (ofRegion rid)
  have hf : ∀ p ∈ numbered 0 ops.toList, Fresh (64 * rid + p.1) (g.clr (ofRegion rid)) (st.clr (ofRegion rid)) := fun p hp => region_fresh (hS.2.1 p hp) hr'
  cases dr with
  | false =>
    refine wp_region ?_
    have := opsText hT hO hQ _ _ _ _ _ hS hmem hR1 hf h
    rw [numbered_fst] at this
    simpa [List.range_eq_range'] using this
  | true =>
    have hd := hd.resolve_left (by simp)
    refine wp_region_any hm ?_
    refine opsAny hT hO hd hQ ops.size (numbered 0 ops.toList) (Array.replicate ops.size false) _ _ a _ ?_ hS ?_ ?_ (by simp) ?_ (hR1.draw _) hf h
    · have := congrArg List.length (numbered_fst 0 ops.toList)
      simpa using this
    · rw [numbered_fst]; exact List.pairwise_lt_range'
    · intro p
      constructor
      · intro hp
        have := hmem p hp
        have hps := (Array.getElem?_eq_some_iff.1 this).1
        exact ⟨this, by simp [hps]⟩
      · rintro ⟨h1, _⟩
        have key : ∀ (l : List Oper) (n t : Nat) (o : Oper), l[t]? = some o → (n + t, o) ∈ numbered n l := by
          intro l
          induction l with
          | nil => intro n t o h; simp at h
          | cons x l ih =>
            intro n t o h
            cases t with
            | zero => simp at h; subst h; exact List.mem_cons_self ..
            | succ t =>
              have := ih (n + 1) t o (by simpa using h)
              rw [show n + 1 + t = n + (t + 1) by omega] at this
              exact List.mem_cons_of_mem _ this
        have := key ops.toList 0 p.1 p.2 (by rw [Array.getElem?_toList]; exact h1)
        simpa using this
    · intro i o ho hl
      have hps := (Array.getElem?_eq_some_iff.1 ho).1
      simp [hps] at hl
end
end Go.BV

/-
  Code.
-/
namespace Go.BV
section
variable {P : Program} {T : TypeId → TI} {O : FuncId → Option Ora} {F : Fx} {g : Gh} {st : St} {a : Act} {w : World} {Q : Exit → Act → World → Prop} {ρ : Type}

theorem keepT_get {l : List Nat} : ∀ {vs : List V} {n i : Nat} {v : V}, (keepT l n vs)[i]? = some v → vs[i]? = some v ∨ v = .u (.x .undef) ∧ ∃ u, vs[i]? = some u
  | [], n, i, v, h => by simp [keepT] at h
  | x :: vs, n, 0, v, h => by
    simp only [keepT, List.getElem?_cons_zero, Option.some.injEq] at h
    cases hc : l.contains n
    · rw [hc] at h; exact .inr ⟨h.symm, x, by simp⟩
    · rw [hc] at h; exact .inl (by simpa using h)
  | x :: vs, n, i + 1, v, h => by
    simp only [keepT, List.getElem?_cons_succ] at h
    simpa using keepT_get h
theorem keepT_len {l : List Nat} : ∀ {vs : List V} {n : Nat}, (keepT l n vs).length = vs.length
  | [], _ => rfl
  | _ :: vs, n => by simp [keepT, keepT_len]
theorem R.keepT {l : List Nat} (h : R F g st a w) : R F g { st with tmps := BV.keepT l 0 st.tmps } a w := by
  refine ⟨⟨by simpa [keepT_len] using h.s.size, fun i v hv => ?_, h.s.defers, h.s.tabs, h.s.mus, h.s.low⟩, h.w⟩
  rcases keepT_get hv with hv | ⟨rfl, u, hu⟩
  · exact h.s.tmps i v hv
  · obtain ⟨x, hx, _⟩ := h.s.tmps i u hu
    exact ⟨x, hx, trivial⟩
theorem act_same {t : Nat} {u : Value} (h : a.tmps[t]? = some u) : a.put (some t) u = a := by
  obtain ⟨hlt, h1⟩ := Array.getElem?_eq_some_iff.1 h
  have : a.tmps.setIfInBounds t u = a.tmps := by
    apply Array.ext_getElem?
    intro i
    rw [Array.getElem?_setIfInBounds]
    split
    · rename_i e; subst e; exact h.symm
    · rfl
  show ({ a with tmps := a.tmps.setIfInBounds t u } : Act) = a
  rw [this]
theorem get_some {t : Nat} {v : V} (h : st.get t = v) (hv : v ≠ .u (.x .undef)) : st.tmps[t]? = some v := by
  simp only [St.get, List.getD_eq_getElem?_getD] at h
  cases e : st.tmps[t]? with
  | none => rw [e] at h; exact absurd h.symm hv
  | some x => rw [e] at h; simp at h; rw [h]
theorem R.putT (h : R F g st a w) {t : Nat} {v : V} {u : Value} (hu : a.tmps[t]? = some u) (hv : VR g w v u) : R F g (st.put (some t) v) a w := by
  have := h.put hv (some t)
  rwa [act_same hu] at this
theorem renT_sound {t n' : Nat} (h : R F g st a w) : ∃ g', R F g' (renT st t n') a w := by
  unfold renT
  split
  · rename_i c hc
    obtain ⟨u, hu, hx⟩ := h.s.tmps t _ (get_some hc (by simp))
    have hx' : u = .slice none 0 0 ∧ c.len = 0 := hx
    have h1 := h.clr fun m => m == n'
    have h2 := h1.newOwn (n := n') (v := u) (c := c) (by simp [Gh.clr]) (.inl hx') (fun b hb => by rw [hx'.1] at hb; simp [Value.ownBlock] at hb)
    exact ⟨_, h2.putT hu (show VR _ _ (.u (.x (.own n' c))) u from setOwn_own.2 (.inl ⟨rfl, rfl⟩))⟩
  · rename_i n c hc
    cases hn : n == n'
    · cases hl : isLow n && !isLow n'
      · simp only [cond_false]
        obtain ⟨u, hu, hx⟩ := h.s.tmps t _ (get_some hc (by simp))
        have hx' : g.own n = some (u, c) := hx
        have h2 := h.reown (n' := n') (p := fun m => m == n || m == n') hx' (by simp) (by simp) (fun q => by rw [q] at hl; simpa using hl) (w' := w) rfl rfl rfl (Nat.le_refl _) (fun _ _ _ => rfl) (h.w.own n u c hx') (fun b hb => .inl hb)
        exact ⟨_, h2.putT hu (show VR _ _ (.u (.x (.own n' c))) u from setOwn_own.2 (.inl ⟨rfl, rfl⟩))⟩
      · simp only [cond_false, cond_true]; exact ⟨g, h⟩
    · simp only [cond_true]; exact ⟨g, h⟩
  · exact ⟨g, h⟩
theorem XsR.set : ∀ {xs : List X} {vs : List Value} {i : Nat} {x : X} {v : Value}, XsR g w xs vs → vs[i]? = some v → XR g w x v → XsR g w (xs.set i x) vs
  | [], [], _, _, _, _, h, _ => by simp at h
  | _ :: _, _ :: _, 0, _, _, h, hv, hx => by simp at hv; subst hv; exact ⟨hx, h.2⟩
  | _ :: _, _ :: _, i + 1, _, _, h, hv, hx => ⟨h.1, XsR.set h.2 (by simpa using hv) hx⟩
  | [], _ :: _, _, _, _, h, _, _ => h.elim
  | _ :: _, [], _, _, _, h, _, _ => h.elim
theorem R.putC (h : R F g st a w) {tb b off : Nat} {vs : List Value} {ys : List X} {x : X} {v : Value} (ht : g.tab tb = some (b, vs)) (hy : lk st.tabs tb = some ys) (hv : vs[off]? = some v) (hx : XR g w x v) :
    ∃ g', R F g' { st with tabs := setl st.tabs tb (ys.set off x) } a w := by
  obtain ⟨cs, h1, h2⟩ := h.s.tabs tb b vs ht
  have : lk st.tabs tb = some cs := h1
  rw [hy] at this
  injection this with this
  subst this
  exact ⟨_, h.setTab ht (h2.set hv hx) rfl rfl rfl rfl (fun _ _ => rfl) (h.w.tab tb b vs ht)⟩
theorem gtab_some (h : R F g st a w) {tb : Nat} : (∃ b vs, g.tab tb = some (b, vs)) ∨ g.tab tb = none := by
  cases e : g.tab tb with
  | none => exact .inr rfl
  | some p => exact .inl ⟨p.1, p.2, rfl⟩
theorem R.putN (h : R F g st a w) {tb : Nat} {ys : List X} (ht : g.tab tb = none) : R F g { st with tabs := setl st.tabs tb ys } a w := by
  refine ⟨⟨h.s.size, h.s.tmps, h.s.defers, fun n b vs hn => ?_, h.s.mus, h.s.low⟩, h.w⟩
  obtain ⟨cs, h1, h2⟩ := h.s.tabs n b vs hn
  have hne : n ≠ tb := fun e => by rw [e, ht] at hn; cases hn
  exact ⟨cs, (lk_setl_ne _ _ _ _ hne).trans h1, h2⟩
def putC (st : St) (tb off n : Nat) (c : C) : St := { st with tabs := match lk st.tabs tb with | some ys => setl st.tabs tb (ys.set off (.own n c)) | none => st.tabs }
theorem putC_sound (h : R F g st a w) {tb off n : Nat} {c : C} {v : Value} (hg : ∀ b vs, g.tab tb = some (b, vs) → vs[off]? = some v) (ho : g.own n = some (v, c)) : ∃ g', R F g' (putC st tb off n c) a w := by
  unfold putC
  split
  · rename_i ys hy
    rcases gtab_some h (tb := tb) with ⟨b, vs, ht⟩ | ht
    · exact h.putC ht hy (hg b vs ht) ho
    · exact ⟨g, h.putN ht⟩
  · exact ⟨g, h⟩
theorem renC_sound {tb off n' : Nat} (h : R F g st a w) : ∃ g', R F g' (renC st tb off n') a w := by
  unfold renC
  split
  · rename_i xs hxs
    split
    · rename_i c hc
      have h1 := h.clr fun m => m == n'
      rcases gtab_some h1 (tb := tb) with ⟨b, vs, ht⟩ | ht
      · obtain ⟨hp, ht0⟩ := Gh.clr_tab.1 ht
        obtain ⟨cs, h2, h3⟩ := h.s.tabs tb b vs ht0
        have : lk st.tabs tb = some cs := h2
        rw [hxs] at this
        injection this with this
        subst this
        obtain ⟨v, hv, hx⟩ := h3.get hc
        have hx' : v = .slice none 0 0 ∧ c.len = 0 := hx
        have h2 := h1.newOwn (n := n') (v := v) (c := c) (by simp [Gh.clr]) (.inl hx') (fun b hb => by rw [hx'.1] at hb; simp [Value.ownBlock] at hb)
        exact putC_sound (v := v) h2 (fun b' vs' h' => by
          have h' : (g.clr fun m => m == n').tab tb = some (b', vs') := h'
          rw [ht] at h'; injection h' with h'; injection h' with e1 e2; rw [← e2]; exact hv) (setOwn_own.2 (.inl ⟨rfl, rfl⟩))
      · have h2 := h1.newOwn (n := n') (v := .slice none 0 0) (c := c.zeros 0) (by simp [Gh.clr]) (.inl ⟨rfl, by cases c <;> rfl⟩) (fun b hb => by simp [Value.ownBlock] at hb)
        show ∃ g', R F g' (putC (st.clr fun m => m == n') tb off n' c) a w
        unfold putC
        split
        · exact ⟨_, h1.putN ht⟩
        · exact ⟨_, h1⟩
    · rename_i n c hc
      cases hn : n == n'
      · cases hl : isLow n && !isLow n'
        · simp only [cond_false]
          show ∃ g', R F g' (putC (st.clr fun m => m == n || m == n') tb off n' c) a w
          rcases gtab_some h (tb := tb) with ⟨b, vs, ht⟩ | ht
          · obtain ⟨cs, h2, h3⟩ := h.s.tabs tb b vs ht
            have : lk st.tabs tb = some cs := h2
            rw [hxs] at this
            injection this with this
            subst this
            obtain ⟨v, hv, hx⟩ := h3.get hc
            have hx' : g.own n = some (v, c) := hx
            have h2 := h.reown (n' := n') (p := fun m => m == n || m == n') hx' (by simp) (by simp) (fun q => by rw [q] at hl; simpa using hl) (w' := w) rfl rfl rfl (Nat.le_refl _) (fun _ _ _ => rfl) (h.w.own n v c hx') (fun b hb => .inl hb)
            refine putC_sound (v := v) h2 (fun b' vs' h' => ?_) (setOwn_own.2 (.inl ⟨rfl, rfl⟩))
            have h' : (g.clr fun m => m == n || m == n').tab tb = some (b', vs') := h'
            have h' := (Gh.clr_tab.1 h').2
            rw [ht] at h'
            injection h' with h'
            injection h' with e1 e2
            rw [← e2]
            exact hv
          · have h1 := h.clr fun m => m == n || m == n'
            have ht' : (g.clr fun m => m == n || m == n').tab tb = none := by simp only [Gh.clr, ht]; cases (tb == n || tb == n') <;> rfl
            unfold putC
            split
            · exact ⟨_, h1.putN ht'⟩
            · exact ⟨_, h1⟩
        · simp only [cond_false, cond_true]; exact ⟨g, h⟩
      · simp only [cond_true]; exact ⟨g, h⟩
    · exact ⟨g, h⟩
  · exact ⟨g, h⟩
theorem renTs_sound : ∀ {l : List (Nat × Nat)} {st : St} {g : Gh}, R F g st a w → ∃ g', R F g' (renTs l st) a w
  | [], _, g, h => ⟨g, h⟩
  | (t, n) :: l, st, g, h => by obtain ⟨g', h'⟩ := renT_sound (t := t) (n' := n) h; have := renTs_sound (l := l) h'; exact this
theorem renCs_sound : ∀ {l : List (Nat × Nat × Nat)} {st : St} {g : Gh}, R F g st a w → ∃ g', R F g' (renCs l st) a w
  | [], _, g, h => ⟨g, h⟩
  | (tb, off, n) :: l, st, g, h => by obtain ⟨g', h'⟩ := renC_sound (tb := tb) (off := off) (n' := n) h; have := renCs_sound (l := l) h'; exact this
theorem nrm_sound {k : Keep} (h : R F g st a w) : ∃ g', R F g' (k.nrm st) a w := by
  have h1 := (h.keepT (l := k.tmps)).clr fun n => (st.tabs.any fun (m, _) => m == n) && !k.tabs.contains n
  obtain ⟨g1, h2⟩ := renTs_sound (l := k.names) h1
  exact renCs_sound h2

theorem nrmAt_sound {kp : Nat → Option Keep} {i : Nat} (h : R F g st a w) : ∃ g', R F g' (nrmAt kp i st) a w := by
  unfold nrmAt
  cases kp i with
  | some k => exact nrm_sound h
  | none => exact ⟨g, h⟩

def Ex.go : Ex → Exit
  | .normal => .normal
  | .exit id => .exit id
  | .ret => .ret

theorem run_sound (hT : TsOk P T) (hO : OOk P O) (hm : P.follows .mixedOrders = true) {kp : Nat → Option Keep} {fuel : Nat} : ∀ (c : Code) {st : St} {g : Gh} {a : Act} {w : World} {K : Ex → St → Option ρ} {r : ρ} {Q : Exit → Act → World → Prop},
    run T O kp fuel c st K = some r → R F g st a w → (∀ e st' g' a' w', K e st' = some r → R F g' st' a' w' → Q e.go a' w') → c.wp P Q a w
  | .skip, st, g, a, w, K, r, Q, h, hR, hQ => wp_skip (hQ .normal st g a w h hR)
  | .label _, st, g, a, w, K, r, Q, h, hR, hQ => wp_label (hQ .normal st g a w h hR)
  | .exit id, st, g, a, w, K, r, Q, h, hR, hQ => wp_exit (hQ (.exit id) st g a w h hR)
  | .ret, st, g, a, w, K, r, Q, h, hR, hQ => wp_ret (hQ .ret st g a w h hR)
  | .region rid ops dr, st, g, a, w, K, r, Q, h, hR, hQ => by
    unfold run at h
    cases hb : Nat.blt ops.size 64 && Nat.blt rid 16000 && (!dr || drawOk ops)
    · rw [hb] at h; cases h
    · rw [hb] at h
      simp only [cond_true] at h
      simp only [Bool.and_eq_true, Bool.or_eq_true, Bool.not_eq_true'] at hb
      exact region_sound hT hO hm hb.1.1 hb.1.2 hb.2 hR h fun st' g' a' w' h1 h2 => hQ .normal st' g' a' w' h1 h2
  | .seq x y, st, g, a, w, K, r, Q, h, hR, hQ => by
    unfold run at h
    refine wp_seq (run_sound hT hO hm x h hR fun e st' g' a' w' h1 h2 => ?_)
    cases e with
    | normal =>
      obtain ⟨g1, hR1⟩ := nrmAt_sound (kp := kp) (i := 200000 + firstRid y) h2
      exact run_sound hT hO hm y h1 hR1 hQ
    | exit id => exact hQ (.exit id) st' g' a' w' h1 h2
    | ret => exact hQ .ret st' g' a' w' h1 h2
  | .cond c x y, st, g, a, w, K, r, Q, h, hR, hQ => by
    unfold run at h
    split at h
    · rename_i b hb
      have hc : a.eval c = .bool b := by
        have := ev_ok hR.s c
        rw [hb] at this
        exact this
      cases b
      · exact wp_cond hc (run_sound hT hO hm y h hR hQ)
      · exact wp_cond hc (run_sound hT hO hm x h hR hQ)
    · cases h
  | .block id c, st, g, a, w, K, r, Q, h, hR, hQ => by
    unfold run at h
    refine wp_block (run_sound hT hO hm c h hR fun e st' g' a' w' h1 h2 => ?_)
    cases e with
    | normal => exact hQ .normal st' g' a' w' h1 h2
    | ret => exact hQ .ret st' g' a' w' h1 h2
    | exit id' =>
      have h1 : (bif id' == id then K .normal st' else K (.exit id') st') = some r := h1
      show Exit.inBlock id Q (.exit id') a' w'
      unfold Exit.inBlock
      by_cases he : id' = id
      · rw [show (id' == id) = true by simpa using he] at h1
        simp only [he, if_true]
        exact hQ .normal st' g' a' w' h1 h2
      · rw [show (id' == id) = false by simpa using he] at h1
        simp only [he, if_false]
        exact hQ (.exit id') st' g' a' w' h1 h2
  | .loop c, st, g, a, w, K, r, Q, h, hR, hQ => by
    unfold run at h
    refine wp_loop_rounds fuel ?_
    have key : ∀ (n : Nat) (st : St) (g : Gh) (a : Act) (w : World), iter (run T O kp fuel c) (nrmAt kp (firstRid c)) n st K = some r → R F g st a w → Code.rounds P c Q n a w := by
      intro n
      induction n with
      | zero => intro st g a w h; simp [iter] at h
      | succ n ih =>
        intro st g a w h hR
        simp only [iter] at h
        rw [rounds_succ]
        refine run_sound hT hO hm c h hR fun e st' g' a' w' h1 h2 => ?_
        cases e with
        | normal =>
          obtain ⟨g1, hR1⟩ := nrmAt_sound (kp := kp) (i := firstRid c) h2
          exact ih _ g1 a' w' h1 hR1
        | exit id => exact hQ (.exit id) st' g' a' w' h1 h2
        | ret => exact hQ .ret st' g' a' w' h1 h2
    obtain ⟨g1, hR1⟩ := nrmAt_sound (kp := kp) (i := firstRid c) hR
    exact key fuel _ g1 a w h hR1
  | .rangeFunc .., st, g, a, w, K, r, Q, h, hR, hQ => by unfold run at h; cases h
  | .goto _, st, g, a, w, K, r, Q, h, hR, hQ => by unfold run at h; cases h
  | .scope _, st, g, a, w, K, r, Q, h, hR, hQ => by unfold run at h; cases h
  | .refuse _, st, g, a, w, K, r, Q, h, hR, hQ => by unfold run at h; cases h
end
end Go.BV

/-
  Functions: what they begin with.
-/
namespace Go.BV
section
variable {P : Program} {T : TypeId → TI} {F : Fx} {g : Gh} {st : St} {a : Act} {w : World}

/-- The names in use lie below, and their blocks are others than these. -/
structure Below (g : Gh) (N : Nat) (bs : List Nat) : Prop where
  own : ∀ n x, g.own n = some x → n < N
  tab : ∀ n x, g.tab n = some x → n < N
  ownB : ∀ n v c b, g.own n = some (v, c) → v.ownBlock = some b → b ∉ bs
  tabB : ∀ n b vs, g.tab n = some (b, vs) → b ∉ bs
theorem Below.mono {N N' : Nat} {bs bs' : List Nat} (h : Below g N bs) (hN : N ≤ N') (hb : ∀ b, b ∈ bs' → b ∈ bs) : Below g N' bs' :=
  ⟨fun n x hn => Nat.lt_of_lt_of_le (h.own n x hn) hN, fun n x hn => Nat.lt_of_lt_of_le (h.tab n x hn) hN, fun n v c b hn hb' hm => h.ownB n v c b hn hb' (hb b hm), fun n b vs hn hm => h.tabB n b vs hn (hb b hm)⟩

theorem low_of {n : Nat} (h : n < 4096) : isLow n = true := by unfold isLow; simp only [Bool.or_eq_true]; exact .inl (by simpa using h)

theorem names_ok {p : Nat} : ∀ {ss : List S} {vs : List Value} {bs bs2 : List Nat} {j : Nat} {g : Gh}, MutSs w F.Z0 ss vs bs → R F g st a w → g.Z = F.Z0 → Below g (64 * p + j) (bs ++ bs2) → (bs ++ bs2).Nodup → (∀ b, b ∈ bs → F.M b ∧ ¬ F.Z0 b) → 64 * p + j + ss.length ≤ 4096 →
    ∃ g', R F g' st a w ∧ g'.Z = F.Z0 ∧ g'.tab = g.tab ∧ XsR g' w (nameM p j ss) vs ∧ Below g' (64 * p + j + ss.length) bs2 ∧ (∀ n x, g.own n = some x → g'.own n = some x)
  | [], [], bs, bs2, j, g, hm, hR, hz, hb, hnd, hM, hl => ⟨g, hR, hz, rfl, trivial, hb.mono (by simp) (fun b h => by simp [h]), fun _ _ h => h⟩
  | s :: ss, v :: vs, bs, bs2, j, g, hm, hR, hz, hb, hnd, hM, hl => by
    obtain ⟨b1, b2, rfl, hm1, hm2⟩ := hm
    simp only [List.length_cons] at hl
    -- one cell
    have one : ∃ g1, R F g1 st a w ∧ g1.Z = F.Z0 ∧ g1.tab = g.tab ∧ (∃ x, nameM p j (s :: ss) = x :: nameM p (j + 1) ss ∧ XR g1 w x v) ∧ Below g1 (64 * p + (j + 1)) (b2 ++ bs2) ∧ (∀ n x, g.own n = some x → g1.own n = some x) := by
      cases s with
      | sl c =>
        obtain ⟨ho, rfl⟩ := hm1
        have hfree : ∀ b, v.ownBlock = some b → Free F g b ∧ (F.w0.heap.size ≤ b ∨ (F.M b ∧ isLow (64 * p + j) = true)) := fun b e => by
          have hbm : b ∈ blks v := by simp [blks, e]
          have hmem : b ∈ blks v ++ b2 ++ bs2 := by simp [hbm]
          have h1 := hM b (by simp [hbm])
          exact ⟨⟨by rw [hz]; exact h1.2, fun n u d hn e' => hb.ownB n u d b hn e' hmem, fun n vs hn => hb.tabB n b vs hn hmem⟩, .inr ⟨h1.1, low_of (by omega)⟩⟩
        have hn : g.own (64 * p + j) = none := by
          cases e : g.own (64 * p + j) with
          | none => rfl
          | some x => exact absurd (hb.own _ _ e) (Nat.lt_irrefl _)
        have h1 := hR.newOwn hn (by rw [hz]; exact ho) hfree
        refine ⟨_, h1, hz, rfl, ⟨_, rfl, setOwn_own.2 (.inl ⟨rfl, rfl⟩)⟩, ⟨fun n x hn' => ?_, fun n x hn' => ?_, fun n u d b hn' e => ?_, fun n b us hn' => ?_⟩, fun n x hn' => setOwn_own.2 (.inr ⟨fun e => (by rw [e, hn] at hn'; cases hn'), hn'⟩)⟩
        · rcases setOwn_own.1 hn' with ⟨rfl, _⟩ | ⟨_, hn'⟩
          · omega
          · have := hb.own n x hn'; omega
        · have := hb.tab n x hn'; omega
        · rcases setOwn_own.1 hn' with ⟨rfl, e'⟩ | ⟨_, hn'⟩
          · cases e'
            intro hm
            have hbm : b ∈ blks v := by simp [blks, e]
            rw [List.append_assoc, List.nodup_append] at hnd
            exact hnd.2.2 b hbm b hm rfl
          · intro hm
            exact hb.ownB n u d b hn' e (by rw [List.append_assoc]; exact List.mem_append_right _ hm)
        · intro hm
          exact hb.tabB n b us hn' (by rw [List.append_assoc]; exact List.mem_append_right _ hm)
      | _ =>
        obtain ⟨hs, rfl⟩ := hm1
        exact ⟨g, hR, hz, rfl, ⟨_, rfl, hs⟩, hb.mono (by omega) (fun b h => by simpa using h), fun _ _ h => h⟩
    obtain ⟨g1, hR1, hz1, ht1, ⟨x, hx1, hx2⟩, hb1, ho1⟩ := one
    obtain ⟨g2, hR2, hz2, ht2, hx3, hb2, ho2⟩ := names_ok (j := j + 1) hm2 hR1 hz1 hb1 (by rw [List.append_assoc] at hnd; exact (List.nodup_append.1 hnd).2.1) (fun b h => hM b (by simp [h])) (by omega)
    refine ⟨g2, hR2, hz2, by rw [ht2, ht1], ?_, hb2.mono (by simp only [List.length_cons]; omega) fun _ h => h, fun n x h => ho2 n x (ho1 n x h)⟩
    rw [hx1]
    refine ⟨?_, hx3⟩
    -- the first cell's words stay
    have tr : Tr g1 w g2 w id := tr_id (by rw [hz1, hz2]; exact Stay.refl _ _) (fun n u d h => ho2 n _ h) (fun n b us h => ⟨us, by rw [ht2]; exact h⟩)
    exact tr.tr x v hx2
  | [], _ :: _, _, _, _, _, hm, _, _, _, _, _, _ => hm.elim
  | _ :: _, [], _, _, _, _, hm, _, _, _, _, _, _ => hm.elim

theorem R.addMus (h : R F g st a w) {n : Nat} {c : C} (hn : g.own n = some (F.mv n, c)) : R F g { st with mus := st.mus ++ [(n, c)] } a w := by
  refine ⟨⟨h.s.size, h.s.tmps, h.s.defers, h.s.tabs, fun m d hm => ?_, h.s.low⟩, h.w⟩
  have key : ∀ l : List (Nat × C), lk (l ++ [(n, c)]) m = some d → lk l m = some d ∨ (m = n ∧ d = c) := by
    intro l
    induction l with
    | nil =>
      intro hl
      simp only [List.nil_append, lk] at hl
      cases e : n == m
      · rw [e] at hl; cases hl
      · rw [e] at hl; injection hl with hl; exact .inr ⟨(by simpa using e : n = m).symm, hl.symm⟩
    | cons q l ih =>
      obtain ⟨k, z⟩ := q
      intro hl
      simp only [List.cons_append, lk] at hl ⊢
      cases e : k == m
      · rw [e] at hl; exact ih hl
      · rw [e] at hl; exact .inl hl
  rcases key st.mus hm with hm | ⟨rfl, rfl⟩
  · exact h.s.mus m d hm
  · exact hn
theorem mus_ok {p : Nat} : ∀ {ss : List S} {vs : List Value} {j : Nat} {st : St}, XsR g w (nameM p j ss) vs → (∀ i v, vs[i]? = some v → F.mv (64 * p + j + i) = v) → R F g st a w → R F g { st with mus := st.mus ++ musM p j ss } a w
  | [], vs, j, st, hx, hv, hR => by simpa [musM] using hR
  | .sl c :: ss, [], j, st, hx, hv, hR => hx.elim
  | .sl c :: ss, v :: vs, j, st, hx, hv, hR => by
    have h1 := hR.addMus (n := 64 * p + j) (c := c) (by rw [show F.mv (64 * p + j) = v from hv 0 v rfl]; exact hx.1)
    have := mus_ok (p := p) (ss := ss) (vs := vs) (j := j + 1) hx.2 (fun i u hu => by rw [show 64 * p + (j + 1) + i = 64 * p + j + (i + 1) by omega]; exact hv (i + 1) u (by simpa using hu)) h1
    simpa [musM] using this
  | .int k n :: ss, [], j, st, hx, hv, hR => hx.elim
  | .int k n :: ss, v :: vs, j, st, hx, hv, hR => mus_ok (p := p) (ss := ss) (vs := vs) (j := j + 1) hx.2 (fun i u hu => by rw [show 64 * p + (j + 1) + i = 64 * p + j + (i + 1) by omega]; exact hv (i + 1) u (by simpa using hu)) hR
  | .bool b :: ss, [], j, st, hx, hv, hR => hx.elim
  | .bool b :: ss, v :: vs, j, st, hx, hv, hR => mus_ok (p := p) (ss := ss) (vs := vs) (j := j + 1) hx.2 (fun i u hu => by rw [show 64 * p + (j + 1) + i = 64 * p + j + (i + 1) by omega]; exact hv (i + 1) u (by simpa using hu)) hR
  | .str s :: ss, [], j, st, hx, hv, hR => hx.elim
  | .str s :: ss, v :: vs, j, st, hx, hv, hR => mus_ok (p := p) (ss := ss) (vs := vs) (j := j + 1) hx.2 (fun i u hu => by rw [show 64 * p + (j + 1) + i = 64 * p + j + (i + 1) by omega]; exact hv (i + 1) u (by simpa using hu)) hR

theorem R.addTab (h : R F g st a w) {n b : Nat} {vs : List Value} {cs : List X} (hn : g.tab n = none) (hs : st.tb n = none) (hr : row w b = some vs) (hx : XsR g w cs vs) (hf : Free F g b) (hM : F.M b) (hl : n < 4096) (htv : F.tv n = b) :
    R F (g.setTab n (b, vs)) { st with tabs := st.tabs ++ [(n, cs)] } a w := by
  have hle : ∀ m x, g.tab m = some x → (g.setTab n (b, vs)).tab m = some x := fun m x hm => setTab_tab.2 (.inr ⟨fun e => (by rw [e, hn] at hm; cases hm), hm⟩)
  have tr : Tr g w (g.setTab n (b, vs)) w id := tr_id (Stay.refl _ _) (fun m x y hm => hm) (fun m b vs h => ⟨vs, hle _ _ h⟩)
  have hlk : ∀ (l : List (Nat × List X)) m d, lk l m = some d → lk (l ++ [(n, cs)]) m = some d := by
    intro l m d
    induction l with
    | nil => intro h; simp [lk] at h
    | cons q l ih =>
      obtain ⟨k, z⟩ := q
      intro hl
      simp only [List.cons_append, lk] at hl ⊢
      cases e : k == m
      · rw [e] at hl; exact ih hl
      · rw [e] at hl; exact hl
  have hlk2 : ∀ (l : List (Nat × List X)), lk l n = none → lk (l ++ [(n, cs)]) n = some cs := by
    intro l
    induction l with
    | nil => intro h; simp [lk]
    | cons q l ih =>
      obtain ⟨k, z⟩ := q
      intro hl
      simp only [List.cons_append, lk] at hl ⊢
      cases e : k == n
      · rw [e] at hl; exact ih hl
      · rw [e] at hl; cases hl
  refine ⟨⟨h.s.size, fun i x hx => ?_, h.s.defers, fun m b' vs' hm => ?_, h.s.mus, fun m b' vs' hlow hm => ?_⟩, h.w.newTab hn hr hf (.inr ⟨hM, low_of hl⟩)⟩
  · obtain ⟨u, hu, hr⟩ := h.s.tmps i x hx
    exact ⟨u, hu, by simpa [map_id_v] using tr.v hr⟩
  · rcases setTab_tab.1 hm with ⟨rfl, e⟩ | ⟨hne, hm⟩
    · cases e; exact ⟨cs, hlk2 _ hs, by simpa using tr.xs hx⟩
    · obtain ⟨cs', h1, h2⟩ := h.s.tabs m b' vs' hm
      exact ⟨cs', hlk _ _ _ h1, by simpa using tr.xs h2⟩
  · rcases setTab_tab.1 hm with ⟨rfl, e⟩ | ⟨hne, hm⟩
    · cases e; exact htv
    · exact h.s.low m b' vs' hlow hm

theorem set_mid {l : List V} {k : Nat} {v : V} : (l ++ List.replicate (k + 1) (V.u (.x .undef))).set l.length v = l ++ [v] ++ List.replicate k (V.u (.x .undef)) := by
  rw [List.set_append_right _ _ (Nat.le_refl _)]
  simp [List.replicate_succ]
theorem R.fill {l : List V} {k : Nat} {tabs : List (Nat × List X)} {mus : List (Nat × C)} (h : R F g { tmps := l ++ List.replicate (k + 1) (V.u (.x .undef)), tabs := tabs, mus := mus } a w) {v : V} {u : Value} (hu : a.tmps[l.length]? = some u) (hv : VR g w v u) : R F g { tmps := l ++ [v] ++ List.replicate k (V.u (.x .undef)), tabs := tabs, mus := mus } a w := by
  have := h.putT hu hv
  simpa only [St.put, set_mid] using this

def mvOf (args : List Value) (n : Nat) : Value := ((args.getD (n / 64) undef).cells.toList).getD (n % 64) undef
def tvOf (args : List Value) (n : Nat) : Nat := match args.getD (n / 64) undef with
  | .pointer (some ad) => ad.block
  | _ => 0

theorem init_ok {args0 : List Value} (hmv : F.mv = mvOf args0) (htv : F.tv = tvOf args0) (hMZ : ∀ b, F.Z0 b → ¬ F.M b) : ∀ {md : List Md} {ds : List DU} {args : List Value} {p k : Nat} {bs : List Nat} {l : List V} {tabs : List (Nat × List X)} {mus : List (Nat × C)} {g : Gh} {vs : List V} {ts : List (Nat × List X)} {us : List (Nat × C)},
    ArgsR w F.Z0 md ds args bs → R F g { tmps := l ++ List.replicate k (.u (.x .undef)), tabs := tabs, mus := mus } a w → g.Z = F.Z0 → l.length = p → args0.drop p = args → (∀ (i : Nat) v, args0[i]? = some v → a.tmps[i]? = some v) → (∀ n, 64 * p ≤ n → lk tabs n = none) → Below g (64 * p) bs → bs.Nodup → (∀ b, b ∈ bs → F.M b ∧ ¬ F.Z0 b) →
    initS p md ds = some (vs, ts, us) → vs.length ≤ k → ∃ g', R F g' { tmps := l ++ vs ++ List.replicate (k - vs.length) (.u (.x .undef)), tabs := tabs ++ ts, mus := mus ++ us } a w
  | [], [], [], p, k, bs, l, tabs, mus, g, vs, ts, us, ha, hR, hz, hl, hd, ht, htb, hb, hnd, hM, h, hk => by
    simp only [initS] at h
    cases hp : Nat.ble p 60
    · rw [hp] at h; cases h
    · rw [hp] at h
      injection h with h
      injection h with h1 h2
      injection h2 with h2 h3
      subst h1 h2 h3
      exact ⟨g, by simpa using hR⟩
  | m :: md, d :: ds, v :: args, p, k, bs, l, tabs, mus, g, vs, ts, us, ha, hR, hz, hl, hd, ht, htb, hb, hnd, hM, h, hk => by
    simp only [initS] at h
    split at h
    · rename_i v1 t1 u1 h1
      split at h
      · rename_i vs2 ts2 us2 h2
        injection h with h
        injection h with e1 e2
        injection e2 with e2 e3
        subst e1 e2 e3
        simp only [List.length_cons] at hk
        have hp60 : p < 60 := by
          have key : ∀ (md : List Md) (ds : List DU) (p : Nat) x, initS p md ds = some x → p ≤ 60 := by
            intro md
            induction md with
            | nil =>
              intro ds p x hx
              cases ds with
              | nil =>
                simp only [initS] at hx
                cases hp : Nat.ble p 60
                · rw [hp] at hx; cases hx
                · exact Nat.le_of_ble_eq_true hp
              | cons => simp [initS] at hx
            | cons m md ih =>
              intro ds p x hx
              cases ds with
              | nil => simp [initS] at hx
              | cons d ds =>
                simp only [initS] at hx
                split at hx
                · split at hx
                  · rename_i h3
                    have := ih _ _ _ h3
                    omega
                  · cases hx
                · cases hx
          have := key _ _ _ _ h2
          omega
        have hv0 : args0[p]? = some v := by
          have : (args0.drop p)[0]? = some v := by rw [hd]; rfl
          simpa using this
        have hd' : args0.drop (p + 1) = args := by
          rw [← List.drop_drop, hd]; rfl
        have hu := ht p v hv0
        obtain ⟨k', rfl⟩ : ∃ k', k = k' + 1 := ⟨k - 1, by omega⟩
        have rest : ∀ {g1 : Gh} {bs1 : List Nat}, ArgsR w F.Z0 md ds args bs1 → R F g1 { tmps := l ++ [v1] ++ List.replicate k' (.u (.x .undef)), tabs := tabs ++ t1, mus := mus ++ u1 } a w → g1.Z = F.Z0 → (∀ n, 64 * (p + 1) ≤ n → lk (tabs ++ t1) n = none) → Below g1 (64 * (p + 1)) bs1 → bs1.Nodup → (∀ b, b ∈ bs1 → F.M b ∧ ¬ F.Z0 b) → ∃ g', R F g' { tmps := l ++ (v1 :: vs2) ++ List.replicate (k' + 1 - (v1 :: vs2).length) (.u (.x .undef)), tabs := tabs ++ (t1 ++ ts2), mus := mus ++ (u1 ++ us2) } a w := by
          intro g1 bs1 q1 q2 q3 q4 q5 q6 q7
          obtain ⟨g', hg'⟩ := init_ok hmv htv hMZ (md := md) (ds := ds) (args := args) (p := p + 1) (k := k') (l := l ++ [v1]) q1 q2 q3 (by simp [hl]) hd' ht q4 q5 q6 q7 h2 (by omega)
          refine ⟨g', ?_⟩
          simpa [List.append_assoc, Nat.succ_sub_succ] using hg'
        have hmvp : ∀ (us : List Value), v.cells.toList = us → ∀ i u, us[i]? = some u → i < 64 → F.mv (64 * p + 0 + i) = u := fun us e i u hi hlt => by
          rw [hmv]
          unfold mvOf
          rw [show (64 * p + 0 + i) / 64 = p by omega, show (64 * p + 0 + i) % 64 = i by omega]
          rw [show args0.getD p undef = v by rw [List.getD_eq_getElem?_getD, hv0]; rfl, e, List.getD_eq_getElem?_getD, hi]
          rfl
        cases m with
        | val =>
          obtain ⟨hr, ha'⟩ := ha
          simp only [initP] at h1
          injection h1 with h1
          injection h1 with e1 e2
          injection e2 with e2 e3
          subst e1 e2 e3
          have hw : UsR g w [weakD d] [v] := weak_ok (ds := [d]) (vs := [v]) ⟨by rw [hz]; exact hr, trivial⟩
          refine rest ha' (by simpa using R.fill hR (by rw [hl]; exact hu) (show VR g w (.u (weakD d)) v from hw.1)) hz (fun n hn => by simpa using htb n (by omega)) (hb.mono (by omega) fun _ h => h) hnd hM
        | wr =>
          obtain ⟨b1, b2, rfl, hnp, hmd, ha'⟩ := ha
          cases d with
          | ptr => exact hnp.elim
          | x s =>
            simp only [initP] at h1
            injection h1 with h1
            injection h1 with e1 e2
            injection e2 with e2 e3
            subst e1 e2 e3
            obtain ⟨g1, q1, q2, q3, q4, q5, q6⟩ := names_ok (p := p) (j := 0) (ss := [s]) (vs := [v]) (bs := b1) (bs2 := b2) ⟨b1, [], by simp, hmd, rfl⟩ hR hz (by simpa using hb) hnd (fun b h => hM b (by simp [h])) (by simp; omega)
            have hone : v.cells.toList = [v] := by
              cases s with
              | sl c =>
                rcases hmd.1 with ⟨rfl, _⟩ | ⟨_, _, _, _, rfl, _⟩ <;> rfl
              | int => have := hmd.1; simp only [SR] at this; subst this; rfl
              | bool => have := hmd.1; simp only [SR] at this; subst this; rfl
              | str => have := hmd.1; simp only [SR] at this; subst this; rfl
            have q7 := mus_ok (p := p) (ss := [s]) (vs := [v]) (j := 0) q4 (fun i u hi => hmvp [v] hone i u hi (by have := (List.getElem?_eq_some_iff.1 hi).1; simp at this; omega)) q1
            have hx0 : VR g1 w (.u (.x ((nameM p 0 [s]).headD .undef))) v := by cases s <;> exact q4.1
            exact rest ha' (by simpa using R.fill q7 (by rw [hl]; exact hu) hx0) q2 (fun n hn => by simpa using htb n (by omega)) (q5.mono (by simp; omega) fun _ h => h) (List.nodup_append.1 hnd).2.1 (fun b h => hM b (by simp [h]))
          | agg cs =>
            simp only [initP] at h1
            cases hlen : Nat.blt cs.length 60
            · rw [hlen] at h1; cases h1
            · rw [hlen] at h1
              simp only [cond_true] at h1
              injection h1 with h1
              injection h1 with e1 e2
              injection e2 with e2 e3
              subst e1 e2 e3
              have hlen' : cs.length < 60 := by simpa using hlen
              obtain ⟨us, rfl, hms⟩ := hmd
              obtain ⟨g1, q1, q2, q3, q4, q5, q6⟩ := names_ok (p := p) (j := 0) (ss := cs) (vs := us) (bs := b1) (bs2 := b2) hms hR hz (by simpa using hb) hnd (fun b h => hM b (by simp [h])) (by omega)
              have hul : us.length = cs.length := by
                have := q4.length
                have key : ∀ (ss : List S) (j : Nat), (nameM p j ss).length = ss.length := by
                  intro ss
                  induction ss with
                  | nil => intro j; rfl
                  | cons s ss ih => intro j; cases s <;> simp [nameM, ih]
                rw [key] at this
                exact this.symm
              have q7 := mus_ok (p := p) (ss := cs) (vs := us) (j := 0) q4 (fun i u hi => hmvp us (by simp [Value.cells]) i u hi (by have := (List.getElem?_eq_some_iff.1 hi).1; omega)) q1
              exact rest ha' (by simpa using R.fill q7 (by rw [hl]; exact hu) (show VR g1 w (.u (.agg (nameM p 0 cs))) _ from ⟨us, rfl, q4⟩)) q2 (fun n hn => by simpa using htb n (by omega)) (q5.mono (by omega) fun _ h => h) (List.nodup_append.1 hnd).2.1 (fun b h => hM b (by simp [h]))
        | ref =>
          obtain ⟨b1, b2, rfl, hnp, hmd, ha'⟩ := ha
          cases d with
          | x => exact hnp.elim
          | agg => exact hnp.elim
          | ptr cs =>
            simp only [initP] at h1
            cases hlen : Nat.blt cs.length 60
            · rw [hlen] at h1; cases h1
            · rw [hlen] at h1
              simp only [cond_true] at h1
              injection h1 with h1
              injection h1 with e1 e2
              injection e2 with e2 e3
              subst e1 e2 e3
              have hlen' : cs.length < 60 := by simpa using hlen
              obtain ⟨b, us, bs', rfl, hrow, hms, rfl⟩ := hmd
              simp only [List.cons_append, List.nodup_cons] at hnd
              have hbM := hM b (by simp)
              obtain ⟨g1, q1, q2, q3, q4, q5, q6⟩ := names_ok (p := p) (j := 0) (ss := cs) (vs := us) (bs := bs') (bs2 := b :: b2) hms hR hz (by
                refine (hb.mono (by omega) fun c hc => ?_)
                rcases List.mem_append.1 hc with hc | hc
                · simp [hc]
                · rcases List.mem_cons.1 hc with rfl | hc
                  · simp
                  · simp [hc]) (by
                have : (bs' ++ b :: b2).Perm (b :: (bs' ++ b2)) := List.perm_middle
                rw [this.nodup_iff, List.nodup_cons]
                exact hnd) (fun c h => hM c (by simp [h])) (by omega)
              have hnone : g1.tab (64 * p + 63) = none := by
                rw [q3]
                cases e : g.tab (64 * p + 63) with
                | none => rfl
                | some x => have := hb.tab _ _ e; omega
              have q7 := q1.addTab (n := 64 * p + 63) (b := b) hnone (htb _ (by omega)) hrow q4 ⟨by rw [q2]; exact hbM.2, fun n u d hn e => q5.ownB n u d b hn e (by simp), fun n us' hn => q5.tabB n b us' hn (by simp)⟩ hbM.1 (by omega) (by
                rw [htv]
                unfold tvOf
                rw [show (64 * p + 63) / 64 = p by omega, List.getD_eq_getElem?_getD, hv0]
                rfl)
              refine rest (g1 := g1.setTab (64 * p + 63) (b, us)) ha' (by simpa using R.fill q7 (by rw [hl]; exact hu) (show VR (g1.setTab (64 * p + 63) (b, us)) w (.u (.x (.ptr (64 * p + 63) 0))) _ from ⟨b, us, setTab_tab.2 (.inl ⟨rfl, rfl⟩), rfl⟩)) q2 (fun n hn => ?_) ⟨fun n x hn => ?_, fun n x hn => ?_, fun n u d c hn e hc => q5.ownB n u d c hn e (by simp [hc]), fun n c us' hn hc => ?_⟩ (List.nodup_append.1 hnd.2).2.1 (fun c h => hM c (by simp [h]))
              · have h1 := htb n (by omega)
                have key : ∀ l : List (Nat × List X), lk l n = none → lk (l ++ [(64 * p + 63, nameM p 0 cs)]) n = none := by
                  intro l
                  induction l with
                  | nil =>
                    intro _
                    have : (64 * p + 63 == n) = false := by simp; omega
                    simp [lk, this]
                  | cons q l ih =>
                    obtain ⟨k, z⟩ := q
                    intro hl
                    simp only [List.cons_append, lk] at hl ⊢
                    cases e : k == n
                    · rw [e] at hl; exact ih hl
                    · rw [e] at hl; cases hl
                exact key _ h1
              · have := q5.own n x hn; omega
              · rcases setTab_tab.1 hn with ⟨rfl, _⟩ | ⟨_, hn⟩
                · omega
                · rw [q3] at hn; have := hb.tab n x hn; omega
              · rcases setTab_tab.1 hn with ⟨rfl, e⟩ | ⟨_, hn⟩
                · cases e
                  exact hnd.1 (List.mem_append_right _ hc)
                · exact q5.tabB n c us' hn (by simp [hc])
      · cases h
    · cases h
  | [], _ :: _, _, _, _, _, _, _, _, _, _, _, _, ha, _, _, _, _, _, _, _, _, _, _, _ => ha.elim
  | [], [], _ :: _, _, _, _, _, _, _, _, _, _, _, ha, _, _, _, _, _, _, _, _, _, _, _ => ha.elim
  | .val :: _, [], _, _, _, _, _, _, _, _, _, _, _, ha, _, _, _, _, _, _, _, _, _, _, _ => ha.elim
  | .wr :: _, [], _, _, _, _, _, _, _, _, _, _, _, ha, _, _, _, _, _, _, _, _, _, _, _ => ha.elim
  | .ref :: _, [], _, _, _, _, _, _, _, _, _, _, _, ha, _, _, _, _, _, _, _, _, _, _, _ => ha.elim
  | .val :: _, _ :: _, [], _, _, _, _, _, _, _, _, _, _, ha, _, _, _, _, _, _, _, _, _, _, _ => ha.elim
  | .wr :: _, _ :: _, [], _, _, _, _, _, _, _, _, _, _, ha, _, _, _, _, _, _, _, _, _, _, _ => ha.elim
  | .ref :: _, _ :: _, [], _, _, _, _, _, _, _, _, _, _, ha, _, _, _, _, _, _, _, _, _, _, _ => ha.elim
end
end Go.BV

/-
  Functions: what they leave.
-/
namespace Go.BV
section
variable {P : Program} {T : TypeId → TI} {O : FuncId → Option Ora} {F : Fx} {g : Gh} {st : St} {a : Act} {w : World}

def blkOf (g : Gh) (n : Nat) : List Nat := match g.own n with
  | some (v, _) => blks v
  | none => []
def tabOf (g : Gh) (n : Nat) : List Nat := match g.tab n with
  | some (b, _) => [b]
  | none => []
def labB (g : Gh) (m : Nat) : List Nat := if m % 2 = 0 then blkOf g (m / 2) else tabOf g (m / 2)
def labsB (g : Gh) (l : List Nat) : List Nat := l.flatMap (labB g)
theorem labB_own {n : Nat} : labB g (2 * n) = blkOf g n := by unfold labB; rw [if_pos (by omega)]; congr 1; omega
theorem labB_tab {n : Nat} : labB g (2 * n + 1) = tabOf g n := by unfold labB; rw [if_neg (by omega)]; congr 1; omega
theorem labB_mem {m b : Nat} (h : b ∈ labB g m) : (∃ n v c, m = 2 * n ∧ g.own n = some (v, c) ∧ v.ownBlock = some b) ∨ (∃ n vs, m = 2 * n + 1 ∧ g.tab n = some (b, vs)) := by
  unfold labB at h
  split at h
  · rename_i hm
    unfold blkOf at h
    split at h
    · rename_i v c hn
      unfold blks at h
      split at h
      · rename_i b' hb
        have : b = b' := by simpa using h
        subst this
        exact .inl ⟨m / 2, v, c, by omega, hn, hb⟩
      · cases h
    · cases h
  · rename_i hm
    unfold tabOf at h
    split at h
    · rename_i b' vs hn
      have : b = b' := by simpa using h
      subst this
      exact .inr ⟨m / 2, vs, by omega, hn⟩
    · cases h
theorem labB_nodup (m : Nat) : (labB g m).Nodup := by
  unfold labB
  split
  · unfold blkOf
    split
    · unfold blks; split <;> simp
    · simp
  · unfold tabOf
    split <;> simp
theorem labs_nodup (hw : WG F g w) : ∀ {l : List Nat}, l.Nodup → (labsB g l).Nodup
  | [], _ => List.nodup_nil
  | m :: l, h => by
    rw [List.nodup_cons] at h
    show ((labB g m) ++ labsB g l).Nodup
    refine List.nodup_append.2 ⟨labB_nodup m, labs_nodup hw h.2, fun b hb c hc e => ?_⟩
    subst e
    obtain ⟨m', hm', hc⟩ := List.mem_flatMap.1 hc
    refine h.1 ?_
    have : m = m' := by
      rcases labB_mem hb with ⟨n, v, c, rfl, h1, h2⟩ | ⟨n, vs, rfl, h1⟩ <;> rcases labB_mem hc with ⟨n', v', c', rfl, h3, h4⟩ | ⟨n', vs', rfl, h3⟩
      · rw [hw.ownD n v c b n' v' c' h1 h2 h3 h4]
      · exact (hw.otD n v c b n' vs' h1 h2 h3).elim
      · exact (hw.otD n' v' c' b n vs h3 h4 h1).elim
      · rw [hw.tabD n b vs n' vs' h1 h3]
    rw [this]
    exact hm'
theorem nodupB_ok : ∀ {l : List Nat}, nodupB l = true → l.Nodup
  | [], _ => List.nodup_nil
  | n :: l, h => by
    simp only [nodupB, Bool.and_eq_true, Bool.not_eq_true'] at h
    rw [List.nodup_cons]
    exact ⟨by simpa using h.1, nodupB_ok h.2⟩

section out
variable {Z' : Nat → Prop}
theorem outS_ok (hw : WG F g w) (hz : Stay g.Z w Z' w) {low : Bool} {x : X} {s : S} {v : Value} (h : outS low x = some s) (hx : XR g w x v) : MutS w Z' s v (labsB g (x.toks.map fun m => 2 * m)) ∧ (low = false → ∀ n, n ∈ x.toks → isLow n = false) := by
  unfold outS at h
  split at h
  · rename_i n c
    cases hb : (low || !isLow n)
    · rw [hb] at h; cases h
    · rw [hb] at h
      injection h with h
      subst h
      have hx' : g.own n = some (v, c) := hx
      refine ⟨⟨(hw.own n v c hx').mono hz (fun _ _ => rfl), ?_⟩, fun hl m hm => ?_⟩
      · show labsB g [2 * n] = blks v
        simp [labsB, labB_own, blkOf, hx']
      · have : m = n := by simpa [X.toks] using hm
        subst this
        rw [hl] at hb
        simpa using hb
  · injection h with h; subst h; exact ⟨⟨.inl hx, by rw [hx.1]; rfl⟩, fun _ _ hn => by cases hn⟩
  · injection h with h; subst h; exact ⟨⟨hx, rfl⟩, fun _ _ hn => by cases hn⟩
  · injection h with h; subst h; exact ⟨⟨hx, rfl⟩, fun _ _ hn => by cases hn⟩
  · injection h with h; subst h; exact ⟨⟨hx, rfl⟩, fun _ _ hn => by cases hn⟩
  · cases h
theorem labs_app {l m : List Nat} : labsB g (l ++ m) = labsB g l ++ labsB g m := by simp [labsB]
theorem outSs_ok (hw : WG F g w) (hz : Stay g.Z w Z' w) {low : Bool} : ∀ {xs : List X} {ss : List S} {vs : List Value}, outSs low xs = some ss → XsR g w xs vs → MutSs w Z' ss vs (labsB g ((toks xs).map fun m => 2 * m)) ∧ (low = false → ∀ n, n ∈ toks xs → isLow n = false)
  | [], ss, [], h, _ => by simp only [outSs] at h; injection h with h; subst h; exact ⟨rfl, fun _ _ hn => by cases hn⟩
  | x :: xs, ss, v :: vs, h, hx => by
    simp only [outSs] at h
    split at h
    · rename_i s hs
      split at h
      · rename_i ss' hss
        injection h with h
        subst h
        have h1 := outS_ok hw hz hs hx.1
        have h2 := outSs_ok hw hz hss hx.2
        refine ⟨⟨_, _, ?_, h1.1, h2.1⟩, fun hl n hn => ?_⟩
        · simp only [toks, List.map_append, labs_app]
        · simp only [toks, List.mem_append] at hn
          rcases hn with hn | hn
          · exact h1.2 hl n hn
          · exact h2.2 hl n hn
      · cases h
    · cases h
  | [], _, _ :: _, _, hx => hx.elim
  | _ :: _, _, [], _, hx => hx.elim
theorem outDs_ok (hw : WG F g w) (hz : Stay g.Z w Z' w) : ∀ {us : List U} {ds : List DU} {vs : List Value}, outDs us = some ds → UsR g w us vs → MutDs w Z' ds vs (labsB g ((usToks us).map fun m => 2 * m)) ∧ (∀ n, n ∈ usToks us → isLow n = false)
  | [], ds, [], h, _ => by simp only [outDs] at h; injection h with h; subst h; exact ⟨rfl, fun _ hn => by cases hn⟩
  | .x x :: us, ds, v :: vs, h, hx => by
    simp only [outDs] at h
    split at h
    · rename_i s hs
      split at h
      · rename_i ds' hds
        injection h with h
        subst h
        have h1 := outS_ok hw hz hs hx.1
        have h2 := outDs_ok hw hz hds hx.2
        refine ⟨⟨_, _, ?_, trivial, h1.1, h2.1⟩, fun n hn => ?_⟩
        · simp only [usToks, U.cells, toks, List.append_nil, List.map_append, labs_app]
        · simp only [usToks, U.cells, toks, List.append_nil, List.mem_append] at hn
          rcases hn with hn | hn
          · exact h1.2 rfl n hn
          · exact h2.2 n hn
      · cases h
    · cases h
  | .agg xs :: us, ds, v :: vs, h, hx => by
    simp only [outDs] at h
    split at h
    · rename_i ss hss
      split at h
      · rename_i ds' hds
        injection h with h
        subst h
        obtain ⟨ws, hv, hxs⟩ := hx.1
        have h1 := outSs_ok hw hz hss hxs
        have h2 := outDs_ok hw hz hds hx.2
        refine ⟨⟨_, _, ?_, trivial, ⟨ws, hv, h1.1⟩, h2.1⟩, fun n hn => ?_⟩
        · simp only [usToks, U.cells, List.map_append, labs_app]
        · simp only [usToks, U.cells, List.mem_append] at hn
          rcases hn with hn | hn
          · exact h1.2 rfl n hn
          · exact h2.2 n hn
      · cases h
    · cases h
  | [], _, _ :: _, _, hx => hx.elim
  | .x _ :: _, _, [], _, hx => hx.elim
  | .agg _ :: _, _, [], _, hx => hx.elim

theorem updM_ok (hR : R F g st a w) (hz : Stay g.Z w Z' w) {p : Nat} {w0 : World} {Z0 : Nat → Prop} : ∀ {ss ss' : List S} {ns : List Nat} {vs : List Value} {bs : List Nat} {j : Nat}, MutSs w0 Z0 ss vs bs → (∀ i v, vs[i]? = some v → F.mv (64 * p + j + i) = v) → updM st.mus p j ss = some (ss', ns) → MutSs w Z' ss' vs (labsB g ns)
  | [], ss', ns, [], bs, j, hm, hv, h => by
    simp only [updM] at h; injection h with h; injection h with h1 h2; subst h1 h2; rfl
  | .sl c0 :: ss, ss', ns, v :: vs, bs, j, hm, hv, h => by
    obtain ⟨b1, b2, rfl, hm1, hm2⟩ := hm
    simp only [updM] at h
    split at h
    · rename_i c hc
      split at h
      · rename_i ss2 ns2 h2
        injection h with h
        injection h with e1 e2
        subst e1 e2
        have h3 := updM_ok hR hz hm2 (fun i u hu => by rw [show 64 * p + (j + 1) + i = 64 * p + j + (i + 1) by omega]; exact hv (i + 1) u (by simpa using hu)) h2
        have h4 := hR.s.mus _ c hc
        rw [show F.mv (64 * p + j) = v from hv 0 v rfl] at h4
        refine ⟨blks v, _, ?_, ⟨(hR.w.own _ v c h4).mono hz (fun _ _ => rfl), rfl⟩, h3⟩
        show labB g (2 * (64 * p + j)) ++ labsB g ns2 = _
        rw [labB_own, blkOf, h4]
      · cases h
    · cases h
  | .int k n :: ss, ss', ns, v :: vs, bs, j, hm, hv, h => by
    obtain ⟨b1, b2, rfl, hm1, hm2⟩ := hm
    simp only [updM] at h
    split at h
    · rename_i ss2 ns2 h2
      injection h with h
      injection h with e1 e2
      subst e1 e2
      have h3 := updM_ok hR hz hm2 (fun i u hu => by rw [show 64 * p + (j + 1) + i = 64 * p + j + (i + 1) by omega]; exact hv (i + 1) u (by simpa using hu)) h2
      exact ⟨[], _, by simp, ⟨hm1.1, rfl⟩, h3⟩
    · cases h
  | .bool b :: ss, ss', ns, v :: vs, bs, j, hm, hv, h => by
    obtain ⟨b1, b2, rfl, hm1, hm2⟩ := hm
    simp only [updM] at h
    split at h
    · rename_i ss2 ns2 h2
      injection h with h
      injection h with e1 e2
      subst e1 e2
      have h3 := updM_ok hR hz hm2 (fun i u hu => by rw [show 64 * p + (j + 1) + i = 64 * p + j + (i + 1) by omega]; exact hv (i + 1) u (by simpa using hu)) h2
      exact ⟨[], _, by simp, ⟨hm1.1, rfl⟩, h3⟩
    · cases h
  | .str s :: ss, ss', ns, v :: vs, bs, j, hm, hv, h => by
    obtain ⟨b1, b2, rfl, hm1, hm2⟩ := hm
    simp only [updM] at h
    split at h
    · rename_i ss2 ns2 h2
      injection h with h
      injection h with e1 e2
      subst e1 e2
      have h3 := updM_ok hR hz hm2 (fun i u hu => by rw [show 64 * p + (j + 1) + i = 64 * p + j + (i + 1) by omega]; exact hv (i + 1) u (by simpa using hu)) h2
      exact ⟨[], _, by simp, ⟨hm1.1, rfl⟩, h3⟩
    · cases h
  | [], _, _, _ :: _, _, _, hm, _, _ => hm.elim
  | _ :: _, _, _, [], _, _, hm, _, _ => hm.elim

theorem updS_ok {args0 : List Value} (hmv : F.mv = mvOf args0) (htv : F.tv = tvOf args0) (hR : R F g st a w) (hz : Stay g.Z w Z' w) {w0 : World} {Z0 : Nat → Prop} : ∀ {md : List Md} {ds upd : List DU} {ns : List Nat} {args : List Value} {bs : List Nat} {p : Nat}, ArgsR w0 Z0 md ds args bs → args0.drop p = args → p + md.length ≤ 60 →
    updS st p md ds = some (upd, ns) → (∀ (i : Nat) (cs : List S), ds[i]? = some (DU.agg cs) → md[i]? = some Md.wr → cs.length < 60) → UpdR w Z' md upd args (labsB g ns)
  | [], [], upd, ns, [], bs, p, ha, hd, hp, h, hcl => by simp only [updS] at h; injection h with h; injection h with h1 h2; subst h1 h2; rfl
  | m :: md, d :: ds, upd, ns, v :: args, bs, p, ha, hd, hp, h, hcl => by
    simp only [updS] at h
    split at h
    · rename_i u1 n1 h1
      split at h
      · rename_i u2 n2 h2
        injection h with h
        injection h with e1 e2
        subst e1 e2
        have hv0 : args0[p]? = some v := by
          have : (args0.drop p)[0]? = some v := by rw [hd]; rfl
          simpa using this
        have hd' : args0.drop (p + 1) = args := by
          rw [← List.drop_drop, hd]; rfl
        have hcl' : ∀ (i : Nat) cs, ds[i]? = some (.agg cs) → md[i]? = some .wr → cs.length < 60 := fun i cs q1 q2 => hcl (i + 1) cs (by simpa using q1) (by simpa using q2)
        simp only [List.length_cons] at hp
        have rest : ∀ {bs1 : List Nat}, ArgsR w0 Z0 md ds args bs1 → UpdR w Z' md u2 args (labsB g n2) := fun q => updS_ok hmv htv hR hz q hd' (by omega) h2 hcl'
        have hmvp : ∀ (us : List Value), v.cells.toList = us → ∀ i u, us[i]? = some u → i < 64 → F.mv (64 * p + 0 + i) = u := fun us e i u hi hlt => by
          rw [hmv]
          unfold mvOf
          rw [show (64 * p + 0 + i) / 64 = p by omega, show (64 * p + 0 + i) % 64 = i by omega]
          rw [show args0.getD p undef = v by rw [List.getD_eq_getElem?_getD, hv0]; rfl, e, List.getD_eq_getElem?_getD, hi]
          rfl
        rw [labs_app]
        cases m with
        | val =>
          obtain ⟨_, ha'⟩ := ha
          simp only [updP] at h1
          injection h1 with h1
          injection h1 with e1 e2
          subst e1 e2
          exact rest ha'
        | wr =>
          obtain ⟨b1, b2, rfl, hnp, hmd, ha'⟩ := ha
          cases d with
          | ptr => exact hnp.elim
          | x s =>
            simp only [updP] at h1
            split at h1
            · rename_i s' ns' h3
              injection h1 with h1
              injection h1 with e1 e2
              subst e1 e2
              have hone : v.cells.toList = [v] := by
                cases s with
                | sl c =>
                  rcases hmd.1 with ⟨rfl, _⟩ | ⟨_, _, _, _, rfl, _⟩ <;> rfl
                | int => have := hmd.1; simp only [SR] at this; subst this; rfl
                | bool => have := hmd.1; simp only [SR] at this; subst this; rfl
                | str => have := hmd.1; simp only [SR] at this; subst this; rfl
              have h4 := updM_ok (p := p) hR hz (ss := [s]) (vs := [v]) (bs := b1) (j := 0) ⟨b1, [], by simp, hmd, rfl⟩ (fun i u hi => hmvp [v] hone i u hi (by have := (List.getElem?_eq_some_iff.1 hi).1; simp at this; omega)) h3
              obtain ⟨c1, c2, hc, hc1, hc2⟩ := h4
              have hc2 : c2 = [] := hc2
              subst hc2
              rw [List.append_nil] at hc
              exact ⟨_, _, rfl, trivial, by rw [hc]; exact hc1, rest ha'⟩
            · cases h1
          | agg cs =>
            simp only [updP] at h1
            split at h1
            · rename_i cs' ns' h3
              injection h1 with h1
              injection h1 with e1 e2
              subst e1 e2
              obtain ⟨us, rfl, hms⟩ := hmd
              have hul : ∀ (ss : List S) (vs : List Value) (bs : List Nat), MutSs w0 Z0 ss vs bs → vs.length = ss.length := by
                intro ss
                induction ss with
                | nil => intro vs bs h; cases vs with
                  | nil => rfl
                  | cons => exact h.elim
                | cons s ss ih => intro vs bs h; cases vs with
                  | nil => exact h.elim
                  | cons v vs => obtain ⟨_, _, _, _, h⟩ := h; simp [ih vs _ h]
              have hlen' := hcl 0 cs rfl rfl
              have h4 := updM_ok (p := p) hR hz (ss := cs) (vs := us) (bs := b1) (j := 0) hms (fun i u hi => hmvp us (by simp [Value.cells]) i u hi (by have := (List.getElem?_eq_some_iff.1 hi).1; have := hul _ _ _ hms; omega)) h3
              exact ⟨_, _, rfl, trivial, ⟨us, rfl, h4⟩, rest ha'⟩
            · cases h1
        | ref =>
          obtain ⟨b1, b2, rfl, hnp, hmd, ha'⟩ := ha
          cases d with
          | x => exact hnp.elim
          | agg => exact hnp.elim
          | ptr cs =>
            simp only [updP] at h1
            split at h1
            · rename_i n hn
              cases hb : n == 64 * p + 63
              · rw [hb] at h1; cases h1
              · rw [hb] at h1
                simp only [cond_true] at h1
                have hnn : n = 64 * p + 63 := by simpa using hb
                subst hnn
                split at h1
                · rename_i xs hxs
                  split at h1
                  · rename_i ss hss
                    injection h1 with h1
                    injection h1 with e1 e2
                    subst e1 e2
                    obtain ⟨u, hu, hvr⟩ := hR.s.tmps p _ (get_some hn (by simp))
                    obtain ⟨b, us, hg, rfl⟩ := (show ∃ b vs, g.tab (64 * p + 63) = some (b, vs) ∧ u = .pointer (some ⟨b, 0, none⟩) from hvr)
                    have hb := hR.s.low (64 * p + 63) b us (by omega) hg
                    obtain ⟨b0, us0, bs0, rfl, _⟩ := hmd
                    have hb0 : b = b0 := by
                      rw [← hb, htv]
                      unfold tvOf
                      rw [show (64 * p + 63) / 64 = p by omega, List.getD_eq_getElem?_getD, hv0]
                      rfl
                    subst hb0
                    obtain ⟨cs', h5, h6⟩ := hR.s.tabs _ b us hg
                    rw [hxs] at h5
                    injection h5 with h5
                    subst h5
                    have h7 := (outSs_ok hR.w hz hss h6).1
                    refine ⟨_, _, rfl, trivial, ⟨b, us, _, rfl, hR.w.tab _ b us hg, h7, ?_⟩, rest ha'⟩
                    show labB g (2 * (64 * p + 63) + 1) ++ labsB g _ = _
                    rw [labB_tab, tabOf, hg]
                    rfl
                  · cases h1
                · cases h1
            · cases h1
      · cases h
    · cases h
  | [], _ :: _, _, _, _, _, _, ha, _, _, _, _ => ha.elim
  | [], [], _, _, _ :: _, _, _, ha, _, _, _, _ => ha.elim
  | .val :: _, [], _, _, _, _, _, ha, _, _, _, _ => ha.elim
  | .wr :: _, [], _, _, _, _, _, ha, _, _, _, _ => ha.elim
  | .ref :: _, [], _, _, _, _, _, ha, _, _, _, _ => ha.elim
  | .val :: _, _ :: _, _, _, [], _, _, ha, _, _, _, _ => ha.elim
  | .wr :: _, _ :: _, _, _, [], _, _, ha, _, _, _, _ => ha.elim
  | .ref :: _, _ :: _, _, _, [], _, _, ha, _, _, _, _ => ha.elim

theorem reads_ok (hR : R F g st a w) (hz : ∀ b, g.Z b → Z' b) : ∀ {us : List U} {ds : List DU} {vs : List Value}, (∀ n, n ∈ vToks st.tb (us.map V.u) → (∀ v c b, g.own n = some (v, c) → v.ownBlock = some b → Z' b) ∧ ∀ b vs, g.tab n = some (b, vs) → Z' b) → UsR g w us vs → toDUs st.tb (us.map V.u) = some ds → ReadDs w Z' ds vs
  | [], ds, [], _, _, h => by simp only [List.map_nil, toDUs] at h; injection h with h; subst h; trivial
  | u :: us, ds, v :: vs, ht, hx, h => by
    simp only [List.map_cons, toDUs] at h
    split at h
    · rename_i d hd
      split at h
      · rename_i ds' hds
        injection h with h
        subst h
        exact ⟨toDU_read hR.s hR.w hz (fun n hn => ht n (by simp only [List.map_cons, vToks]; exact List.mem_append_left _ hn)) hx.1 hd, reads_ok hR hz (fun n hn => ht n (by simp only [List.map_cons, vToks]; exact List.mem_append_right _ hn)) hx.2 hds⟩
      · cases h
    · cases h
  | [], _, _ :: _, _, hx, _ => hx.elim
  | _ :: _, _, [], _, hx, _ => hx.elim
end out

/-- One result. -/
def resOne (tmps : Array Value) : ResultVar → Sem Value
  | .tmp t => pure (tmps.getD t undef)
  | .cell a t => do loadVar t (← asAddr (tmps.getD a undef))
theorem resU_ok (hT : TsOk P T) (hR : R F g st a w) : ∀ {rs : List ResultVar} {us : List U}, resU T st rs = some us → ∃ vs, (rs.mapM (resOne a.tmps)).run P w = .ok vs w ∧ UsR g w us vs
  | [], us, h => by simp only [resU] at h; injection h with h; subst h; exact ⟨[], by simp, trivial⟩
  | .tmp t :: rs, us, h => by
    simp only [resU] at h
    split at h
    · rename_i u hu
      split at h
      · rename_i us' hus
        injection h with h
        subst h
        obtain ⟨vs, h1, h2⟩ := resU_ok hT hR hus
        have := ev_ok hR.s (.tmp t)
        rw [show ev st (.tmp t) = .u u from hu] at this
        exact ⟨a.eval (.tmp t) :: vs, by simp [resOne, h1, List.mapM_cons, Act.eval], this, h2⟩
      · cases h
    · cases h
  | .cell t ty :: rs, us, h => by
    simp only [resU] at h
    split at h
    · rename_i x hx
      cases hb : Nat.blt 0 (T ty).size
      · rw [hb] at h; cases h
      · rw [hb] at h
        simp only [cond_true] at h
        split at h
        · rename_i u hu
          split at h
          · rename_i us' hus
            injection h with h
            subst h
            obtain ⟨vs, h1, h2⟩ := resU_ok hT hR hus
            have hxr := ev_ok hR.s (.tmp t)
            rw [show ev st (.tmp t) = .u (.x x) from hx] at hxr
            obtain ⟨b, v, h3, h4, h5⟩ := loadX_ok hR hT (known hT (blt_ok hR hb)) (show XR g w x (a.eval (.tmp t)) from hxr) hu
            refine ⟨v :: vs, ?_, h5, h2⟩
            have h3' : a.tmps.getD t undef = .pointer (some b) := h3
            simp only [List.mapM_cons, resOne, h3']
            simp [asAddr, h4, h1]
          · cases h
        · cases h
    · cases h
end
end Go.BV

/-
  Functions: what is run is what is called.
-/
namespace Go.BV
section
variable {P : Program} {T : TypeId → TI} {O : FuncId → Option Ora} {F : Fx} {g : Gh} {st : St} {a : Act} {w : World}

theorem results_ok (hT : TsOk P T) (hR : R F g st a w) {fn : Func} {us : List U} (h : resU T st fn.results.toList = some us) : ∃ vs, (results fn a.tmps).run P w = .ok (resVal vs) w ∧ UsR g w us vs := by
  obtain ⟨vs, h1, h2⟩ := resU_ok hT hR h
  refine ⟨vs, ?_, h2⟩
  have he : results fn a.tmps = (do let vs ← fn.results.mapM (resOne a.tmps); pure (if h : vs.size = 1 then vs[0] else .tuple vs)) := by
    unfold results
    congr 2
  rw [he, Array.mapM_eq_mapM_toList]
  simp only [bind_pure_comp, Sem.run_bind, Sem.run_pure]
  have : (List.toArray <$> List.mapM (resOne a.tmps) fn.results.toList).run P w = .ok vs.toArray w := by
    rw [← bind_pure_comp]
    simp [h1]
  rw [← bind_pure_comp, Sem.run_bind, this]
  simp only [Result.andThen_ok, Sem.run_pure]
  congr 1
  cases vs with
  | nil => rfl
  | cons v vs => cases vs with
    | nil => rfl
    | cons u vs => simp [resVal]

theorem args_lt {Z : Nat → Prop} : ∀ {md : List Md} {ds : List DU} {args : List Value} {bs : List Nat}, ArgsR w Z md ds args bs → (∀ b, b ∈ bs → b < w.heap.size) ∧ md.length = args.length ∧ ds.length = args.length := by
  have hss : ∀ (ss : List S) (vs : List Value) (bs : List Nat), MutSs w Z ss vs bs → ∀ b, b ∈ bs → b < w.heap.size := by
    intro ss
    induction ss with
    | nil => intro vs bs h b hb; cases vs with
      | nil => rw [show bs = [] from h] at hb; cases hb
      | cons => exact h.elim
    | cons s ss ih => intro vs bs h b hb; cases vs with
      | nil => exact h.elim
      | cons v vs =>
        obtain ⟨b1, b2, rfl, h1, h2⟩ := h
        rcases List.mem_append.1 hb with hb | hb
        · cases s with
          | sl c =>
            obtain ⟨ho, rfl⟩ := h1
            unfold blks at hb
            split at hb
            · rename_i b' hb'
              have : b = b' := by simpa using hb
              subst this
              exact own_lt ho hb'
            · cases hb
          | _ => obtain ⟨_, rfl⟩ := h1; cases hb
        · exact ih vs b2 h2 b hb
  have hd : ∀ (d : DU) (v : Value) (bs : List Nat), MutD w Z d v bs → ∀ b, b ∈ bs → b < w.heap.size := by
    intro d v bs h b hb
    cases d with
    | x s => exact hss [s] [v] bs ⟨bs, [], by simp, h, rfl⟩ b hb
    | agg cs => obtain ⟨vs, _, h⟩ := h; exact hss cs vs bs h b hb
    | ptr cs =>
      obtain ⟨b', vs, bs', _, hr, h, rfl⟩ := h
      rcases List.mem_cons.1 hb with rfl | hb
      · exact row_lt hr
      · exact hss cs vs bs' h b hb
  intro md
  induction md with
  | nil =>
    intro ds args bs h
    cases ds with
    | nil => cases args with
      | nil => rw [show bs = [] from h]; exact ⟨fun b hb => (by cases hb), rfl, rfl⟩
      | cons => exact h.elim
    | cons => exact h.elim
  | cons m md ih =>
    intro ds args bs h
    cases ds with
    | nil => cases m <;> exact h.elim
    | cons d ds => cases args with
      | nil => cases m <;> exact h.elim
      | cons v args =>
        cases m with
        | val =>
          have := ih h.2
          exact ⟨this.1, by simp [this.2.1], by simp [this.2.2]⟩
        | wr =>
          obtain ⟨b1, b2, rfl, _, h1, h2⟩ := h
          have := ih h2
          refine ⟨fun b hb => ?_, by simp [this.2.1], by simp [this.2.2]⟩
          rcases List.mem_append.1 hb with hb | hb
          · exact hd d v b1 h1 b hb
          · exact this.1 b hb
        | ref =>
          obtain ⟨b1, b2, rfl, _, h1, h2⟩ := h
          have := ih h2
          refine ⟨fun b hb => ?_, by simp [this.2.1], by simp [this.2.2]⟩
          rcases List.mem_append.1 hb with hb | hb
          · exact hd d v b1 h1 b hb
          · exact this.1 b hb
theorem initS_len : ∀ {md : List Md} {ds : List DU} {p : Nat} {vs : List V} {ts : List (Nat × List X)} {us : List (Nat × C)}, initS p md ds = some (vs, ts, us) → vs.length = md.length ∧ p + md.length ≤ 60 ∧ (∀ (i : Nat) (cs : List S), ds[i]? = some (DU.agg cs) → md[i]? = some Md.wr → cs.length < 60)
  | [], [], p, vs, ts, us, h => by
    simp only [initS] at h
    cases hp : Nat.ble p 60
    · rw [hp] at h; cases h
    · rw [hp] at h
      injection h with h
      injection h with h _
      subst h
      exact ⟨rfl, by simpa using Nat.le_of_ble_eq_true hp, fun i cs h => by simp at h⟩
  | m :: md, d :: ds, p, vs, ts, us, h => by
    simp only [initS] at h
    split at h
    · rename_i v1 t1 u1 h1
      split at h
      · rename_i vs2 ts2 us2 h2
        injection h with h
        injection h with e1 _
        subst e1
        obtain ⟨q1, q2, q3⟩ := initS_len h2
        refine ⟨by simp [q1], by simp only [List.length_cons]; omega, fun i cs hi hm => ?_⟩
        cases i with
        | zero =>
          simp at hi hm
          subst hi hm
          simp only [initP] at h1
          cases hl : Nat.blt cs.length 60
          · rw [hl] at h1; cases h1
          · simpa using hl
        | succ i => exact q3 i cs (by simpa using hi) (by simpa using hm)
      · cases h
    · cases h
  | [], _ :: _, _, _, _, _, h => by simp [initS] at h
  | _ :: _, [], _, _, _, _, h => by simp [initS] at h

theorem meets_run (hT : TsOk P T) (hO : OOk P O) (hm : P.follows .mixedOrders = true) {f : FuncId} {fn : Func} {kp : Nat → Option Keep} {md : List Md} {weak : Bool} {ntmps : Nat} {rs : List ResultVar} {body : Code}
    (hf : P.funcs[f]? = some fn) (hb : fn.body = some body) (hn : fn.ntmps = ntmps) (hr : fn.results.toList = rs) :
    Meets P f md weak fun ds out => ∃ fuel, runFn T O kp fuel md weak ntmps rs body ds some = some out := by
  intro w Z args ds bs out hZ hnd ha ⟨fuel, h⟩
  subst hr hn
  obtain ⟨hlt, hl1, hl2⟩ := args_lt ha
  unfold runFn at h
  split at h
  · rename_i vs tabs mus hi
    obtain ⟨hvl, hp60, hcl⟩ := initS_len hi
    let F : Fx := { w0 := w, M := fun b => b ∈ bs, Z0 := Z, mv := mvOf args, tv := tvOf args, Mlt := hlt }
    let g0 : Gh := { own := fun _ => none, tab := fun _ => none, Z := Z }
    let a0 : Act := { tmps := args.toArray ++ Array.replicate (fn.ntmps - args.toArray.size) undef, defers := [] }
    have hsize : a0.tmps.size = args.length + (fn.ntmps - args.length) := by simp [a0]
    have hR0 : R F g0 { tmps := [] ++ List.replicate (args.length + (fn.ntmps - args.length)) (V.u (.x .undef)), tabs := [], mus := [] } a0 w := by
      refine ⟨⟨by simp [hsize], fun i v hv => ?_, rfl, fun n b vs hn => (by cases hn), fun n c hn => (by simp [lk] at hn), fun n b vs _ hn => (by cases hn)⟩, ⟨rfl, rfl, rfl, Nat.le_refl _, fun _ _ _ => rfl, fun b hb => ⟨(hZ b hb).1, (hZ b hb).2, .inl hb⟩, fun b hb => hb, fun n v c hn => (by cases hn), fun n v c b hn => (by cases hn), fun n v c b n' v' c' hn => (by cases hn), fun n b vs hn => (by cases hn), fun n b vs hn => (by cases hn), fun n b vs n' vs' hn => (by cases hn), fun n v c b n' vs hn => (by cases hn)⟩⟩
      simp only [List.nil_append, List.getElem?_replicate] at hv
      split at hv
      · rename_i hlt'
        injection hv with hv
        subst hv
        exact ⟨a0.tmps[i]'(by rw [hsize]; exact hlt'), Array.getElem?_eq_getElem _, trivial⟩
      · cases hv
    obtain ⟨g1, hR1⟩ := init_ok (F := F) (a := a0) (w := w) (args0 := args) rfl rfl (fun b hb => (hZ b hb).2) (p := 0) ha hR0 rfl rfl rfl (fun i v hv => by
        show (args.toArray ++ Array.replicate (fn.ntmps - args.toArray.size) undef)[i]? = some v
        rw [Array.getElem?_append_left (by simpa using (List.getElem?_eq_some_iff.1 hv).1)]
        simpa using hv) (fun n _ => rfl) ⟨fun n x hn => (by cases hn), fun n x hn => (by cases hn), fun n v c b hn => (by cases hn), fun n b vs hn => (by cases hn)⟩ hnd (fun b hb => ⟨hb, fun hz => (hZ b hz).2 hb⟩) hi (by omega)
    simp only [List.nil_append] at hR1
    rw [show args.length + (fn.ntmps - args.length) - vs.length = fn.ntmps - vs.length by omega] at hR1
    refine calls_of_wp hf hb (run_sound hT hO hm body h hR1 fun e st' g' a' w' h1 hR' => ?_)
    have fin : ∀ (hfin : finish T md weak fn.results.toList ds st' some = some out), a'.defers = [] ∧ ∃ v, (results fn a'.tmps).run P w' = .ok v w' ∧ ∃ v' rs bR bU, Ending.returned v = .returned v' ∧ Post w Z md weak args bs out v' w' rs bR bU := by
      intro hfin
      refine ⟨hR'.s.defers, ?_⟩
      unfold finish at hfin
      split at hfin
      · rename_i us hus
        obtain ⟨rv, hrun, hur⟩ := results_ok hT hR' hus
        refine ⟨_, hrun, resVal rv, rv, ?_⟩
        have hw := hR'.w
        split at hfin
        · rename_i upd ns hupd
          -- the names given away are apart from what is read
          have zsub : ∀ (l : List Nat), Stay g'.Z w' (fun b => Z b ∨ (w.heap.size ≤ b ∧ b < w'.heap.size ∧ b ∉ labsB g' l)) w' := by
            intro l b hb
            refine ⟨?_, rfl⟩
            obtain ⟨q1, q2, q3⟩ := hw.Zok b hb
            rcases q3 with q3 | q3
            · exact .inl q3
            · refine .inr ⟨q3, q1, fun hm => ?_⟩
              obtain ⟨m, _, hm⟩ := List.mem_flatMap.1 hm
              rcases labB_mem hm with ⟨n, v, c, _, h2, h3⟩ | ⟨n, vs, _, h2⟩
              · exact (hw.ownP n v c b h2 h3).1 hb
              · exact (hw.tabP n b vs h2).1 hb
          have hub : ∀ b, b ∈ labsB g' ns → b ∈ bs ∨ w.heap.size ≤ b := fun b hb => by
            obtain ⟨m, _, hm⟩ := List.mem_flatMap.1 hb
            rcases labB_mem hm with ⟨n, v, c, _, h2, h3⟩ | ⟨n, vs, _, h2⟩
            · rcases (hw.ownP n v c b h2 h3).2 with q | q
              · exact .inr q
              · exact .inl q.1
            · rcases (hw.tabP n b vs h2).2 with q | q
              · exact .inr q
              · exact .inl q.1
          have hframe : ∀ b, b < w.heap.size → b ∉ bs → w'.heap[b]? = w.heap[b]? := fun b h1 h2 => hw.frame b h1 h2
          cases weak with
          | true =>
            simp only [cond_true] at hfin
            split at hfin
            · rename_i res hres
              cases hb : nodupB ns && ((vToks st'.tb (us.map V.u)).all fun n => !isLow n && !ns.contains (2 * n))
              · rw [hb] at hfin; cases hfin
              · rw [hb] at hfin
                injection hfin with hfin
                subst hfin
                simp only [Bool.and_eq_true, List.all_eq_true, Bool.not_eq_true'] at hb
                have hups := updS_ok (F := F) (args0 := args) rfl rfl hR' (zsub ns) (p := 0) ha rfl (by omega) hupd hcl
                refine ⟨[], labsB g' ns, rfl, ⟨hw.os, hw.tape, hw.output, hw.size, hframe, rfl, fun h => (by cases h), fun _ => ⟨rfl, ?_⟩, fun b hb => (by cases hb), by simpa using hups, hub, by simpa using labs_nodup hw (nodupB_ok hb.1)⟩⟩
                simp only [List.nil_append]
                refine reads_ok hR' (fun b hz => (zsub ns b hz).1) (fun n hn => ?_) hur hres
                obtain ⟨hlow, hnot⟩ := hb.2 n hn
                have hnot : 2 * n ∉ ns := by simpa using hnot
                refine ⟨fun v c b h2 h3 => .inr ⟨?_, own_lt (hw.own n v c h2) h3, fun hm => ?_⟩, fun b vs h2 => .inr ⟨?_, row_lt (hw.tab n b vs h2), fun hm => ?_⟩⟩
                · rcases (hw.ownP n v c b h2 h3).2 with q | q
                  · exact q
                  · rw [hlow] at q; cases q.2
                · obtain ⟨m, hmm, hm⟩ := List.mem_flatMap.1 hm
                  rcases labB_mem hm with ⟨n', v', c', rfl, h4, h5⟩ | ⟨n', vs', rfl, h4⟩
                  · have := hw.ownD n v c b n' v' c' h2 h3 h4 h5
                    subst this
                    exact hnot hmm
                  · exact hw.otD n v c b n' vs' h2 h3 h4
                · rcases (hw.tabP n b vs h2).2 with q | q
                  · exact q
                  · rw [hlow] at q; cases q.2
                · obtain ⟨m, hmm, hm⟩ := List.mem_flatMap.1 hm
                  rcases labB_mem hm with ⟨n', v', c', rfl, h4, h5⟩ | ⟨n', vs', rfl, h4⟩
                  · exact hw.otD n' v' c' b n vs h4 h5 h2
                  · have := hw.tabD n b vs n' vs' h2 h4
                    subst this
                    -- a table that is handed back is one that was handed in
                    have hlow' : isLow n = true := by
                      have key : ∀ (md : List Md) (ds upd : List DU) (ns : List Nat) (p : Nat), updS st' p md ds = some (upd, ns) → p + md.length ≤ 60 → ∀ n, 2 * n + 1 ∈ ns → n < 4096 := by
                        intro md
                        induction md with
                        | nil =>
                          intro ds upd ns p hu _ n hn
                          cases ds with
                          | nil => simp only [updS] at hu; injection hu with hu; injection hu with _ hu; subst hu; cases hn
                          | cons => simp [updS] at hu
                        | cons m md ih =>
                          intro ds upd ns p hu hp n hn
                          simp only [List.length_cons] at hp
                          cases ds with
                          | nil => simp [updS] at hu
                          | cons d ds =>
                            simp only [updS] at hu
                            split at hu
                            · rename_i u1 n1 hu1
                              split at hu
                              · rename_i u2 n2 hu2
                                injection hu with hu
                                injection hu with _ hu
                                subst hu
                                rcases List.mem_append.1 hn with hn | hn
                                · have hM : ∀ (ss ss' : List S) (ns : List Nat) (j : Nat), updM st'.mus p j ss = some (ss', ns) → ∀ m ∈ ns, m % 2 = 0 := by
                                    intro ss
                                    induction ss with
                                    | nil => intro ss' ns j h m hm; simp only [updM] at h; injection h with h; injection h with _ h; subst h; cases hm
                                    | cons s ss ih2 =>
                                      intro ss' ns j h m hm
                                      cases s with
                                      | sl c0 =>
                                        simp only [updM] at h
                                        split at h
                                        · split at h
                                          · rename_i h3
                                            injection h with h
                                            injection h with _ h
                                            subst h
                                            rcases List.mem_cons.1 hm with rfl | hm
                                            · omega
                                            · exact ih2 _ _ _ h3 m hm
                                          · cases h
                                        · cases h
                                      | _ =>
                                        simp only [updM] at h
                                        split at h
                                        · rename_i h3
                                          injection h with h
                                          injection h with _ h
                                          subst h
                                          exact ih2 _ _ _ h3 m hm
                                        · cases h
                                  unfold updP at hu1
                                  split at hu1
                                  · injection hu1 with hu1; injection hu1 with _ hu1; subst hu1; cases hn
                                  · split at hu1
                                    · rename_i h3; injection hu1 with hu1; injection hu1 with _ hu1; subst hu1; have := hM _ _ _ _ h3 _ hn; omega
                                    · cases hu1
                                  · split at hu1
                                    · rename_i h3; injection hu1 with hu1; injection hu1 with _ hu1; subst hu1; have := hM _ _ _ _ h3 _ hn; omega
                                    · cases hu1
                                  · split at hu1
                                    · rename_i k hk
                                      cases hkb : k == 64 * p + 63
                                      · rw [hkb] at hu1; cases hu1
                                      · rw [hkb] at hu1
                                        have hkk : k = 64 * p + 63 := by simpa using hkb
                                        simp only [cond_true] at hu1
                                        split at hu1
                                        · split at hu1
                                          · injection hu1 with hu1; injection hu1 with _ hu1; subst hu1
                                            rcases List.mem_cons.1 hn with hn | hn
                                            · omega
                                            · obtain ⟨m', _, hm'⟩ := List.mem_map.1 hn
                                              omega
                                          · cases hu1
                                        · cases hu1
                                    · cases hu1
                                  · cases hu1
                                · exact ih _ _ _ _ hu2 (by omega) n hn
                              · cases hu
                            · cases hu
                      exact low_of (key md ds upd ns 0 hupd (by omega) n hmm)
                    rw [hlow] at hlow'
                    cases hlow'
            · cases hfin
          | false =>
            simp only [cond_false] at hfin
            split at hfin
            · rename_i res hres
              cases hb : nodupB ((usToks us).map (fun m => 2 * m) ++ ns)
              · rw [hb] at hfin; cases hfin
              · rw [hb] at hfin
                injection hfin with hfin
                subst hfin
                have hz := zsub ((usToks us).map (fun m => 2 * m) ++ ns)
                rw [labs_app] at hz
                have hups := updS_ok (F := F) (args0 := args) rfl rfl hR' hz (p := 0) ha rfl (by omega) hupd hcl
                have hout := outDs_ok hw hz hres hur
                refine ⟨labsB g' ((usToks us).map (fun m => 2 * m)), labsB g' ns, rfl, ⟨hw.os, hw.tape, hw.output, hw.size, hframe, rfl, fun _ => hout.1, fun h => (by cases h), fun b hb' => ?_, hups, hub, by rw [← labs_app]; exact labs_nodup hw (nodupB_ok hb)⟩⟩
                obtain ⟨m, hmm, hm⟩ := List.mem_flatMap.1 hb'
                obtain ⟨n0, hn0, rfl⟩ := List.mem_map.1 hmm
                rcases labB_mem hm with ⟨n, v, c, he, h2, h3⟩ | ⟨n, vs, he, h2⟩
                · have : n0 = n := by omega
                  subst this
                  rcases (hw.ownP _ v c b h2 h3).2 with q | q
                  · exact q
                  · have := hout.2 _ hn0
                    rw [this] at q
                    cases q.2
                · omega
            · cases hfin
        · cases hfin
      · cases hfin
    cases e with
    | normal => exact fin h1
    | ret => exact fin h1
    | exit id => cases h1
  · cases h
end
end Go.BV

/-
  What follows of a run does not change the run; more fuel does no harm; tables of functions and types.
-/
namespace Go.BV
section
variable {ρ σ : Type} {T : TypeId → TI} {O : FuncId → Option Ora}

theorem bifF {α β : Type} {F : α → β} (c : Bool) {a b : β} {a' b' : α} (h1 : a = F a') (h2 : b = F b') : cond c a b = F (cond c a' b') := by cases c <;> assumption
theorem appendC_bind {site : Nat} {dst : Option Tmp} {st : St} {x y : V} {K : St → Option ρ} {K' : St → Option σ} {f : σ → Option ρ} (h : ∀ s, K s = (K' s).bind f) : appendC site dst st x y K = (appendC site dst st x y K').bind f := by
  unfold appendC
  repeat' first
    | rfl
    | exact h _
    | refine bindc _ ?_ ?_
    | refine bindi ?_ ?_
    | split
theorem callF_bind (hO : ∀ f o, O f = some o → Nat1 o) {o : Ora} {g : FuncId} (ho : O g = some o) {site : Nat} {dst : Option Tmp} {vs : List V} {st : St} {K : St → Option ρ} {K' : St → Option σ} {f : σ → Option ρ} (h : ∀ s, K s = (K' s).bind f) : callF o site dst vs st K = (callF o site dst vs st K').bind f := by
  rfl
theorem cv_bind (hO : ∀ f o, O f = some o → Nat1 o) {site : Nat} {op : Op} {e : Operand → V} {tb : Nat → Option (List X)} {K : V → Option (List X) → Option ρ} {K' : V → Option (List X) → Option σ} {f : σ → Option ρ} (h : ∀ v x, K v x = (K' v x).bind f) : cv T O site op e tb K = (cv T O site op e tb K').bind f := by
  rw [cv_nat hO, cv_nat (ρ := σ) hO]
  cases cvD T O site op e tb
  · rfl
  · exact h _ _
theorem wild_bind (hO : ∀ f o, O f = some o → Nat1 o) {site : Nat} {o : Oper} {st : St} {K : St → Option ρ} {K' : St → Option σ} {f : σ → Option ρ} (h : ∀ s, K s = (K' s).bind f) : wild T O site o st K = (wild T O site o st K').map fun r => r.bind f := by
  unfold wild
  split
  · simp only [Option.map_some, Option.some.injEq]
    repeat' first
      | rfl
      | exact h _
      | refine bindc _ ?_ ?_
      | split
  · simp only [Option.map_some, Option.some.injEq]
    split
    · exact h _
    · rfl
  · split
    · simp only [Option.map_some, Option.some.injEq]
      split
      · exact bound_bind fun r s => h _
      · rfl
    · rfl
  · split
    · split
      · rename_i hora
        refine bifF (F := Option.map fun r : Option σ => r.bind f) _ rfl ?_
        simp only [Option.map_some, Option.some.injEq]
        exact callF_bind hO hora h
      · rfl
    · rfl
  · split
    · simp only [Option.map_some, Option.some.injEq]
      split
      · refine bindc _ ?_ rfl
        split
        · exact appendC_bind h
        · rfl
      · rfl
    · rfl
  · rfl

theorem step_bind (hO : ∀ f o, O f = some o → Nat1 o) {dr : Bool} {site : Nat} {o : Oper} {st : St} {K : St → Option ρ} {K' : St → Option σ} {f : σ → Option ρ} (h : ∀ s, K s = (K' s).bind f) : step T O dr site o st K = (step T O dr site o st K').bind f := by
  unfold step
  rw [wild_bind hO h]
  cases wild T O site o st K' with
  | none => exact cv_bind hO fun v x => h _
  | some r =>
    simp only [Option.map_some]
    cases (dr && !isStore o) <;> rfl
theorem guarded_bind {all : List Oper} {o : Oper} {st : St} {y n : St → Option ρ} {y' n' : St → Option σ} {f : σ → Option ρ} (hy : ∀ s, y s = (y' s).bind f) (hn : ∀ s, n s = (n' s).bind f) : guarded all o st y n = (guarded all o st y' n').bind f := by
  unfold guarded
  repeat' first
    | rfl
    | exact hy _
    | exact hn _
    | refine bindc _ ?_ ?_
    | split
theorem opsRun_bind (hO : ∀ f o, O f = some o → Nat1 o) {dr : Bool} {rid : Nat} {all : List Oper} {K : St → Option ρ} {K' : St → Option σ} {f : σ → Option ρ} (h : ∀ s, K s = (K' s).bind f) : ∀ (L : List (Nat × Oper)) (st : St), opsRun T O dr rid all L st K = (opsRun T O dr rid all L st K').bind f
  | [], st => h st
  | (i, o) :: L, st => by
    simp only [opsRun]
    exact guarded_bind (fun s => step_bind hO fun s' => opsRun_bind hO h L s') (fun s => opsRun_bind hO h L _)
theorem iter_bind {body : St → (Ex → St → Option ρ) → Option ρ} {body' : St → (Ex → St → Option σ) → Option σ} {nrm : St → St} {f : σ → Option ρ} (hb : ∀ st (K : Ex → St → Option ρ) (K' : Ex → St → Option σ), (∀ e s, K e s = (K' e s).bind f) → body st K = (body' st K').bind f) {K : Ex → St → Option ρ} {K' : Ex → St → Option σ} (h : ∀ e s, K e s = (K' e s).bind f) :
    ∀ (n : Nat) (st : St), iter body nrm n st K = (iter body' nrm n st K').bind f
  | 0, st => rfl
  | n + 1, st => by
    simp only [iter]
    refine hb _ _ _ fun e s => ?_
    cases e with
    | normal => exact iter_bind hb h n _
    | exit id => exact h _ _
    | ret => exact h _ _
theorem run_bind (hO : ∀ f o, O f = some o → Nat1 o) {kp : Nat → Option Keep} {fuel : Nat} {f : σ → Option ρ} : ∀ (c : Code) (st : St) (K : Ex → St → Option ρ) (K' : Ex → St → Option σ), (∀ e s, K e s = (K' e s).bind f) → run T O kp fuel c st K = (run T O kp fuel c st K').bind f
  | .skip, st, K, K', h => h _ _
  | .label _, st, K, K', h => h _ _
  | .exit _, st, K, K', h => h _ _
  | .ret, st, K, K', h => h _ _
  | .region rid ops dr, st, K, K', h => by
    unfold run
    exact bindc _ (opsRun_bind hO (fun s => h _ s) _ _) rfl
  | .seq a b, st, K, K', h => by
    unfold run
    refine run_bind hO a _ _ _ fun e s => ?_
    cases e with
    | normal => exact run_bind hO b _ _ _ h
    | exit id => exact h _ _
    | ret => exact h _ _
  | .cond c x y, st, K, K', h => by
    unfold run
    split
    · exact bindc _ (run_bind hO x _ _ _ h) (run_bind hO y _ _ _ h)
    · rfl
  | .block id c, st, K, K', h => by
    unfold run
    refine run_bind hO c _ _ _ fun e s => ?_
    cases e with
    | normal => exact h _ _
    | exit id' => exact bindc _ (h _ _) (h _ _)
    | ret => exact h _ _
  | .loop c, st, K, K', h => by
    unfold run
    exact iter_bind (fun st K K' h => run_bind hO c st K K' h) h _ _
  | .rangeFunc .., st, K, K', h => by unfold run; rfl
  | .goto _, st, K, K', h => by unfold run; rfl
  | .scope _, st, K, K', h => by unfold run; rfl
  | .refuse _, st, K, K', h => by unfold run; rfl

/-! ### Fuel -/
theorem iter_mono {body body2 : St → (Ex → St → Option ρ) → Option ρ} {nrm : St → St} {r : ρ} (hb : ∀ st (K K2 : Ex → St → Option ρ), (∀ e s, K e s = some r → K2 e s = some r) → body st K = some r → body2 st K2 = some r) {K K2 : Ex → St → Option ρ} (h : ∀ e s, K e s = some r → K2 e s = some r) :
    ∀ (n m : Nat) (st : St), n ≤ m → iter body nrm n st K = some r → iter body2 nrm m st K2 = some r
  | 0, m, st, hm, hh => by simp [iter] at hh
  | n + 1, 0, st, hm, hh => by omega
  | n + 1, m + 1, st, hm, hh => by
    simp only [iter] at hh ⊢
    refine hb _ _ _ (fun e s he => ?_) hh
    cases e with
    | normal => exact iter_mono hb h n m _ (by omega) he
    | exit id => exact h _ _ he
    | ret => exact h _ _ he
theorem run_mono (hO : ∀ f o, O f = some o → Nat1 o) {kp : Nat → Option Keep} {n m : Nat} (hm : n ≤ m) {r : ρ} : ∀ (c : Code) (st : St) (K K2 : Ex → St → Option ρ), (∀ e s, K e s = some r → K2 e s = some r) → run T O kp n c st K = some r → run T O kp m c st K2 = some r
  | .skip, st, K, K', h, hh => h _ _ hh
  | .label _, st, K, K', h, hh => h _ _ hh
  | .exit _, st, K, K', h, hh => h _ _ hh
  | .ret, st, K, K', h, hh => h _ _ hh
  | .region rid ops dr, st, K, K', h, hh => by
    unfold run at hh ⊢
    cases hb : (Nat.blt ops.size 64 && Nat.blt rid 16000 && (!dr || drawOk ops))
    · rw [hb] at hh; cases hh
    · rw [hb] at hh
      simp only [cond_true] at hh ⊢
      have hk := opsRun_bind (T := T) (dr := dr) (rid := rid) (all := ops.toList) (σ := St) hO (K := fun s => K .normal s) (K' := some) (f := fun s => K .normal s) (fun s => rfl) (numbered 0 ops.toList) (st.clr (ofRegion rid))
      have hk' := opsRun_bind (T := T) (dr := dr) (rid := rid) (all := ops.toList) (σ := St) hO (K := fun s => K' .normal s) (K' := some) (f := fun s => K' .normal s) (fun s => rfl) (numbered 0 ops.toList) (st.clr (ofRegion rid))
      rw [hk] at hh
      rw [hk']
      obtain ⟨s, h1, h2⟩ := Option.bind_eq_some_iff.1 hh
      exact Option.bind_eq_some_iff.2 ⟨s, h1, h _ _ h2⟩
  | .seq a b, st, K, K', h, hh => by
    unfold run at hh ⊢
    refine run_mono hO hm a _ _ _ (fun e s he => ?_) hh
    cases e with
    | normal => exact run_mono hO hm b _ _ _ h he
    | exit id => exact h _ _ he
    | ret => exact h _ _ he
  | .cond c x y, st, K, K', h, hh => by
    unfold run at hh ⊢
    split at hh
    · rename_i b hb
      cases b
      · exact run_mono hO hm y _ _ _ h hh
      · exact run_mono hO hm x _ _ _ h hh
    · cases hh
  | .block id c, st, K, K', h, hh => by
    unfold run at hh ⊢
    refine run_mono hO hm c _ _ _ (fun e s he => ?_) hh
    cases e with
    | normal => exact h _ _ he
    | ret => exact h _ _ he
    | exit id' =>
      have he : (bif id' == id then K .normal s else K (.exit id') s) = some r := he
      show (bif id' == id then K' .normal s else K' (.exit id') s) = some r
      cases hb : id' == id
      · rw [hb] at he; exact h _ _ he
      · rw [hb] at he; exact h _ _ he
  | .loop c, st, K, K', h, hh => by
    unfold run at hh ⊢
    exact iter_mono (fun st K K2 h hh => run_mono hO hm c st K K2 h hh) h _ _ _ hm hh
  | .rangeFunc .., st, K, K', h, hh => by unfold run at hh; cases hh
  | .goto _, st, K, K', h, hh => by unfold run at hh; cases hh
  | .scope _, st, K, K', h, hh => by unfold run at hh; cases hh
  | .refuse _, st, K, K', h, hh => by unfold run at hh; cases hh

theorem finish_bind {md : List Md} {weak : Bool} {rs : List ResultVar} {ds : List DU} {st : St} {K : Out → Option ρ} {K' : Out → Option σ} {f : σ → Option ρ} (h : ∀ o, K o = (K' o).bind f) : finish T md weak rs ds st K = (finish T md weak rs ds st K').bind f := by
  unfold finish
  repeat' first
    | rfl
    | exact h _
    | refine bindc _ ?_ ?_
    | split
theorem runFn_bind (hO : ∀ f o, O f = some o → Nat1 o) {kp : Nat → Option Keep} {fuel : Nat} {md : List Md} {weak : Bool} {nt : Nat} {rs : List ResultVar} {body : Code} {ds : List DU} {K : Out → Option ρ} {K' : Out → Option σ} {f : σ → Option ρ} (h : ∀ o, K o = (K' o).bind f) : runFn T O kp fuel md weak nt rs body ds K = (runFn T O kp fuel md weak nt rs body ds K').bind f := by
  unfold runFn
  split
  · refine run_bind hO body _ _ _ fun e s => ?_
    cases e with
    | exit id => rfl
    | normal => exact finish_bind h
    | ret => exact finish_bind h
  · rfl
theorem runFn_mono (hO : ∀ f o, O f = some o → Nat1 o) {kp : Nat → Option Keep} {n m : Nat} (hm : n ≤ m) {md : List Md} {weak : Bool} {nt : Nat} {rs : List ResultVar} {body : Code} {ds : List DU} {K : Out → Option ρ} {r : ρ} (h : runFn T O kp n md weak nt rs body ds K = some r) : runFn T O kp m md weak nt rs body ds K = some r := by
  unfold runFn at h ⊢
  split at h
  · exact run_mono hO hm body _ _ _ (fun e s he => he) h
  · cases h

/-! ### The value of a run -/
open Classical in
noncomputable def val {α : Type} (f : Nat → Option α) : Option α := if h : ∃ n r, f n = some r then f (Classical.choose h) else none
theorem val_some {α : Type} {f : Nat → Option α} {r : α} (h : val f = some r) : ∃ n, f n = some r := by
  unfold val at h
  split at h
  · exact ⟨_, h⟩
  · cases h
theorem val_of {α : Type} {f : Nat → Option α} (hm : ∀ n m r, n ≤ m → f n = some r → f m = some r) {n : Nat} {r : α} (h : f n = some r) : val f = some r := by
  unfold val
  have hex : ∃ n r, f n = some r := ⟨n, r, h⟩
  rw [dif_pos hex]
  obtain ⟨r', hr'⟩ := Classical.choose_spec hex
  have h1 := hm _ (max n (Classical.choose hex)) _ (Nat.le_max_right _ _) hr'
  have h2 := hm _ (max n (Classical.choose hex)) _ (Nat.le_max_left _ _) h
  rw [h1] at h2
  rw [hr', h2]

/-! ### Tables -/
structure MeetsO (P : Program) (f : FuncId) (o : Ora) : Prop where
  nat : Nat1 o
  meets : ∃ spec, Meets P f o.md o.weak spec ∧ ∀ ds out, o.G ds some = some out → spec ds out
  fn : ∃ fn : Func, P.funcs[f]? = some fn ∧ fn.body.isNone = false ∧ (fn.name == "runtime.NumGoroutine") = false
theorem lk_mem {α : Type _} : ∀ {l : List (Nat × α)} {n : Nat} {a : α}, lk l n = some a → (n, a) ∈ l
  | [], n, a, h => by simp [lk] at h
  | (m, b) :: l, n, a, h => by
    simp only [lk] at h
    cases e : m == n
    · rw [e] at h; exact List.mem_cons_of_mem _ (lk_mem h)
    · rw [e] at h
      injection h with h
      subst h
      have : m = n := by simpa using e
      subst this
      exact List.mem_cons_self ..
theorem ook_list {P : Program} {l : List (FuncId × Ora)} (h : ∀ p ∈ l, MeetsO P p.1 p.2) : OOk P (lk l) :=
  ⟨fun f o ho => (h _ (lk_mem ho)).nat, fun f o ho => (h _ (lk_mem ho)).meets, fun f o ho => (h _ (lk_mem ho)).fn⟩
def tlk (l : List (TypeId × TI)) (t : TypeId) : TI := (lk l t).getD ⟨.other, 0, []⟩
theorem tsok_list {P : Program} {l : List (TypeId × TI)} (h : ∀ p ∈ l, p.2.u ≠ .other ∧ TOk P p.1 p.2) : TsOk P (tlk l) := by
  refine ⟨fun t ht => ?_, fun t ht => ?_⟩
  · unfold tlk at *
    cases e : lk l t with
    | none => rw [e] at ht; exact absurd rfl ht
    | some i => exact (h _ (lk_mem e)).2
  · unfold tlk at *
    cases e : lk l t with
    | none => exact ⟨rfl, rfl⟩
    | some i =>
      rw [e] at ht
      exact absurd ht (h _ (lk_mem e)).1
end
end Go.BV

/-
  What a program's types are; parts of code; helpers for the printed texts.
-/
namespace Go.BV
section
variable {P : Program}

theorem info_size {t : TypeId} {n : Nat} (h : (P.info? t).map TypeInfo.size = some n) : ∃ inf, P.info? t = some inf ∧ inf.size = n := by
  cases e : P.info? t with
  | none => rw [e] at h; cases h
  | some i => rw [e] at h; injection h with h; exact ⟨i, rfl, h⟩
theorem tok_mk {t : TypeId} {u : TU} {n : Nat} {zero : List X} {z : Value} (h1 : (P.info? t).map TypeInfo.size = some n) (h2 : (P.info? t).bind TypeInfo.zero = some z) (h3 : ∀ g w, XsR g w zero z.cells.toList) (h4 : DescOk P t u) : TOk P t ⟨u, n, zero⟩ := by
  refine ⟨?_, h4⟩
  cases e : P.info? t with
  | none => rw [e] at h1; cases h1
  | some i =>
    rw [e] at h1 h2
    injection h1 with h1
    exact ⟨i, z, rfl, h1, h2, h3⟩
theorem zero_ints {k : IntKind} (w : World) (Z : Nat → Prop) (n i : Nat) (h : i < n) : SR w Z (((C.ints k []).zeros n).get i) (.int k 0) := by
  simp [C.zeros, C.get, SR, List.getD_eq_getElem?_getD, List.getElem?_replicate, h]
theorem zero_bools (w : World) (Z : Nat → Prop) (n i : Nat) (h : i < n) : SR w Z (((C.bools []).zeros n).get i) (.bool false) := by
  simp [C.zeros, C.get, SR, List.getD_eq_getElem?_getD, List.getElem?_replicate, h]
theorem zero_strs (w : World) (Z : Nat → Prop) (n i : Nat) (h : i < n) : SR w Z (((C.strs []).zeros n).get i) (.string .empty) := by
  simp [C.zeros, C.get, SR, List.getD_eq_getElem?_getD, List.getElem?_replicate, h]
theorem zero_rows (w : World) (Z : Nat → Prop) (n i : Nat) (h : i < n) : SR w Z (((C.rows []).zeros n).get i) (.slice none 0 0) := by
  have : ((C.rows []).zeros n).get i = .sl (.ints .i64 []) := by simp [C.zeros, C.get, List.getD_eq_getElem?_getD, List.getElem?_replicate, h]
  rw [this]
  exact ⟨none, 0, rfl, Nat.le_refl _, fun h => absurd h (by simp), fun ad h => by cases h⟩
theorem desc_slice {t e : TypeId} {c : C} {d : TypeDesc} {ze : Value} {b : Nat} (h1 : P.underlying t = some (.slice e)) (h2 : match c with | .ints k _ => P.underlying e = some (.int k) | _ => True) (h3 : P.underlying e = some d) (h3' : aggB d = false)
    (h4 : (P.info? e).map TypeInfo.size = some 1) (h5 : (P.info? e).map TypeInfo.bytes = some b) (hb : b ≤ 64) (h6 : (P.info? e).bind TypeInfo.zero = some ze) (h7 : ze.cells = #[ze]) (h8 : ∀ w Z n i, i < n → SR w Z ((c.zeros n).get i) ze) : DescOk P t (.slice c) := by
  cases hi : P.info? e with
  | none => rw [hi] at h4; cases h4
  | some i =>
    rw [hi] at h4 h5 h6
    injection h4 with h4
    injection h5 with h5
    exact ⟨e, i, ze, h1, h2, ⟨d, h3, h3'⟩, hi, h4, by rw [h5]; exact hb, h6, h7, h8⟩
def FldOk (P : Program) : List Field → List (Nat × Nat × Bool) → Prop
  | [], [] => True
  | f :: fs, (o, s, a) :: r => f.offset = o ∧ (P.info? f.type).map TypeInfo.size = some s ∧ (s == 0) = false ∧ (∃ d, P.underlying f.type = some d ∧ a = aggB d) ∧ FldOk P fs r
  | _, _ => False
theorem fld_get : ∀ {fs : List Field} {l : List (Nat × Nat × Bool)}, FldOk P fs l → fs.length = l.length ∧ ∀ (i off size : Nat) (ag : Bool), l[i]? = some (off, size, ag) → ∃ f inf d, fs[i]? = some f ∧ f.offset = off ∧ P.info? f.type = some inf ∧ inf.size = size ∧ size ≠ 0 ∧ P.underlying f.type = some d ∧ ag = aggB d
  | [], [], _ => ⟨rfl, fun i _ _ _ h => by simp at h⟩
  | f :: fs, (o, s, a) :: l, h => by
    obtain ⟨h1, h2, h3, ⟨d, h4, h5⟩, h6⟩ := h
    obtain ⟨q1, q2⟩ := fld_get h6
    refine ⟨by simp [q1], fun i off size ag hi => ?_⟩
    cases i with
    | zero =>
      simp at hi
      obtain ⟨rfl, rfl, rfl⟩ := hi
      obtain ⟨inf, h7, h8⟩ := info_size h2
      exact ⟨f, inf, d, rfl, h1, h7, h8, by simpa using h3, h4, h5⟩
    | succ i => exact q2 i off size ag (by simpa using hi)
  | [], _ :: _, h => h.elim
  | _ :: _, [], h => h.elim
theorem desc_struct {t : TypeId} {fields : Array Field} {l : List (Nat × Nat × Bool)} (h1 : P.underlying t = some (.struct fields)) (h2 : FldOk P fields.toList l) : DescOk P t (.struct l) := by
  obtain ⟨q1, q2⟩ := fld_get h2
  refine ⟨fields, h1, by simpa using q1, fun i off size ag hi => ?_⟩
  obtain ⟨f, inf, d, h3, h4⟩ := q2 i off size ag hi
  exact ⟨f, inf, d, by simpa using h3, h4⟩
end

def cS1 : Code → Code
  | .seq a _ => a
  | c => c
def cS2 : Code → Code
  | .seq _ b => b
  | c => c
def cB : Code → Code
  | .block _ c => c
  | c => c
def cL : Code → Code
  | .loop c => c
  | c => c
def cT : Code → Code
  | .cond _ a _ => a
  | c => c
def cE : Code → Code
  | .cond _ _ b => b
  | c => c
abbrev uu : V := .u (.x .undef)
end Go.BV


/-
  An evaluator of the model's code that tells values by what they hold, and the proof that what it answers is what the machine does (part 3).
-/
import Derived.Test.YtafdeomdhkmjmaaB2
set_option linter.unusedVariables false
set_option linter.unusedSimpArgs false
/-
  Arguments read as data are what the evaluator's functions are told; the law's row.
-/
namespace Go.BV
open Go.ChangeShapes Go.WideShapes Go.RowKit
section
variable {H : Type} {enc : TypeId × Value → H} {P : Program} {w : World} {base : Nat} {spare : Nat → Bool} {held : Bool}

def InK (k : IntKind) (n : Int) : Prop := k.min ≤ n ∧ n ≤ k.max
theorem inK {k : IntKind} {n : Int} (h : (Lit.int k n).wf = true) : InK k n := by simpa [Lit.wf, InK] using h
def Old (w : World) (b : Nat) : Prop := b < w.heap.size
theorem SsR.nil' {Z : Nat → Prop} {cs : List Value} {o : Nat} (h : cs.length ≤ o) : SsR w Z [] (cs.drop o) := by rw [List.drop_eq_nil_of_le h]; trivial
theorem SsR.app {Z : Nat → Prop} : ∀ {a b : List S} {u v : List Value}, SsR w Z a u → SsR w Z b v → SsR w Z (a ++ b) (u ++ v)
  | [], _, [], _, _, h => h
  | _ :: _, _, _ :: _, _, h, k => ⟨h.1, SsR.app h.2 k⟩
  | [], _, _ :: _, _, h, _ => h.elim
  | _ :: _, _, [], _, h, _ => h.elim
theorem SsR.glue {Z : Nat → Prop} {a b : List S} {cs : List Value} {o n : Nat} (h : SsR w Z a ((cs.drop o).take n)) (k : SsR w Z b (cs.drop (o + n))) : SsR w Z (a ++ b) (cs.drop o) := by
  have := h.app k
  rwa [← List.drop_drop, List.take_append_drop] at this
theorem rd_int {t : TypeId} {k : IntKind} (ht : P.underlying t = some (.int k)) {fuel : Nat} {cs : List Value} {x : DataW H × List MemPlace} (h : DataW.trod enc P w base spare held fuel t cs = some x) : ∃ n, SsR w (Old w) [.int k n] cs ∧ InK k n := by
  obtain ⟨n, rfl, _, hw⟩ := DataW.trod_int ht h
  exact ⟨n, ⟨rfl, trivial⟩, inK hw⟩
theorem rd_bool {t : TypeId} (ht : P.underlying t = some .bool) {fuel : Nat} {cs : List Value} {x : DataW H × List MemPlace} (h : DataW.trod enc P w base spare held fuel t cs = some x) : ∃ n, SsR w (Old w) [.bool n] cs := by
  obtain ⟨n, rfl, _⟩ := DataW.trod_bool ht h
  exact ⟨n, rfl, trivial⟩
theorem rd_str {t : TypeId} (ht : P.underlying t = some .string) {fuel : Nat} {cs : List Value} {x : DataW H × List MemPlace} (h : DataW.trod enc P w base spare held fuel t cs = some x) : ∃ s : ByteArray, SsR w (Old w) [.str s] cs ∧ s.size ≤ maxLen := by
  obtain ⟨s, rfl, _, hs⟩ := DataW.trod_string ht h
  exact ⟨s, ⟨rfl, trivial⟩, hs⟩
theorem rd_ints {t e : TypeId} {k : IntKind} (ht : P.underlying t = some (.slice e)) (he : P.underlying e = some (.int k)) (hc : P.cellsOf e = 1) {fuel : Nat} {cs : List Value} {x : DataW H × List MemPlace} (h : DataW.trod enc P w base spare held fuel t cs = some x) :
    ∃ l : List Int, SsR w (Old w) [.sl (.ints k l)] cs ∧ (∀ z ∈ l, InK k z) ∧ l.length ≤ maxLen := by
  rcases DataW.trod_slice ht h with ⟨rfl, _⟩ | ⟨a, len, cap, elems, rest, n, _, rfl, _, _, hlc, hcap, hlen, hel, _⟩
  · exact ⟨[], ⟨⟨none, 0, rfl, Nat.le_refl _, fun h => absurd h (by simp), fun ad h => by cases h⟩, trivial⟩, fun z hz => (by cases hz), Nat.zero_le _⟩
  · have key : ∀ i, i < len → ∃ z, w.cell? (a.add i) = some (.int k z) ∧ InK k z := by
      intro i hi
      have h1 := hel i hi
      have h2 : elems[i]? = some elems[i] := List.getElem?_eq_getElem (by omega)
      rw [h2, hc, Nat.mul_one] at h1
      obtain ⟨cs', h3, h4⟩ := Option.bind_eq_some_iff.1 h1
      obtain ⟨z, rfl, _, hw⟩ := DataW.trod_int he h4
      obtain ⟨_, _, h5⟩ := World.cells?_some h3
      have := h5 0 (by omega)
      rw [show (a.add i).add 0 = a.add i by simp [Addr.add]] at this
      exact ⟨z, this, inK hw⟩
    let f : Nat → Int := fun i => if h : i < len then Classical.choose (key i h) else 0
    have hf : ∀ i, i < len → w.cell? (a.add i) = some (.int k (f i)) ∧ InK k (f i) := fun i hi => by
      have := Classical.choose_spec (key i hi)
      simpa [f, hi] using this
    refine ⟨(List.range len).map f, ⟨⟨some a, cap, ?_, ?_, fun hpos => ⟨a, rfl, ?_, ?_⟩, fun ad had i hi => ?_⟩, trivial⟩, fun z hz => ?_, ?_⟩
    · simp
    · simpa using hlc
    · have h0 := (hf 0 (by simpa using hpos)).1
      rw [show a.add 0 = a by simp [Addr.add]] at h0
      exact World.cell?_spot h0
    · have h0 := (hf 0 (by simpa using hpos)).1
      rw [show a.add 0 = a by simp [Addr.add]] at h0
      unfold World.cell? at h0
      show a.block < w.heap.size
      rcases Nat.lt_or_ge a.block w.heap.size with q | q
      · exact q
      · rw [Array.getElem?_eq_none q] at h0
        cases h0
    · injection had with had
      subst had
      have hi' : i < len := by simpa using hi
      exact ⟨_, (hf i hi').1, by simp [List.getD_eq_getElem?_getD, hi']⟩
    · obtain ⟨i, hi, rfl⟩ := List.mem_map.1 hz
      exact (hf i (by simpa using hi)).2
    · simp; omega

theorem ra_int {t : TypeId} {k : IntKind} (ht : P.underlying t = some (.int k)) {r : Reach} {b0 : Nat} {v : Value} {d : DataW H} {ps : List MemPlace} (hval : Value.okWide P w r b0 t v) (h : DataW.Trod enc P w base spare held t v d ps) : ∃ n, ReadD w (Old w) (.x (.int k n)) v ∧ InK k n := by
  obtain ⟨m, rfl⟩ := okWide_int ht hval
  obtain ⟨fuel, hf⟩ := h
  obtain ⟨n, hs, hk⟩ := rd_int ht hf
  exact ⟨n, hs.1, hk⟩
theorem ra_str {t : TypeId} (ht : P.underlying t = some .string) {r : Reach} {b0 : Nat} {v : Value} {d : DataW H} {ps : List MemPlace} (hval : Value.okWide P w r b0 t v) (h : DataW.Trod enc P w base spare held t v d ps) : ∃ s : ByteArray, ReadD w (Old w) (.x (.str s)) v ∧ s.size ≤ maxLen := by
  obtain ⟨m, rfl⟩ := okWide_string ht hval
  obtain ⟨fuel, hf⟩ := h
  obtain ⟨n, hs, hk⟩ := rd_str ht hf
  exact ⟨n, hs.1, hk⟩
theorem ra_ints {t e : TypeId} {k : IntKind} (ht : P.underlying t = some (.slice e)) (he : P.underlying e = some (.int k)) (hc : P.cellsOf e = 1) {r : Reach} {b0 : Nat} {v : Value} {d : DataW H} {ps : List MemPlace} (hval : Value.okWide P w r b0 t v) (h : DataW.Trod enc P w base spare held t v d ps) :
    ∃ l : List Int, ReadD w (Old w) (.x (.sl (.ints k l))) v ∧ (∀ z ∈ l, InK k z) ∧ l.length ≤ maxLen := by
  obtain ⟨a, len, cap, rfl⟩ := okWide_slice ht hval
  obtain ⟨fuel, hf⟩ := h
  obtain ⟨l, hs, hk⟩ := rd_ints ht he hc hf
  exact ⟨l, hs.1, hk⟩
theorem arg_at {fn : Func} {r : Reach} {b0 : Nat} {args : List Value} (h : ∀ (j : Nat) t v, fn.params[j]? = some t → args.toArray[j]? = some v → Value.okWide P w r b0 t v) {j : Nat} {t : TypeId} {v : Value} (h1 : fn.params[j]? = some t) (h2 : args[j]? = some v) : Value.okWide P w r b0 t v := h j t v h1 (by simpa using h2)
theorem fld_some {α : Type} {n : Nat} {xs : List α} {i : Nat} {o : Option α} (h : o = xs[i]?) (hn : xs.length = n) (hi : i < n) : ∃ y, o = some y := ⟨xs[i]'(by omega), h.trans (List.getElem?_eq_getElem _)⟩
/-! ### The law's row -/
theorem calls_law {f : FuncId} {o : Ora} (hm : MeetsO P f o) {args : List Value} {dus : List DU} (hr : ArgsR w (Old w) o.md dus args []) (hG : o.G dus some = some ⟨[.x (.bool true)], []⟩) :
    Calls P f args.toArray w fun e w' => e = .returned (.bool true) ∧ Go.RowKit.Below w.heap.size w w' := by
  obtain ⟨spec, h1, h2⟩ := hm.meets
  refine (h1 w (Old w) args dus [] _ (fun b hb => ⟨hb, by simp⟩) List.nodup_nil hr (h2 _ _ hG)).mono ?_
  rintro e w' ⟨v, rs, bR, bU, rfl, hp⟩
  refine ⟨?_, ⟨hp.os, hp.tape, hp.output, hp.size, fun b hb => hp.frame b hb (by simp)⟩⟩
  rw [hp.val]
  cases hw : o.weak with
  | false =>
    have := hp.res hw
    cases rs with
    | nil => exact this.elim
    | cons r rs => cases rs with
      | nil =>
        obtain ⟨b1, b2, _, _, h, _⟩ := this
        have h : r = .bool true := h.1
        rw [h]; rfl
      | cons => obtain ⟨_, _, _, _, _, h⟩ := this; exact h.elim
  | true =>
    have := (hp.rdr hw).2
    cases rs with
    | nil => exact this.elim
    | cons r rs => cases rs with
      | nil =>
        have h : r = .bool true := this.1
        rw [h]; rfl
      | cons => exact this.2.elim
theorem trodAll_keep (hl : laidOutB P = true) {W W' : World} (hb : Go.RowKit.Below W.heap.size W W') : ∀ {ts : List TypeId} {vs : List Value} {ds : List (DataW H)} {p : List MemPlace}, (∀ t ∈ ts, P.readableRec t = true ∧ t < P.types.size) → (∀ x ∈ p, x.block < W.heap.size) →
    DataW.TrodAll enc P W 0 (fun _ => true) true ts vs ds p → DataW.TrodAll enc P W' 0 (fun b => decide (b < W.heap.size)) true ts vs ds p
  | [], [], [], p, _, _, h => h
  | t :: ts, v :: vs, d :: ds, p, hr, hlt, h => by
    obtain ⟨q1, q2, h1, h2, rfl⟩ := h
    have ht := hr t (List.mem_cons_self ..)
    exact ⟨q1, q2, Go.RowKit.Below.trod hl ht.1 ht.2 h1 hb (fun x hx => hlt x (List.mem_append_left _ hx)), trodAll_keep hl hb (fun t' h' => hr t' (List.mem_cons_of_mem _ h')) (fun x hx => hlt x (List.mem_append_right _ hx)) h2, rfl⟩
  | [], _ :: _, _, _, _, _, h => h.elim
  | [], [], _ :: _, _, _, _, h => h.elim
  | _ :: _, [], _, _, _, _, h => h.elim
  | _ :: _, _ :: _, [], _, _, _, h => h.elim
theorem trodAll_len : ∀ {ts : List TypeId} {vs : List Value} {ds : List (DataW H)} {p : List MemPlace}, DataW.TrodAll enc P w base spare held ts vs ds p → ds.length = ts.length
  | [], [], [], _, _ => rfl
  | _ :: _, _ :: _, _ :: _, _, h => by obtain ⟨_, _, _, h, _⟩ := h; simp [trodAll_len h]
  | [], _ :: _, _, _, h => h.elim
  | [], [], _ :: _, _, h => h.elim
  | _ :: _, [], _, _, h => h.elim
  | _ :: _, _ :: _, [], _, h => h.elim
theorem law_post {fn : Func} {s : ChangeSpec} {t : TypeId} {W W' : World} {args : Array Value} {ds gs : List (DataW H)} {before : List MemPlace} (hv : s.vars = []) (hs : ∀ (ds : List (DataW H)), ds.length = fn.params.size → s.fn H ds = ⟨[.lit (.bool true)], ds, []⟩)
    (hr : fn.resultTypes = #[t]) (ht : P.underlying t = some .bool) (hl : laidOutB P = true) (hrec : ∀ t ∈ fn.params.toList, P.readableRec t = true ∧ t < P.types.size)
    (hW : DataW.Whole enc P fn.params.toList s.vars false W args.toList ds gs before) (hb : Go.RowKit.Below W.heap.size W W') : s.post enc P fn false true false false W args (.bool true) W' := by
  have hlt := hW.lt
  have hW' := hW
  obtain ⟨p, q, hA, hV, rfl, _, _⟩ := hW
  rw [hv] at hV
  obtain ⟨rfl, rfl⟩ := trodVars_none hV
  have hlen : (ds ++ []).length = fn.params.size := by simpa using trodAll_len hA
  refine ⟨ds, [], _, [], p, [], hW', ?_, ?_, ?_, hb.frame _, fun h => by cases h⟩
  · rw [hs _ hlen, hr]
    exact ⟨[], [], shut_bool ht true, rfl, rfl⟩
  · rw [hs _ hlen]
    simp only [List.append_nil]
    exact trodAll_keep hl hb hrec (fun x hx => hlt x (by simp [hx])) hA
  · rw [hs _ hlen, hv]
    rfl
theorem law_lifted {C : Checked} {os : Os} {f : FuncId} {fn : Func} {s : ChangeSpec} {conds : List PathCond} {t : TypeId} {o : Ora} (own : ownKnob C.prog.godebug = none) (started : os.Started) (noInit : C.prog.inits.idxOf? f = none) (hfn : C.prog.funcs[f]? = some fn)
    (witness : ∃ (w : World) (tape : Tape) (i : Input), w.os = os ∧ (w.forCall tape i).Shaped C.prog ∧ i.vars = [] ∧ Input.okWide C.prog (w.forCall tape i) .any w.heap.size f i ∧
      s.pre6 enc C.prog fn conds false (w.forCall tape i).memory i.args ∧ ({} : Assume).holds C.prog (lone (Frame.enter C.prog f i.args .normal) [] (w.forCall tape i)))
    (hv : s.vars = []) (hs : ∀ (ds : List (DataW H)), ds.length = fn.params.size → s.fn H ds = ⟨[.lit (.bool true)], ds, []⟩)
    (hr : fn.resultTypes = #[t]) (ht : C.prog.underlying t = some .bool) (hl : laidOutB C.prog = true) (hrec : ∀ t ∈ fn.params.toList, C.prog.readableRec t = true ∧ t < C.prog.types.size) (hm : MeetsO C.prog f o)
    (hG : ∀ (W : World) (base : Nat) (args : Array Value) (ds : List (DataW H)) (p : List MemPlace), (∀ (j : Nat) t v, fn.params[j]? = some t → args[j]? = some v → Value.okWide C.prog W .any base t v) → DataW.TrodAll enc C.prog W 0 (fun _ => true) true fn.params.toList args.toList ds p → ∃ dus, ArgsR W (Old W) o.md dus args.toList [] ∧ o.G dus some = some ⟨[.x (.bool true)], []⟩) :
    ReturnsInHanded {} C os f .any (s.pre6 enc C.prog fn conds false) (s.post enc C.prog fn false true false false) := by
  refine returnsInHanded_of_change own started noInit hfn witness ?_
  intro W base args ds gs before hval hW _ _
  have hW2 := hW
  obtain ⟨p, q, hA, _⟩ := hW
  obtain ⟨dus, h1, h2⟩ := hG W base args ds p hval hA
  have h3 := calls_law hm h1 h2
  rw [Array.toArray_toList] at h3
  exact h3.mono fun e W' ⟨he, hb⟩ => ⟨_, he, law_post hv hs hr ht hl hrec hW2 hb⟩
end
end Go.BV

/-
  Plain helpers: numbers that fit, loops that test, loops that build.
-/
namespace Go.BV
theorem w64 {n : Int} (h0 : -9223372036854775808 ≤ n) (h1 : n ≤ 9223372036854775807) : IntKind.i64.wrap n = n := by
  simp only [IntKind.wrap, IntKind.bits, IntKind.signed, Bool.true_and]
  split
  · rename_i h
    have h : n % 2 ^ 64 ≥ 2 ^ (64 - 1) := by simpa using h
    omega
  · rename_i h
    have h : ¬ n % 2 ^ 64 ≥ 2 ^ (64 - 1) := by simpa using h
    omega
theorem in64 {n : Int} : InK .i64 n ↔ -9223372036854775808 ≤ n ∧ n ≤ 9223372036854775807 := by
  simp [InK, IntKind.min, IntKind.max, IntKind.signed, IntKind.bits]
/-- A loop that tests, with a state that it carries. -/
theorem chkS {σ β : Type} {F : Nat → Nat → σ → Option β} {len : Nat} {ok : Nat → Prop} {good : β} {bad : Nat → β} {Inv : Nat → σ → Prop}
    (hstep : ∀ n i s, i < len → Inv i s → (ok i ∧ ∃ s', Inv (i + 1) s' ∧ F (n + 1) i s = F n (i + 1) s') ∨ (¬ ok i ∧ F (n + 1) i s = some (bad i))) (hend : ∀ n s, Inv len s → F (n + 1) len s = some good) :
    ∀ (k i : Nat) (s : σ) (n : Nat), i + k = len → k < n → Inv i s → ((∀ j, i ≤ j → j < len → ok j) ∧ F n i s = some good) ∨ (∃ j, i ≤ j ∧ j < len ∧ ¬ ok j ∧ (∀ j', i ≤ j' → j' < j → ok j') ∧ F n i s = some (bad j))
  | 0, i, s, 0, _, h, _ => by omega
  | 0, i, s, n + 1, h, _, hi => by
    have : i = len := by omega
    subst this
    exact .inl ⟨fun j h1 h2 => by omega, hend n s hi⟩
  | k + 1, i, s, 0, _, h, _ => by omega
  | k + 1, i, s, n + 1, h, hk, hi => by
    rcases hstep n i s (by omega) hi with ⟨h1, s', h2, h3⟩ | ⟨h1, h2⟩
    · rcases chkS hstep hend k (i + 1) s' n (by omega) (by omega) h2 with ⟨h4, h5⟩ | ⟨j, h4, h5, h6, h7, h8⟩
      · refine .inl ⟨fun j q1 q2 => ?_, h3.trans h5⟩
        rcases Nat.eq_or_lt_of_le q1 with rfl | q
        · exact h1
        · exact h4 j q q2
      · refine .inr ⟨j, by omega, h5, h6, fun j' q1 q2 => ?_, h3.trans h8⟩
        rcases Nat.eq_or_lt_of_le q1 with rfl | q
        · exact h1
        · exact h7 j' q q2
    · exact .inr ⟨i, Nat.le_refl _, by omega, h1, fun j' q1 q2 => by omega, h2⟩
/-- The same without a state. -/
theorem chk {β : Type} {F : Nat → Nat → Option β} {len : Nat} {ok : Nat → Prop} {good : β} {bad : Nat → β}
    (hstep : ∀ n i, i < len → (ok i ∧ F (n + 1) i = F n (i + 1)) ∨ (¬ ok i ∧ F (n + 1) i = some (bad i))) (hend : ∀ n, F (n + 1) len = some good) :
    ((∀ j, j < len → ok j) ∧ F (len + 1) 0 = some good) ∨ (∃ j, j < len ∧ ¬ ok j ∧ (∀ j', j' < j → ok j') ∧ F (len + 1) 0 = some (bad j)) := by
  rcases chkS (σ := Unit) (F := fun n i _ => F n i) (Inv := fun _ _ => True) (fun n i s h _ => (hstep n i h).imp (fun h => ⟨h.1, (), trivial, h.2⟩) id) (fun n _ _ => hend n) len 0 () (len + 1) (by omega) (by omega) trivial with ⟨h1, h2⟩ | ⟨j, _, h1, h2, h3, h4⟩
  · exact .inl ⟨fun j h => h1 j (Nat.zero_le _) h, h2⟩
  · exact .inr ⟨j, h1, h2, fun j' h => h3 j' (Nat.zero_le _) h, h4⟩
/-- A loop that builds. -/
theorem bld {σ β : Type} {F : Nat → Nat → σ → Option β} {len : Nat} {out : σ → β} {Inv : Nat → σ → Prop}
    (hstep : ∀ n i s, i < len → Inv i s → ∃ s', Inv (i + 1) s' ∧ F (n + 1) i s = F n (i + 1) s') (hend : ∀ n s, Inv len s → F (n + 1) len s = some (out s)) :
    ∀ (k i : Nat) (s : σ) (n : Nat), i + k = len → k < n → Inv i s → ∃ s', Inv len s' ∧ F n i s = some (out s')
  | 0, i, s, 0, _, h, _ => by omega
  | 0, i, s, n + 1, h, _, hi => by
    have : i = len := by omega
    subst this
    exact ⟨s, hi, hend n s hi⟩
  | k + 1, i, s, 0, _, h, _ => by omega
  | k + 1, i, s, n + 1, h, hk, hi => by
    obtain ⟨s', h2, h3⟩ := hstep n i s (by omega) hi
    obtain ⟨s2, h4, h5⟩ := bld hstep hend k (i + 1) s' n (by omega) (by omega) h2
    exact ⟨s2, h4, h3.trans h5⟩
theorem getD_lt {α : Type} {l : List α} {i : Nat} {d : α} (h : i < l.length) : l.getD i d = l[i] := by simp [List.getD_eq_getElem?_getD, h]
theorem getD_set {α : Type} {s : List α} {j k : Nat} {x d : α} : (s.set j x).getD k d = if j = k ∧ j < s.length then x else s.getD k d := by
  rw [List.getD_eq_getElem?_getD, List.getD_eq_getElem?_getD, List.getElem?_set]
  by_cases h1 : j = k
  · subst h1
    by_cases h2 : j < s.length
    · simp [h2]
    · simp [h2]
  · simp [h1]
theorem getD_mem {l : List Int} {i : Nat} (h : i < l.length) : l.getD i 0 ∈ l := by rw [getD_lt h]; exact List.getElem_mem h
theorem mem_getD {l : List Int} {x : Int} : x ∈ l ↔ ∃ i, i < l.length ∧ l.getD i 0 = x := by
  constructor
  · intro h
    obtain ⟨i, hi, e⟩ := List.getElem_of_mem h
    exact ⟨i, hi, by rw [getD_lt hi]; exact e⟩
  · rintro ⟨i, hi, rfl⟩
    exact getD_mem hi
end Go.BV


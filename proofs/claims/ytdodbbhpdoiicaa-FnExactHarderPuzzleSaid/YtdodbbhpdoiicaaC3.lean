/-
  An evaluator of the model's code that tells values by what they hold, and the proof that what it answers is what the machine does (part 3).
-/
import Derived.Test.YtdodbbhpdoiicaaC2
set_option linter.unusedVariables false
set_option linter.unusedSimpArgs false
/-
  Calls that write: what is handed over.
-/
namespace Go.BV
section
variable {P : Program} {T : TypeId → TI} {O : Env} {F : Fx} {g : Gh} {st : St} {a : Act} {w : World} {o : Oper} {site : Nat} {next : Act → World → Prop} {Q : Exit → Act → World → Prop}

/-! ### Slices that are written no more from the call on -/
structure Frz (l : List Nat) (g g1 : Gh) (st st1 : St) : Prop where
  keep : ∀ n, n ∉ l → g1.own n = g.own n
  sub : ∀ n x, g1.own n = some x → g.own n = some x
  tab : g1.tab = g.tab
  fp : g1.fp = g.fp
  inn : g1.inn = g.inn
  Z : ∀ b, g.Z b → g1.Z b
  Zn : ∀ n ∈ l, ∀ x b, g.own n = some x → g.fp n b → g1.Z b
  Zo : ∀ b, g1.Z b → g.Z b ∨ ∃ n ∈ l, ∃ x, g.own n = some x ∧ g.fp n b
  fr : ∀ m, Fr g m → Fr g1 m
  tb : ∀ m, st.tb m = none → st1.tb m = none
theorem frz_ok : ∀ (l : List Nat) {g : Gh} {st : St}, R F g st a w → (∀ n ∈ l, isLow n = false) → ∃ g1, R F g1 (subs .ro st l) a w ∧ Frz l g g1 st (subs .ro st l)
  | [], g, st, hR, _ => ⟨g, hR, fun _ _ => rfl, fun _ _ h => h, rfl, rfl, rfl, fun _ h => h, (fun _ h => by cases h), fun _ h => .inl h, fun _ h => h, fun _ h => h⟩
  | n :: l, g, st, hR, hl => by
    have hR1 := hR.ro (n := n) (hl n (List.mem_cons_self ..))
    obtain ⟨g2, h1, h2⟩ := frz_ok l hR1 fun m hm => hl m (List.mem_cons_of_mem _ hm)
    refine ⟨g2, h1, fun m hm => ?_, fun m x hm => (ro_own.1 (h2.sub m x hm)).2, h2.tab.trans ro_tab, h2.fp, h2.inn, fun b hb => h2.Z b (.inl hb), fun m hm x b hx hb => ?_, fun b hb => ?_, fun m hm => h2.fr m hm.ro, fun m hm => h2.tb m ?_⟩
    · rw [h2.keep m fun h => hm (List.mem_cons_of_mem _ h)]
      have hmn : m ≠ n := fun e => hm (by rw [e]; exact List.mem_cons_self ..)
      cases hg : g.own m with
      | some x => exact ro_own.2 ⟨hmn, hg⟩
      | none =>
        cases hg' : (g.ro n).own m with
        | none => rfl
        | some x => rw [(ro_own.1 hg').2] at hg; cases hg
    · by_cases e : m = n
      · subst e; exact h2.Z b (.inr ⟨x, hx, hb⟩)
      · rcases List.mem_cons.1 hm with h | h
        · exact absurd h e
        · exact h2.Zn m h x b (ro_own.2 ⟨e, hx⟩) hb
    · rcases h2.Zo b hb with (h | ⟨x, h, h'⟩) | ⟨m, hm, x, h, h'⟩
      · exact .inl h
      · exact .inr ⟨n, List.mem_cons_self .., x, h, h'⟩
      · exact .inr ⟨m, List.mem_cons_of_mem _ hm, x, (ro_own.1 h).2, h'⟩
    · show lk (st.tabs.map fun (k, cs) => (k, cs.map (X.sub n .ro))) m = none
      rw [lk_map (List.map (X.sub n .ro))]
      simp only [St.tb] at hm
      rw [hm]; rfl

/-! ### The names that a call may write to -/
inductive Lb where
  | own (n : Nat)
  | tab (n : Nat)
def Lb.idx : Lb → Nat
  | .own n => 2 * n
  | .tab n => 2 * n + 1
def LB (g : Gh) : Lb → Nat → Prop
  | .own n, b => ∃ v c, g.own n = some (v, c) ∧ g.fp n b ∧ (c.plain = true → v.ownBlock = some b)
  | .tab n, b => ∃ vs, g.tab n = some (b, vs)
theorem LB.bk {x : Lb} {b : Nat} (h : LB g x b) : Bk g x.idx b := by
  cases x with
  | own n => obtain ⟨v, c, h1, h2, _⟩ := h; exact .own h1 h2
  | tab n => obtain ⟨vs, h⟩ := h; exact .tab h
def nmB (g : Gh) (l : List Lb) (b : Nat) : Prop := ∃ x ∈ l, LB g x b
theorem nmB_nil : Nob (nmB g []) := fun b ⟨x, hx, _⟩ => by cases hx
theorem nmB_sep (hw : WG F g w) {l1 l2 : List Lb} (h : ((l1 ++ l2).map Lb.idx).Nodup) : Sep (nmB g (l1 ++ l2)) (nmB g l1) (nmB g l2) := by
  refine ⟨fun b => ⟨fun ⟨x, hx, hb⟩ => ?_, fun h => ?_⟩, fun b ⟨x, hx, hb⟩ ⟨y, hy, hb'⟩ => ?_⟩
  · rcases List.mem_append.1 hx with h | h
    · exact .inl ⟨x, h, hb⟩
    · exact .inr ⟨x, h, hb⟩
  · rcases h with ⟨x, hx, hb⟩ | ⟨x, hx, hb⟩
    · exact ⟨x, List.mem_append_left _ hx, hb⟩
    · exact ⟨x, List.mem_append_right _ hx, hb⟩
  · rw [List.map_append, List.nodup_append] at h
    exact h.2.2 _ (List.mem_map.2 ⟨x, hx, rfl⟩) _ (List.mem_map.2 ⟨y, hy, rfl⟩) (hw.bkD _ _ b hb.bk hb'.bk)
def ownL (l : List Nat) : List Lb := l.map Lb.own
def mLab (tb : Nat → Option (List X)) : List Md → List V → List Lb
  | .val :: ms, _ :: vs => mLab tb ms vs
  | .ref :: ms, .u (.x (.ptr n _)) :: vs => (Lb.tab n :: ownL (match tb n with | some xs => toks xs | none => [])) ++ mLab tb ms vs
  | .ref :: ms, _ :: vs => mLab tb ms vs
  | _ :: ms, .u u :: vs => ownL (toks u.cells) ++ mLab tb ms vs
  | _ :: ms, .tup _ :: vs => mLab tb ms vs
  | _, _ => []
def Lb.name : Lb → Nat
  | .own n => n
  | .tab n => n
theorem idx_name {x : Lb} : x.idx / 2 = x.name := by cases x <;> simp only [Lb.idx, Lb.name] <;> omega
theorem nodup_idx {l : List Lb} (h : (l.map Lb.name).Nodup) : (l.map Lb.idx).Nodup := by
  have : l.map Lb.name = (l.map Lb.idx).map (· / 2) := by rw [List.map_map]; exact List.map_congr_left fun x _ => idx_name.symm
  rw [this] at h
  exact List.Pairwise.of_map _ (fun a b hab e => hab (by rw [e])) h
theorem ownL_name {l : List Nat} : (ownL l).map Lb.name = l := by
  unfold ownL
  rw [List.map_map]
  exact List.map_id _
/-- These are the names of what is handed over to be written. -/
theorem mLab_name {tb : Nat → Option (List X)} : ∀ {md : List Md} {vs : List V}, modesOk tb md vs = true → (mLab tb md vs).map Lb.name = vToks tb (part false md vs)
  | [], [], _ => rfl
  | m :: md, v :: vs, h => by
    simp only [modesOk, Bool.and_eq_true] at h
    have ih := mLab_name h.2
    cases m with
    | val => exact ih
    | ref =>
      cases v with
      | tup => simp at h
      | u u => cases u with
        | agg => simp at h
        | x x => cases x <;> first | (simp at h; done) | skip
                 rename_i n o
                 show ((Lb.tab n :: ownL _) ++ mLab tb md vs).map Lb.name = (n :: _) ++ vToks tb (part false md vs)
                 rw [List.map_append, ih, List.map_cons, ownL_name]
                 rfl
    | wr =>
      cases v with
      | tup => simp at h
      | u u =>
        have hu : uToks tb u = toks u.cells := by
          cases u with
          | agg => rfl
          | x x => cases x <;> first | rfl | (simp [U.cells, mutOk] at h; done) | (simp [uToks, U.cells, toks]; done)
        show (ownL (toks u.cells) ++ mLab tb md vs).map Lb.name = uToks tb u ++ vToks tb (part false md vs)
        rw [List.map_append, ih, ownL_name, hu]
    | ext =>
      cases v with
      | tup => simp at h
      | u u =>
        have hu : uToks tb u = toks u.cells := by
          cases u with
          | agg => rfl
          | x x => cases x <;> first | rfl | (simp [U.cells, mutOk] at h; done) | (simp [uToks, U.cells, toks]; done)
        show (ownL (toks u.cells) ++ mLab tb md vs).map Lb.name = uToks tb u ++ vToks tb (part false md vs)
        rw [List.map_append, ih, ownL_name, hu]
  | [], _ :: _, h => by simp [modesOk] at h
  | _ :: _, [], h => by simp [modesOk] at h

/-! ### The values -/
section
variable {Z' : Nat → Prop} {pos env : Nat → Option Nat}
theorem OW.reB {v : Value} {Z : Nat → Prop} {c : C} {B B' : Nat → Prop} {I I' : Nat → Value} (hp : c.plain = true) (h : OW w Z v c B I) (hB : ∀ b, v.ownBlock = some b → B' b) : OW w Z v c B' I' := by
  rcases h with h | ⟨b, off, cap, l, rfl, h1, h2, h3, h4, h5⟩
  · exact .inl h
  · exact .inr ⟨b, off, cap, l, rfl, h1, h2, h3, hB b rfl, (cells_plain hp).2 ((cells_plain hp).1 h5)⟩
theorem mutM_ok (hR : R F g st a w) (hz : ∀ b, g.Z b → Z' b) (he : ∀ n p, pos n = some p → ∀ b vs, g.tab n = some (b, vs) → env p = some b) {x : X} {s : S} {v : Value} (hm : mutOk x = true) (h : x.toM pos = some s) (hx : XR g w x v) : MutS w Z' env s v (nmB g (ownL x.toks)) := by
  have hst : Stay g.Z w Z' w := fun b hb => ⟨hz b hb, rfl⟩
  have none : x.toks = [] → Nob (nmB g (ownL x.toks)) := fun e => by rw [e]; exact nmB_nil
  have read : x.toks = [] → x.toS pos = some s → DR w Z' env s v := fun e h => toS_read hR.w hz he (fun n hn => by rw [e] at hn; cases hn) hx h
  cases x <;> simp only [mutOk] at hm <;> try (cases hm; done)
  case int => injection h with h; subst h; exact ⟨hx, none rfl⟩
  case bool => injection h with h; subst h; exact ⟨hx, none rfl⟩
  case str => injection h with h; subst h; exact ⟨hx, none rfl⟩
  case nil c => injection h with h; subst h; exact ⟨hm, fun _ => undef, .inl hx⟩
  case ro c => injection h with h; subst h; exact ⟨CR.mono hst hx, none rfl⟩
  case rop b cs o =>
    have h1 : (X.rop b cs o).toS pos = some s := h
    obtain rfl : o = 0 := by simpa using hm
    have := read rfl h1
    simp only [X.toS, beq_self_eq_true, cond_true, Option.some.injEq] at h1
    subst h1
    exact ⟨this, none rfl⟩
  case nilp =>
    have h1 : (X.nilp).toS pos = some s := h
    have := read rfl h1
    simp only [X.toS, Option.some.injEq] at h1
    subst h1
    exact ⟨this, none rfl⟩
  case fn f first caps =>
    have h1 : (X.fn f first caps).toS pos = some s := h
    have := read rfl h1
    simp only [X.toS] at h1
    split at h1
    · injection h1 with h1
      subst h1
      exact ⟨this, none rfl⟩
    · cases h1
  case own n c =>
    injection h with h; subst h
    have hx : g.own n = some (v, c) := hx
    have how := (hR.w.own n v c hx).mono hst (fun _ h => h) fun _ _ => rfl
    refine ⟨hm, ?_⟩
    cases hp : c.plain with
    | true => exact ⟨_, how.reB (I' := g.inn n) hp fun b hb => ⟨.own n, by simp [ownL, X.toks], v, c, hx, own_block hR hx hb, fun _ => hb⟩⟩
    | false => exact ⟨_, how.mono (Stay.refl _ _) (fun b hb => ⟨.own n, by simp [ownL, X.toks], v, c, hx, hb, fun h => by rw [hp] at h; cases h⟩) fun _ _ => rfl⟩
theorem mutMs_ok (hR : R F g st a w) (hz : ∀ b, g.Z b → Z' b) (he : ∀ n p, pos n = some p → ∀ b vs, g.tab n = some (b, vs) → env p = some b) : ∀ {xs : List X} {ss : List S} {vs : List Value}, xs.all mutOk = true → ((ownL (toks xs)).map Lb.idx).Nodup → toMs pos xs = some ss → XsR g w xs vs → MutSs w Z' env ss vs (nmB g (ownL (toks xs)))
  | [], ss, [], _, _, h, _ => by simp only [toMs] at h; injection h with h; subst h; exact nmB_nil
  | x :: xs, ss, v :: vs, hm, hnd, h, hx => by
    simp only [List.all_cons, Bool.and_eq_true] at hm
    simp only [toMs] at h
    split at h
    · rename_i s hs
      split at h
      · rename_i ss' hss
        injection h with h
        subst h
        have e : ownL (toks (x :: xs)) = ownL x.toks ++ ownL (toks xs) := by simp [ownL, toks]
        rw [e] at hnd ⊢
        have hnd2 : ((ownL (toks xs)).map Lb.idx).Nodup := by rw [List.map_append, List.nodup_append] at hnd; exact hnd.2.1
        exact ⟨_, _, nmB_sep hR.w hnd, mutM_ok hR hz he hm.1 hs hx.1, mutMs_ok hR hz he hm.2 hnd2 hss hx.2⟩
      · cases h
    · cases h
  | [], _, _ :: _, _, _, _, hx => hx.elim
  | _ :: _, _, [], _, _, _, hx => hx.elim
theorem mutU_ok (hR : R F g st a w) (hz : ∀ b, g.Z b → Z' b) (he : ∀ n p, pos n = some p → ∀ b vs, g.tab n = some (b, vs) → env p = some b) {m : Md} (hmv : m = .wr ∨ m = .ext) {u : U} {d : DU} {v : Value} (hm : u.cells.all mutOk = true) (hnd : ((ownL (toks u.cells)).map Lb.idx).Nodup) (h : toDU st.tb pos m u = some d) (hx : UR g w u v) : Fits m d ∧ MutD w Z' env d v (nmB g (ownL (toks u.cells))) := by
  cases u with
  | agg xs =>
    have h' : (match toMs pos xs with | some ss => some (DU.agg ss) | none => none) = some d := by rcases hmv with rfl | rfl <;> exact h
    split at h'
    · rename_i ss hss
      injection h' with h'
      subst h'
      obtain ⟨vs, rfl, hxs⟩ := hx
      exact ⟨by rcases hmv with rfl | rfl <;> trivial, vs, rfl, mutMs_ok hR hz he hm hnd hss hxs⟩
    · cases h'
  | x x =>
    simp only [U.cells, List.all_cons, List.all_nil, Bool.and_true] at hm
    have h' : (match x.toM pos with | some s => some (DU.x s) | none => none) = some d := by
      rcases hmv with rfl | rfl <;> (cases x <;> first | exact h | (simp [mutOk] at hm; done))
    split at h'
    · rename_i s hs
      injection h' with h'
      subst h'
      refine ⟨by rcases hmv with rfl | rfl <;> trivial, ?_⟩
      have e : toks (U.x x).cells = x.toks := by simp [U.cells, toks]
      rw [e]
      exact mutM_ok hR hz he hm hs hx
    · cases h'
theorem args_ok (hR : R F g st a w) (hz : ∀ b, g.Z b → Z' b) (he : ∀ n p, pos n = some p → ∀ b vs, g.tab n = some (b, vs) → env p = some b) : ∀ {md : List Md} {xs : List V} {ds : List DU} {us : List Value}, modesOk st.tb md xs = true → ((mLab st.tb md xs).map Lb.idx).Nodup → xs.length = us.length → (∀ (i : Nat) x v, xs[i]? = some x → us[i]? = some v → VR g w x v) →
    (∀ n ∈ vToks st.tb (part true md xs), Sees g Z' n) → (∀ n o, V.u (.x (.ptr n o)) ∈ part true md xs → ∀ b l, g.tab n = some (b, l) → Z' b) → toDUs st.tb pos md xs = some ds → ArgsR w Z' env md ds us (nmB g (mLab st.tb md xs))
  | [], [], ds, [], _, _, _, _, _, _, h => by simp only [toDUs] at h; injection h with h; subst h; exact nmB_nil
  | m :: md, x :: xs, ds, v :: us, hm, hnd, hl, hx, ht, hp, h => by
    simp only [modesOk, Bool.and_eq_true] at hm
    cases x with
    | tup us => simp [toDUs] at h
    | u u =>
      simp only [toDUs] at h
      split at h
      · rename_i d hd
        split at h
        · rename_i ds' hds
          injection h with h
          subst h
          have hx0 : UR g w u v := hx 0 (.u u) v rfl rfl
          have hx' : ∀ (i : Nat) y z, xs[i]? = some y → us[i]? = some z → VR g w y z := fun i y z hy hz' => hx (i + 1) y z (by simpa using hy) (by simpa using hz')
          cases m with
          | val =>
            have e : part true (.val :: md) (.u u :: xs) = .u u :: part true md xs := rfl
            rw [e] at ht hp
            exact ⟨toDU_read hR.s hR.w hz he (fun n hn => ht n (List.mem_append_left _ hn)) (fun n o e => hp n o (by rw [e]; exact List.mem_cons_self ..)) hx0 hd, args_ok hR hz he hm.2 hnd (by simpa using hl) hx' (fun n hn => ht n (List.mem_append_right _ hn)) (fun n o h => hp n o (List.mem_cons_of_mem _ h)) hds⟩
          | wr =>
            have e : mLab st.tb (.wr :: md) (.u u :: xs) = ownL (toks u.cells) ++ mLab st.tb md xs := by cases u <;> rfl
            rw [e] at hnd ⊢
            have hnd' := hnd
            rw [List.map_append, List.nodup_append] at hnd'
            obtain ⟨q1, q2⟩ := mutU_ok hR hz he (.inl rfl) hm.1 hnd'.1 hd hx0
            exact ⟨_, _, nmB_sep hR.w hnd, q1, q2, args_ok hR hz he hm.2 hnd'.2.1 (by simpa using hl) hx' ht hp hds⟩
          | ext =>
            have e : mLab st.tb (.ext :: md) (.u u :: xs) = ownL (toks u.cells) ++ mLab st.tb md xs := by cases u <;> rfl
            rw [e] at hnd ⊢
            have hnd' := hnd
            rw [List.map_append, List.nodup_append] at hnd'
            have hmu : u.cells.all mutOk = true := List.all_eq_true.2 fun y hy => by
              have := List.all_eq_true.1 hm.1 y hy
              simp only [Bool.and_eq_true] at this
              exact this.1
            obtain ⟨q1, q2⟩ := mutU_ok hR hz he (.inr rfl) hmu hnd'.1 hd hx0
            exact ⟨_, _, nmB_sep hR.w hnd, q1, q2, args_ok hR hz he hm.2 hnd'.2.1 (by simpa using hl) hx' ht hp hds⟩
          | ref =>
            cases u with
            | agg => simp at hm
            | x y =>
              cases y <;> first | (simp at hm; done) | skip
              rename_i n k
              have e : mLab st.tb (.ref :: md) (.u (.x (.ptr n k)) :: xs) = (Lb.tab n :: ownL (match st.tb n with | some xs => toks xs | none => [])) ++ mLab st.tb md xs := rfl
              rw [e] at hnd ⊢
              have hnd' := hnd
              rw [List.map_append, List.nodup_append] at hnd'
              obtain ⟨b, vs, hg, rfl⟩ := hx0
              obtain ⟨ys, h2, h3⟩ := hR.s.tabs n b vs hg
              have hsep := nmB_sep hR.w hnd
              simp only [h2] at hnd' hm hsep
              simp only [toDU] at hd
              cases hk : k == 0
              · rw [hk] at hd; cases hd
              · rw [hk] at hd
                simp only [cond_true, h2] at hd
                have hk0 : k = 0 := by simpa using hk
                subst hk0
                split at hd
                · rename_i ss hss
                  injection hd with hd
                  subst hd
                  have hnd2 : ((ownL (toks ys)).map Lb.idx).Nodup := by
                    have := hnd'.1
                    rw [List.map_cons, List.nodup_cons] at this
                    exact this.2
                  have hs2 := nmB_sep (l1 := [Lb.tab n]) (l2 := ownL (toks ys)) hR.w hnd'.1
                  refine ⟨_, _, by simpa only [h2] using hsep, trivial, ⟨b, vs, _, rfl, hR.w.tab n b vs hg, mutMs_ok hR hz he hm.1 hnd2 hss h3, ⟨fun x => ?_, fun x hx' hx2 => ?_⟩⟩, args_ok hR hz he hm.2 hnd'.2.1 (by simpa using hl) hx' ht hp hds⟩
                  · rw [show nmB g (Lb.tab n :: ownL (toks ys)) x ↔ _ from hs2.all x]
                    have e1 : nmB g [Lb.tab n] x ↔ x = b := by
                      constructor
                      · rintro ⟨y, hy, hb⟩
                        simp at hy
                        subst hy
                        obtain ⟨vs', hb⟩ := hb
                        rw [hg] at hb
                        injection hb with hb
                        injection hb with hb
                        exact hb.symm
                      · intro e
                        subst e
                        exact ⟨.tab n, by simp, vs, hg⟩
                    rw [e1]
                  · subst hx'
                    exact hs2.dis _ ⟨.tab n, by simp, vs, hg⟩ hx2
                · cases hd
        · cases h
      · cases h
  | [], _ :: _, _, _, hm, _, _, _, _, _, _ => by simp [modesOk] at hm
  | _ :: _, [], _, _, hm, _, _, _, _, _, _ => by simp [modesOk] at hm
  | [], [], _, _ :: _, _, _, hl, _, _, _, _ => by simp at hl
  | _ :: _, _ :: _, _, [], _, _, hl, _, _, _, _ => by simp at hl
end
end
end Go.BV

/-
  Calls that write: what they were handed holds afterwards.
-/
namespace Go.BV
/-- As UpdR, without what was written behind its end alone. -/
def UpdW (w : World) (Z : Nat → Prop) (env : Nat → Option Nat) : List Md → List DU → List Value → (Nat → Prop) → Prop
  | [], [], [], B => Nob B
  | .val :: ms, us, _ :: vs, B => UpdW w Z env ms us vs B
  | .ext :: ms, us, _ :: vs, B => UpdW w Z env ms us vs B
  | .wr :: ms, u :: us, v :: vs, B => ∃ B1 B2, Sep B B1 B2 ∧ Fits .wr u ∧ MutD w Z env u v B1 ∧ UpdW w Z env ms us vs B2
  | .ref :: ms, u :: us, v :: vs, B => ∃ B1 B2, Sep B B1 B2 ∧ Fits .ref u ∧ MutD w Z env u v B1 ∧ UpdW w Z env ms us vs B2
  | _, _, _, _ => False
/-- The names of what is written behind its end alone. -/
def eNames : List Md → List V → List Nat
  | .ext :: ms, .u u :: vs => toks u.cells ++ eNames ms vs
  | _ :: ms, _ :: vs => eNames ms vs
  | _, _ => []
section
variable {P : Program} {T : TypeId → TI} {O : Env} {F : Fx} {g h : Gh} {st : St} {a : Act} {w w' : World} {o : Oper} {site : Nat}

/-- What such a slice holds behind the call. -/
def ExtOk (g : Gh) (w' : World) (Z : Nat → Prop) (B : Nat → Prop) (n : Nat) : Prop := ∃ v c, g.own n = some (v, c) ∧ c.plain = true ∧ c.flat = true ∧ ∃ Bn In, OW w' Z v c Bn In ∧ ∀ b, Bn b → B b
theorem ext_cells {Z : Nat → Prop} {pos env : Nat → Option Nat} : ∀ {xs : List X} {ss : List S} {vs : List Value} {B : Nat → Prop}, (∀ x ∈ xs, mutOk x = true ∧ ∀ n c, x = .own n c → c.plain = true ∧ c.flat = true) → XsR g w xs vs → toMs pos xs = some ss → MutSs w' Z env ss vs B → ∀ n ∈ toks xs, ExtOk g w' Z B n
  | [], _, _, _, _, _, _, _, n, hn => by cases hn
  | x :: xs, ss, v :: vs, B, hx0, hx, h, hm, n, hn => by
    simp only [toMs] at h
    split at h
    · rename_i s hs
      split at h
      · rename_i ss' hss
        injection h with h
        subst h
        obtain ⟨B1, B2, hB, hm1, hm2⟩ := hm
        simp only [toks, List.mem_append] at hn
        rcases hn with hn | hn
        · have hx1 := hx0 x (List.mem_cons_self ..)
          cases x <;> simp only [X.toks, List.mem_cons, List.not_mem_nil, or_false] at hn
          case own m c =>
            subst hn
            simp only [X.toM, Option.some.injEq] at hs
            subst hs
            obtain ⟨_, I, how⟩ := hm1
            exact ⟨v, c, hx.1, (hx1.2 _ _ rfl).1, (hx1.2 _ _ rfl).2, B1, I, how, fun b hb => (hB.all b).2 (.inl hb)⟩
          case bw m c i => exact absurd hx1.1 (by simp [mutOk])
        · obtain ⟨v', c', q1, q2, q3, Bn, In, q4, q5⟩ := ext_cells (fun y hy => hx0 y (List.mem_cons_of_mem _ hy)) hx.2 hss hm2 n hn
          exact ⟨v', c', q1, q2, q3, Bn, In, q4, fun b hb => (hB.all b).2 (.inr (q5 b hb))⟩
      · cases h
    · cases h
  | _ :: _, _, [], _, _, hx, _, _, _, _ => hx.elim
theorem upd_split {Z : Nat → Prop} {tb : Nat → Option (List X)} {pos env : Nat → Option Nat} : ∀ {md : List Md} {xs : List V} {ds us : List DU} {vs : List Value} {BU : Nat → Prop}, modesOk tb md xs = true → xs.length = vs.length → (∀ (i : Nat) x v, xs[i]? = some x → vs[i]? = some v → VR g w x v) → toDUs tb pos md xs = some ds → UpdR w' Z env md ds us vs BU →
    ∃ BW, (∀ b, BW b → BU b) ∧ UpdW w' Z env md us vs BW ∧ ∀ n ∈ eNames md xs, ∃ BE, ExtOk g w' Z BE n ∧ (∀ b, BE b → BU b ∧ ¬ BW b)
  | [], [], ds, us, vs, BU, hm, hl, hx, hd, h => by
    cases vs with
    | cons => simp at hl
    | nil =>
      simp only [toDUs] at hd
      injection hd with hd
      subst hd
      cases us with
      | cons => exact h.elim
      | nil => exact ⟨BU, fun _ h => h, h, (fun n hn => by cases hn)⟩
  | m :: md, x :: xs, ds, us, vs, BU, hm, hl, hx, hd, h => by
    cases vs with
    | nil => simp at hl
    | cons v vs =>
    simp only [modesOk, Bool.and_eq_true] at hm
    cases x with
    | tup => simp [toDUs] at hd
    | u u =>
      simp only [toDUs] at hd
      split at hd
      case h_2 => cases hd
      rename_i d hd1
      split at hd
      case h_2 => cases hd
      rename_i ds' hds
      injection hd with hd
      subst hd
      have hx' : ∀ (i : Nat) y z, xs[i]? = some y → vs[i]? = some z → VR g w y z := fun i y z hy hz' => hx (i + 1) y z (by simpa using hy) (by simpa using hz')
      have hl' : xs.length = vs.length := by simpa using hl
      have hx0 : UR g w u v := hx 0 (.u u) v rfl rfl
      cases m with
      | val =>
        obtain ⟨BW, q1, q2, q3⟩ := upd_split hm.2 hl' hx' hds h
        exact ⟨BW, q1, q2, q3⟩
      | ext =>
        obtain ⟨B1, B2, hB, hmu, h⟩ := h
        obtain ⟨BW, q1, q2, q3⟩ := upd_split hm.2 hl' hx' hds h
        refine ⟨BW, fun b hb => (hB.all b).2 (.inr (q1 b hb)), q2, fun n hn => ?_⟩
        rcases List.mem_append.1 hn with hn | hn
        · refine ⟨B1, ?_, fun b hb => ⟨(hB.all b).2 (.inl hb), fun hw => hB.dis b hb (q1 b hw)⟩⟩
          have hc : ∀ y ∈ u.cells, mutOk y = true ∧ ∀ n c, y = .own n c → c.plain = true ∧ c.flat = true := fun y hy => by
            have := List.all_eq_true.1 hm.1 y hy
            simp only [Bool.and_eq_true] at this
            refine ⟨this.1, fun n c e => ?_⟩
            subst e
            simpa only [Bool.and_eq_true] using this.2
          cases u with
          | agg ys =>
            simp only [toDU] at hd1
            split at hd1
            case h_2 => cases hd1
            rename_i ss hss
            injection hd1 with hd1
            subst hd1
            obtain ⟨us', rfl, hxs⟩ := hx0
            obtain ⟨us2, e, hmu⟩ := hmu
            injection e with e
            have e : us' = us2 := by simpa using e
            subst e
            exact ext_cells hc hxs hss hmu n hn
          | x y =>
            have h' : (match y.toM pos with | some s => some (DU.x s) | none => none) = some d := by
              have := hc y (List.mem_cons_self ..)
              cases y <;> first | exact hd1 | (simp [mutOk] at this; done)
            split at h'
            case h_2 => cases h'
            rename_i s hs
            injection h' with h'
            subst h'
            exact ext_cells (xs := [y]) (ss := [s]) (vs := [v]) (pos := pos) hc ⟨hx0, trivial⟩ (by simp [toMs, hs]) ⟨B1, fun _ => False, ⟨fun b => by simp, fun _ _ h => h⟩, hmu, fun _ h => h⟩ n hn
        · obtain ⟨BE, p1, p2⟩ := q3 n hn
          exact ⟨BE, p1, fun b hb => ⟨(hB.all b).2 (.inr (p2 b hb).1), (p2 b hb).2⟩⟩
      | wr =>
        cases us with
        | nil => exact h.elim
        | cons u' us =>
          obtain ⟨B1, B2, hB, hf, hmu, h⟩ := h
          obtain ⟨BW, q1, q2, q3⟩ := upd_split hm.2 hl' hx' hds h
          refine ⟨fun b => B1 b ∨ BW b, fun b hb => (hB.all b).2 (hb.imp id (q1 b)), ⟨B1, BW, ⟨fun _ => Iff.rfl, fun b x y => hB.dis b x (q1 b y)⟩, hf, hmu, q2⟩, fun n hn => ?_⟩
          obtain ⟨BE, p1, p2⟩ := q3 n hn
          exact ⟨BE, p1, fun b hb => ⟨(hB.all b).2 (.inr (p2 b hb).1), fun hw => hw.elim (fun x => hB.dis b x (p2 b hb).1) (p2 b hb).2⟩⟩
      | ref =>
        cases us with
        | nil => exact h.elim
        | cons u' us =>
          obtain ⟨B1, B2, hB, hf, hmu, h⟩ := h
          obtain ⟨BW, q1, q2, q3⟩ := upd_split hm.2 hl' hx' hds h
          refine ⟨fun b => B1 b ∨ BW b, fun b hb => (hB.all b).2 (hb.imp id (q1 b)), ⟨B1, BW, ⟨fun _ => Iff.rfl, fun b x y => hB.dis b x (q1 b y)⟩, hf, hmu, q2⟩, fun n hn => ?_⟩
          obtain ⟨BE, p1, p2⟩ := q3 n hn
          exact ⟨BE, p1, fun b hb => ⟨(hB.all b).2 (.inr (p2 b hb).1), fun hw => hw.elim (fun x => hB.dis b x (p2 b hb).1) (p2 b hb).2⟩⟩
  | [], _ :: _, _, _, _, _, hm, _, _, _, _ => by simp [modesOk] at hm
  | _ :: _, [], _, _, _, _, hm, _, _, _, _ => by simp [modesOk] at hm

/-! ### Names that wait -/
variable {q : Nat → Bool}
theorem hide_set {n : Nat} {x : Value × C} {B : Nat → Prop} {I : Nat → Value} (hq : q (2 * n) = true) : (h.hide q).setOwn n x B I = ((h.hide (only n)).setOwn n x B I).hide (less q (2 * n)) := by
  have e1 : ∀ m, m ≠ n → only n (2 * m) = false := fun m hm => by simp only [only, beq_eq_false_iff_ne]; omega
  have e2 : ∀ m, only n (2 * m + 1) = false := fun m => by simp only [only, beq_eq_false_iff_ne]; omega
  have e3 : ∀ m, m ≠ n → less q (2 * n) (2 * m) = q (2 * m) := fun m hm => by
    have : (2 * m == 2 * n) = false := by simp only [beq_eq_false_iff_ne]; omega
    simp [less, this]
  refine gh_ext (fun m => ?_) (fun m => ?_) rfl rfl rfl (fun m => ?_)
  · by_cases e : m = n
    · subst e; simp [Gh.setOwn, Gh.hide, less]
    · simp only [Gh.setOwn, Gh.hide, if_neg e, e1 m e, e3 m e, cond_false]
  · have : (2 * m + 1 == 2 * n) = false := by simp only [beq_eq_false_iff_ne]; omega
    simp [Gh.setOwn, Gh.hide, e2 m, less, this]
  · simp only [Gh.setOwn, Gh.hide]
    cases hs : h.sus m with
    | none => rfl
    | some y =>
      obtain ⟨v, c, j⟩ := y
      simp only
      by_cases em : m = n
      · subst em; simp [hq, only]
      · by_cases ej : j = n
        · subst ej
          have : only j (2 * j) = true := by simp [only]
          simp [hq, this]
        · simp [e1 m em, e1 j ej, e3 m em, e3 j ej]
theorem RP.wr {s : Sb} (r : RP F h st a w q) {n : Nat} {v : Value} {c : C} {B : Nat → Prop} {I : Nat → Value} (hs : match s with | .setc _ => True | .hole _ => True | .row _ _ => True | .ro => False) (hq : q (2 * n) = true) (hn : h.own n = some (v, c)) (hl : c.len = (s.on c).len) (ho : OW w h.Z v (s.on c) B I)
    (hf : ∀ b, B b → b < w.heap.size ∧ Free (h.hide q) b ∧ (F.w0.heap.size ≤ b ∨ (F.M b ∧ isLow n = true))) : RP F ((h.hide (only n)).setOwn n (v, s.on c) B I) (st.sub n s) a w (less q (2 * n)) := by
  refine ⟨r.s.sub hs (Stay.refl _ _) hn hl, ?_⟩
  have h1 := r.w.newOwn (n := n) (v := v) (c := s.on c) (by simp [Gh.hide, hq]) (by
    cases e : (h.hide q).sus n with
    | none => rfl
    | some x => obtain ⟨v, c, j⟩ := x; have := (hide_sus.1 e).1.1; rw [hq] at this; cases this) ho hf
  rwa [hide_set hq] at h1
theorem hide_comm {p q : Nat → Bool} : (h.hide p).hide q = (h.hide q).hide p := by
  refine gh_ext (fun m => ?_) (fun m => ?_) rfl rfl rfl (fun m => ?_) <;> simp only [Gh.hide]
  · cases p (2 * m) <;> cases q (2 * m) <;> rfl
  · cases p (2 * m + 1) <;> cases q (2 * m + 1) <;> rfl
  · cases h.sus m with
    | none => rfl
    | some y =>
      obtain ⟨v, c, j⟩ := y
      simp only
      cases h1 : (p (2 * m) || p (2 * j)) <;> cases h2 : (q (2 * m) || q (2 * j)) <;> simp [h1, h2]
theorem RP.drop (r : RP F h st a w q) (p : Nat → Bool) : RP F (h.drop p) (st.drop p) a w q :=
  ⟨r.s.drop p, by have := r.w.hide (evens p); rwa [hide_comm] at this⟩
theorem hide_setT {n : Nat} {x : Nat × List Value} (hq : q (2 * n + 1) = true) : (h.hide q).setTab n x = (h.setTab n x).hide (less q (2 * n + 1)) := by
  refine gh_ext (fun m => ?_) (fun m => ?_) rfl rfl rfl (fun m => ?_)
  · have : (2 * m == 2 * n + 1) = false := by simp only [beq_eq_false_iff_ne]; omega
    simp [Gh.setTab, Gh.hide, less, this]
  · simp only [Gh.setTab, Gh.hide, less]
    by_cases e : m = n
    · subst e; simp
    · have : (2 * m + 1 == 2 * n + 1) = false := by simp only [beq_eq_false_iff_ne]; omega
      simp [e, this]
  · have : ∀ k, less q (2 * n + 1) (2 * k) = q (2 * k) := fun k => by
      have : (2 * k == 2 * n + 1) = false := by simp only [beq_eq_false_iff_ne]; omega
      simp [less, this]
    simp only [Gh.setTab, Gh.hide, this]
theorem RP.setTab (r : RP F h st a w q) {n b : Nat} {vs vs' : List Value} {cs' : List X} (hq : q (2 * n + 1) = true) (hn : h.tab n = some (b, vs)) (hx : XsR h w cs' vs') (hr : row w b = some vs') (hf : Free (h.hide q) b) (hb : F.w0.heap.size ≤ b ∨ (F.M b ∧ isLow n = true)) :
    RP F (h.setTab n (b, vs')) { st with tabs := setl st.tabs n cs' } a w (less q (2 * n + 1)) := by
  refine ⟨r.s.setTab (Stay.refl _ _) hn hx, ?_⟩
  have h1 := r.w.newTab (n := n) (b := b) (vs := vs') (by simp [Gh.hide, hq]) hr hf hb
  rwa [hide_setT hq] at h1
/-- In the end no name that is there waits. -/
theorem RP.end (r : RP F h st a w q) (h1 : ∀ n, q (2 * n) = true → h.own n = none ∧ ∀ k v c m, h.sus k = some (v, c, m) → k ≠ n ∧ m ≠ n) (h2 : ∀ n, q (2 * n + 1) = true → h.tab n = none) : R F h st a w := by
  have e : h.hide q = h := by
    refine gh_ext (fun m => ?_) (fun m => ?_) rfl rfl rfl (fun m => ?_) <;> simp only [Gh.hide]
    · cases hq : q (2 * m)
      · rfl
      · exact (h1 m hq).1.symm
    · cases hq : q (2 * m + 1)
      · rfl
      · exact (h2 m hq).symm
    · cases hs : h.sus m with
      | none => rfl
      | some y =>
        obtain ⟨v, c, j⟩ := y
        simp only
        cases hq : q (2 * m)
        · cases hq' : q (2 * j)
          · rfl
          · exact absurd rfl ((h1 j hq').2 m v c j hs).2
        · exact absurd rfl ((h1 m hq).2 m v c j hs).1
  have := r.w
  rw [e] at this
  exact ⟨r.s, this⟩
def lessL (q : Nat → Bool) (l : List Nat) : Nat → Bool := fun i => q i && !(l.contains i)
theorem lessL_nil : lessL q [] = q := by funext i; simp [lessL]
theorem lessL_cons {i : Nat} {l : List Nat} : lessL (less q i) l = lessL q (i :: l) := by
  funext j
  simp only [lessL, less, List.contains_cons, Bool.not_or, Bool.and_assoc]
def dbl (l : List Nat) : List Nat := l.map fun n => 2 * n

theorem mutX_move {h' : Gh} {w' : World} {x : X} {v : Value} (hz : Stay h.Z w h'.Z w') (ht : ∀ n b vs, h.tab n = some (b, vs) → ∃ vs', h'.tab n = some (b, vs')) (hm : mutOk x = true) (ho : ∀ n ∈ x.toks, h'.own n = h.own n) (hx : XR h w x v) : XR h' w' x v := by
  cases x <;> simp only [mutOk] at hm <;> try (cases hm; done)
  case own n c =>
    have hx : h.own n = some (v, c) := hx
    show h'.own n = some (v, c)
    rw [ho n (by simp [X.toks])]
    exact hx
  all_goals exact tr_base hz hx (fun n b vs _ => ht n b vs) trivial
theorem mutXs_move {h' : Gh} {w' : World} (hz : Stay h.Z w h'.Z w') (ht : ∀ n b vs, h.tab n = some (b, vs) → ∃ vs', h'.tab n = some (b, vs')) : ∀ {xs : List X} {vs : List Value}, xs.all mutOk = true → (∀ n ∈ toks xs, h'.own n = h.own n) → XsR h w xs vs → XsR h' w' xs vs
  | [], [], _, _, _ => trivial
  | x :: xs, v :: vs, hm, ho, hx => by
    simp only [List.all_cons, Bool.and_eq_true] at hm
    exact ⟨mutX_move hz ht hm.1 (fun n hn => ho n (by simp [toks, hn])) hx.1, mutXs_move hz ht hm.2 (fun n hn => ho n (by simp [toks, hn])) hx.2⟩
  | [], _ :: _, _, _, hx => hx.elim
  | _ :: _, [], _, _, hx => hx.elim

/-- The names of these cells wait. -/
def Waits (h : Gh) (q : Nat → Bool) (low : Bool) (l : List Nat) : Prop := ∀ n ∈ l, q (2 * n) = true ∧ (low = true → isLow n = true) ∧ ∀ v c, h.own n = some (v, c) → ∃ w Z B I, OW w Z v c B I
/-- What was done to names: these alone, and no other turned. -/
structure Did (h h' : Gh) (l : List Nat) : Prop where
  z : h'.Z = h.Z
  tab : h'.tab = h.tab
  own : ∀ n, n ∉ l → h'.own n = h.own n ∧ h'.inn n = h.inn n
  sus : ∀ n x, h'.sus n = some x → h.sus n = some x
  gone : ∀ n ∈ l, ∀ k v c m, h'.sus k = some (v, c, m) → (∃ v c, h.own n = some (v, c)) → k ≠ n ∧ m ≠ n
  none : ∀ n, h.own n = none → h'.own n = none
theorem setMut_ok {nms : Nat → Nat} {j : Nat} {env : Nat → Option Nat} : ∀ {xs : List X} {ss : List S} {vs : List Value} {B B1 B2 : Nat → Prop} {h : Gh} {st st' : St} {q : Nat → Bool}, RP F h st a w q → xs.all mutOk = true → XsR h w xs vs → MutSs w h.Z env ss vs B1 → Sep B B1 B2 → setMut st xs ss = some st' → RoomP F w nms j h q B → (toks xs).Nodup → Waits h q (isLow (nms 0)) (toks xs) →
    ∃ h', RP F h' st' a w (lessL q (dbl (toks xs))) ∧ Did h h' (toks xs) ∧ RoomP F w nms j h' (lessL q (dbl (toks xs))) B2
  | [], [], [], B, B1, B2, h, st, st', q, hR, hmo, hx, hm, hB, hs, hr, hnd, hw => by
    simp only [setMut] at hs
    injection hs with hs
    subst hs
    have e : dbl (toks []) = [] := rfl
    rw [e, lessL_nil]
    exact ⟨h, hR, ⟨rfl, rfl, fun _ _ => ⟨rfl, rfl⟩, fun _ _ h => h, (fun n hn => by cases hn), fun _ h => h⟩, hr.free, hr.inj, fun b hb => hr.blocks b ((hB.all b).2 (.inr hb))⟩
  | x :: xs, s :: ss, v :: vs, B, B1, B2, h, st, st', q, hR, hmo, hx, hm, hB, hs, hr, hnd, hw => by
    simp only [List.all_cons, Bool.and_eq_true] at hmo
    obtain ⟨b1, b2, hb, hm1, hm2⟩ := hm
    have plain : x.toks = [] → setMut st xs ss = some st' → ∃ h', RP F h' st' a w (lessL q (dbl (toks (x :: xs)))) ∧ Did h h' (toks (x :: xs)) ∧ RoomP F w nms j h' (lessL q (dbl (toks (x :: xs)))) B2 := by
      intro e1 e3
      have e4 : toks (x :: xs) = toks xs := by simp [toks, e1]
      rw [e4] at hnd hw ⊢
      exact setMut_ok (B := fun b => b2 b ∨ B2 b) hR hmo.2 hx.2 hm2 ⟨fun _ => Iff.rfl, fun b x y => hB.dis b ((hb.all b).2 (.inr x)) y⟩ e3 ⟨hr.free, hr.inj, fun b hb' => hr.blocks b ((hB.all b).2 (hb'.imp (fun x => (hb.all b).2 (.inr x)) id))⟩ hnd hw
    by_cases hxo : ∃ n c, x = .own n c
    · obtain ⟨n, c, rfl⟩ := hxo
      cases s <;> simp only [setMut] at hs <;> try (cases hs; done)
      rename_i c'
      obtain ⟨hwh, I, ho⟩ := hm1
      have hx1 : h.own n = some (v, c) := hx.1
      have e0 : toks (X.own n c :: xs) = n :: toks xs := rfl
      rw [e0] at hnd hw ⊢
      rw [List.nodup_cons] at hnd
      obtain ⟨hp, hlow, hw1⟩ := hw n (List.mem_cons_self ..)
      obtain ⟨w0, Z0, B0, I0, ho0⟩ := hw1 v c hx1
      have inB : ∀ b, b1 b → B b := fun b x => (hB.all b).2 (.inl ((hb.all b).2 (.inl x)))
      have h1 : RP F ((h.hide (only n)).setOwn n (v, c') b1 I) (st.sub n (.setc c')) a w (less q (2 * n)) := hR.wr (s := .setc c') (B := b1) (I := I) trivial hp hx1 (OW.len_eq ho0 ho) ho fun b hb' => ⟨(hr.blocks b (inB b hb')).1, (hr.blocks b (inB b hb')).2.1, ((hr.blocks b (inB b hb')).2.2 0 (by omega)).imp id fun p => ⟨p.1, hlow p.2⟩⟩
      have own_ne : ∀ m, m ≠ n → ((h.hide (only n)).setOwn n (v, c') b1 I).own m = h.own m := fun m hm => by
        rw [setOwn_ne hm]
        have : only n (2 * m) = false := by simp only [only, beq_eq_false_iff_ne]; omega
        simp [Gh.hide, this]
      have hx2 : XsR ((h.hide (only n)).setOwn n (v, c') b1 I) w xs vs := mutXs_move (h := h) (h' := (h.hide (only n)).setOwn n (v, c') b1 I) (Stay.refl _ _) (fun k b vs hk => ⟨vs, by show (h.hide (only n)).tab k = _; rw [only_tab]; exact hk⟩) hmo.2 (fun m hm => own_ne m fun e => hnd.1 (by rw [← e]; exact hm)) hx.2
      have hr1 : RoomP F w nms j ((h.hide (only n)).setOwn n (v, c') b1 I) (less q (2 * n)) (fun b => b2 b ∨ B2 b) := by
        refine ⟨fun i q1 q2 => ?_, hr.inj, fun b hb' => ?_⟩
        · have p := hr.free i q1 q2
          have hne : nms i ≠ n := fun e => by rw [e, hx1] at p; cases p.1
          refine ⟨by rw [own_ne _ hne]; exact p.1, ?_, by simp [less, p.2.2]⟩
          show (h.hide (only n)).sus (nms i) = none
          simp only [Gh.hide, p.2.1]
        · have p := hr.blocks b ((hB.all b).2 (hb'.imp (fun x => (hb.all b).2 (.inr x)) id))
          refine ⟨p.1, ⟨p.2.1.z, fun i hi => ?_⟩, p.2.2⟩
          rw [show ((h.hide (only n)).setOwn n (v, c') b1 I).hide (less q (2 * n)) = (h.hide q).setOwn n (v, c') b1 I from (hide_set hp).symm] at hi
          rcases setOwn_bk.1 hi with ⟨_, x⟩ | ⟨_, hi⟩
          · rcases hb' with y | y
            · exact hb.dis b x y
            · exact hB.dis b ((hb.all b).2 (.inl x)) y
          · exact p.2.1.bk i hi
      obtain ⟨h2, p1, p2, p3⟩ := setMut_ok (B := fun b => b2 b ∨ B2 b) h1 hmo.2 hx2 hm2 ⟨fun _ => Iff.rfl, fun b x y => hB.dis b ((hb.all b).2 (.inr x)) y⟩ hs hr1 hnd.2 (fun m hm => by
        have hne : m ≠ n := fun e => hnd.1 (by rw [← e]; exact hm)
        obtain ⟨w1, w2, w3⟩ := hw m (List.mem_cons_of_mem _ hm)
        have : (2 * m == 2 * n) = false := by simp only [beq_eq_false_iff_ne]; omega
        refine ⟨by simp [less, w1, this], w2, fun u d hu => w3 u d ?_⟩
        rw [own_ne m hne] at hu
        exact hu)
      have e : lessL (less q (2 * n)) (dbl (toks xs)) = lessL q (dbl (n :: toks xs)) := lessL_cons
      rw [e] at p1 p3
      refine ⟨h2, p1, ⟨p2.z, p2.tab.trans only_tab, fun m hm => ?_, fun m x hm => ?_, fun m hm k u d i hk hex => ?_, fun m hm => ?_⟩, p3⟩
      · have hmn : m ≠ n := fun e => hm (by rw [e]; exact List.mem_cons_self ..)
        have := p2.own m fun hh => hm (List.mem_cons_of_mem _ hh)
        exact ⟨this.1.trans (own_ne m hmn), this.2.trans (setOwn_inn_ne hmn)⟩
      · obtain ⟨v, c, i⟩ := x
        exact (only_sus.1 (p2.sus m _ hm)).2
      · rcases List.mem_cons.1 hm with rfl | hm'
        · exact (only_sus.1 (p2.sus k _ hk)).1
        · have hmn : m ≠ n := fun e => hnd.1 (by rw [← e]; exact hm')
          exact p2.gone m hm' k u d i hk (by rw [own_ne m hmn]; exact hex)
      · have hmn : m ≠ n := fun e => by rw [e, hx1] at hm; cases hm
        exact p2.none m (by rw [own_ne m hmn]; exact hm)
    · have e1 : x.toks = [] := by cases x <;> first | rfl | exact absurd ⟨_, _, rfl⟩ hxo | (simp [mutOk] at hmo; done)
      refine plain e1 ?_
      cases x <;> first | exact hs | exact absurd ⟨_, _, rfl⟩ hxo
  | [], _ :: _, _, _, _, _, _, st, _, _, _, _, _, _, _, hs, _, _, _ => by cases hs
  | [], [], _ :: _, _, _, _, _, _, _, _, _, _, hx, _, _, _, _, _, _ => hx.elim
  | _ :: _, _, [], _, _, _, _, _, _, _, _, _, hx, _, _, _, _, _, _ => hx.elim
  | x :: _, [], _ :: _, _, _, _, _, _, _, _, _, _, _, hm, _, _, _, _, _ => hm.elim
end
end Go.BV

/-
  Calls that write: all that they were handed.
-/
namespace Go.BV
section
variable {P : Program} {T : TypeId → TI} {O : Env} {F : Fx} {g h : Gh} {st : St} {a : Act} {w w' : World} {o : Oper} {site : Nat} {q : Nat → Bool}

/-- The names of what is written in its place. -/
def wLab1 (tb : Nat → Option (List X)) : Md → V → List Lb
  | .wr, .u u => ownL (toks u.cells)
  | .ref, .u (.x (.ptr n _)) => Lb.tab n :: ownL (match tb n with | some xs => toks xs | none => [])
  | _, _ => []
def wLab (tb : Nat → Option (List X)) : List Md → List V → List Lb
  | m :: ms, v :: vs => wLab1 tb m v ++ wLab tb ms vs
  | _, _ => []
def Pend1 (h : Gh) (w : World) : Md → V → Value → Prop
  | .wr, .u u, v => UR h w u v
  | .ref, .u (.x (.ptr n _)), v => ∃ b vs0, h.tab n = some (b, vs0) ∧ v = .pointer (some ⟨b, 0, none⟩)
  | _, _, _ => True
def PendR (h : Gh) (w : World) : List Md → List V → List Value → Prop
  | [], [], [] => True
  | m :: ms, x :: vs, v :: us => Pend1 h w m x v ∧ PendR h w ms vs us
  | _, _, _ => False
theorem mutU_move {h' : Gh} {w' : World} {u : U} {v : Value} (hz : Stay h.Z w h'.Z w') (ht : ∀ n b vs, h.tab n = some (b, vs) → ∃ vs', h'.tab n = some (b, vs')) (hm : u.cells.all mutOk = true) (ho : ∀ n ∈ toks u.cells, h'.own n = h.own n) (hx : UR h w u v) : UR h' w' u v := by
  cases u with
  | x x => exact mutX_move hz ht (by simpa [U.cells] using hm) (fun n hn => ho n (by simpa [U.cells, toks] using hn)) hx
  | agg xs => obtain ⟨vs, e, hx⟩ := hx; exact ⟨vs, e, mutXs_move hz ht hm ho hx⟩
theorem pend_move {h' : Gh} {w' : World} {tb : Nat → Option (List X)} (hz : Stay h.Z w h'.Z w') (ht : ∀ n b vs, h.tab n = some (b, vs) → ∃ vs', h'.tab n = some (b, vs')) : ∀ {md : List Md} {vs : List V} {us : List Value}, modesOk tb md vs = true → (∀ n, Lb.own n ∈ wLab tb md vs → h'.own n = h.own n) → PendR h w md vs us → PendR h' w' md vs us
  | [], [], [], _, _, _ => trivial
  | m :: md, v :: vs, u :: us, hm, ho, hp => by
    simp only [modesOk, Bool.and_eq_true] at hm
    refine ⟨?_, pend_move hz ht hm.2 (fun n hn => ho n (List.mem_append_right _ hn)) hp.2⟩
    have hp1 := hp.1
    cases m with
    | val => trivial
    | ext => trivial
    | wr =>
      cases v with
      | tup => trivial
      | u x => exact mutU_move hz ht hm.1 (fun n hn => ho n (List.mem_append_left _ (List.mem_map.2 ⟨n, hn, rfl⟩))) hp1
    | ref =>
      cases v with
      | tup => trivial
      | u x => cases x with
        | agg => trivial
        | x x => cases x <;> first | trivial | skip
                 obtain ⟨b, vs0, h1, h2⟩ := hp1
                 obtain ⟨vs1, h4⟩ := ht _ b vs0 h1
                 exact ⟨b, vs1, h4, h2⟩
  | [], [], _ :: _, _, _, hp => hp.elim
  | [], _ :: _, _, hm, _, _ => by simp [modesOk] at hm
  | _ :: _, [], _, hm, _, _ => by simp [modesOk] at hm
  | _ :: _, _ :: _, [], _, _, hp => hp.elim

theorem setMut_tb : ∀ {xs : List X} {ss : List S} {st st' : St}, setMut st xs ss = some st' → ∀ m, st.tb m = none → st'.tb m = none
  | [], [], st, st', h, m, hm => by simp only [setMut] at h; injection h with h; rw [← h]; exact hm
  | x :: xs, s :: ss, st, st', h, m, hm => by
    by_cases hx : ∃ n c, x = .own n c
    · obtain ⟨n, c, rfl⟩ := hx
      cases s <;> simp only [setMut] at h <;> try (cases h; done)
      rename_i c'
      refine setMut_tb h m ?_
      show lk (st.tabs.map fun (k, cs) => (k, cs.map (X.sub n (.setc c')))) m = none
      rw [lk_map (List.map (X.sub n (.setc c')))]
      simp only [St.tb] at hm
      rw [hm]; rfl
    · have h' : setMut st xs ss = some st' := by cases x <;> first | exact h | exact absurd ⟨_, _, rfl⟩ hx
      exact setMut_tb h' m hm
  | [], _ :: _, st, _, h, _, _ => by cases h
  | x :: _, [], st, _, h, _, _ => by cases x <;> cases h

/-- A name that is gone. -/
def Gone (h : Gh) (i : Nat) : Prop := ∃ n, i = 2 * n ∧ h.own n = none ∧ ∀ k v c m, h.sus k = some (v, c, m) → k ≠ n ∧ m ≠ n
/-- What was done, all in all. -/
structure Done (nms : Nat → Nat) (h h' : Gh) (st st' : St) (Br : Nat → Prop) : Prop where
  z : h'.Z = h.Z
  fr : ∀ n, (∀ i, i < 8 → n ≠ nms i) → Fr h n → Fr h' n
  tb : ∀ m, st.tb m = none → st'.tb m = none
  free : ∀ b, Br b → Free h' b
/-- These names wait. -/
def LWaits (h : Gh) (q : Nat → Bool) (low : Bool) (l : List Lb) : Prop := ∀ x ∈ l, q x.idx = true ∧ (low = true → isLow x.name = true) ∧ ∀ n, x = .own n → ∀ v c, h.own n = some (v, c) → ∃ w Z B I, OW w Z v c B I
theorem update_le {tb : Nat → Option (List X)} {nms : Nat → Nat} {nam : Nat → Option Nat} : ∀ {md : List Md} {vs : List V} {ds : List DU} {j : Nat} {st st' : St}, update tb nms nam j st md vs ds = some st' → j ≤ 8
  | [], [], [], j, st, st', h => by
    simp only [update] at h
    cases hb : Nat.ble j 8
    · rw [hb] at h; cases h
    · exact Nat.le_of_ble_eq_true hb
  | .val :: md, _ :: vs, ds, j, st, st', h => by simp only [update] at h; exact update_le h
  | .ext :: md, _ :: vs, ds, j, st, st', h => by simp only [update] at h; exact update_le h
  | .wr :: md, .u (.x x) :: vs, .x s :: ds, j, st, st', h => by
    simp only [update] at h
    split at h
    · exact update_le h
    · cases h
  | .wr :: md, .u (.agg x) :: vs, .agg s :: ds, j, st, st', h => by
    simp only [update] at h
    split at h
    · exact update_le h
    · cases h
  | .wr :: _, _ :: _, [], _, _, _, h => by simp [update] at h
  | .wr :: _, .tup _ :: _, _ :: _, _, _, _, h => by simp [update] at h
  | .wr :: _, .u (.x _) :: _, .agg _ :: _, _, _, _, h => by simp [update] at h
  | .wr :: _, .u (.x _) :: _, .ptr _ :: _, _, _, _, h => by simp [update] at h
  | .wr :: _, .u (.agg _) :: _, .x _ :: _, _, _, _, h => by simp [update] at h
  | .wr :: _, .u (.agg _) :: _, .ptr _ :: _, _, _, _, h => by simp [update] at h
  | .ref :: _, v :: _, [], _, _, _, h => by simp [update] at h
  | .ref :: md, .u (.x x) :: vs, d :: ds, j, st, st', h => by
    cases x <;> cases d <;> first | (simp [update] at h; done) | skip
    rename_i n o cs
    simp only [update] at h
    have h1 := update_le h
    have h2 := nameSs_le (nms := nms) (nam := nam) (ss := cs) (j := j)
    omega
  | .ref :: _, .u (.agg x) :: _, d :: _, _, _, _, h => by cases d <;> simp [update] at h
  | .ref :: _, .tup x :: _, d :: _, _, _, _, h => by cases d <;> simp [update] at h
  | [], [], _ :: _, _, _, _, h => by simp [update] at h
  | [], _ :: _, _, _, _, _, h => by simp [update] at h
  | _ :: _, [], _, _, _, _, h => by simp [update] at h
theorem own_idx {n : Nat} {l : List Lb} (h : 2 * n ∈ l.map Lb.idx) : Lb.own n ∈ l := by
  obtain ⟨x, hx, e⟩ := List.mem_map.1 h
  cases x with
  | own m => simp only [Lb.idx] at e; obtain rfl : m = n := by omega
             exact hx
  | tab m => simp only [Lb.idx] at e; omega
theorem dbl_idx (l : List Nat) : dbl l = (ownL l).map Lb.idx := by
  unfold dbl ownL
  rw [List.map_map]
  rfl
theorem nodup_ownL {l : List Nat} (h : ((ownL l).map Lb.idx).Nodup) : l.Nodup := by
  rw [← dbl_idx] at h
  exact List.Pairwise.of_map _ (fun a b hab e => hab (by rw [e])) h

def setD (st : St) : U → DU → Option St
  | .x x, .x s => setMut st [x] [s]
  | .agg xs, .agg cs => setMut st xs cs
  | _, _ => none
/-- One value that was written in its place. -/
theorem upd_wr {nms : Nat → Nat} {j : Nat} {env : Nat → Option Nat} {u : U} {d : DU} {v : Value} {B B1 B2 : Nat → Prop} {l : List Lb} {st' : St} (hR : RP F h st a w q) (hmo : u.cells.all mutOk = true) (hx : UR h w u v) (hm : MutD w h.Z env d v B1) (hB : Sep B B1 B2)
    (hs : setD st u d = some st') (hr : RoomP F w nms j h q B) (hnd : ((ownL (toks u.cells) ++ l).map Lb.idx).Nodup) (hw : LWaits h q (isLow (nms 0)) (ownL (toks u.cells) ++ l)) (hq : ∀ i, q i = true → i ∈ (ownL (toks u.cells) ++ l).map Lb.idx ∨ Gone h i) :
    ∃ h', RP F h' st' a w (lessL q (dbl (toks u.cells))) ∧ Did h h' (toks u.cells) ∧ RoomP F w nms j h' (lessL q (dbl (toks u.cells))) B2 ∧ LWaits h' (lessL q (dbl (toks u.cells))) (isLow (nms 0)) l ∧ (∀ i, lessL q (dbl (toks u.cells)) i = true → i ∈ l.map Lb.idx ∨ Gone h' i) ∧ (∀ n, Lb.own n ∈ l → h'.own n = h.own n) ∧ ∀ m, st.tb m = none → st'.tb m = none := by
  have hnd1 := hnd
  rw [List.map_append, List.nodup_append] at hnd1
  have main : ∃ h', RP F h' st' a w (lessL q (dbl (toks u.cells))) ∧ Did h h' (toks u.cells) ∧ RoomP F w nms j h' (lessL q (dbl (toks u.cells))) B2 ∧ ∀ m, st.tb m = none → st'.tb m = none := by
    have hwt : Waits h q (isLow (nms 0)) (toks u.cells) := fun n hn => by
      obtain ⟨h1, h2, h3⟩ := hw (.own n) (List.mem_append_left _ (List.mem_map.2 ⟨n, hn, rfl⟩))
      exact ⟨h1, h2, h3 n rfl⟩
    cases u with
    | x x =>
      cases d with
      | x s =>
        obtain ⟨h', p1, p2, p3⟩ := setMut_ok (xs := [x]) (ss := [s]) (vs := [v]) hR hmo ⟨hx, trivial⟩ ⟨B1, fun _ => False, ⟨fun b => by simp, fun _ _ h => h⟩, hm, fun _ h => h⟩ hB hs hr (nodup_ownL hnd1.1) hwt
        exact ⟨h', p1, p2, p3, setMut_tb hs⟩
      | agg => cases hs
      | ptr => cases hs
    | agg xs =>
      cases d with
      | agg cs =>
        obtain ⟨vs, rfl, hx⟩ := hx
        obtain ⟨vs', e, hm⟩ := hm
        injection e with e
        have e : vs = vs' := by simpa using e
        subst e
        obtain ⟨h', p1, p2, p3⟩ := setMut_ok hR hmo hx hm hB hs hr (nodup_ownL hnd1.1) hwt
        exact ⟨h', p1, p2, p3, setMut_tb hs⟩
      | x => cases hs
      | ptr => cases hs
  obtain ⟨h', p1, p2, p3, p4⟩ := main
  have hne : ∀ n, Lb.own n ∈ l → n ∉ toks u.cells := fun n hn hn' => hnd1.2.2 (2 * n) (List.mem_map.2 ⟨.own n, List.mem_map.2 ⟨n, hn', rfl⟩, rfl⟩) (2 * n) (List.mem_map.2 ⟨.own n, hn, rfl⟩) rfl
  refine ⟨h', p1, p2, p3, fun x hx => ?_, fun i hi => ?_, fun n hn => (p2.own n (hne n hn)).1, p4⟩
  · obtain ⟨h1, h2, h3⟩ := hw x (List.mem_append_right _ hx)
    refine ⟨?_, h2, fun n e v c hv => ?_⟩
    · have : (dbl (toks u.cells)).contains x.idx = false := by
        rw [dbl_idx]
        cases hc : ((ownL (toks u.cells)).map Lb.idx).contains x.idx with
        | false => rfl
        | true => exact absurd rfl (hnd1.2.2 _ (by simpa using hc) _ (List.mem_map.2 ⟨x, hx, rfl⟩))
      show (q x.idx && !((dbl (toks u.cells)).contains x.idx)) = true
      rw [h1, this]; rfl
    · subst e
      rw [(p2.own n (hne n hx)).1] at hv
      exact h3 n rfl v c hv
  · simp only [lessL, Bool.and_eq_true, Bool.not_eq_true'] at hi
    rcases hq i hi.1 with h1 | ⟨n, rfl, h1, h2⟩
    · rw [List.map_append] at h1
      rcases List.mem_append.1 h1 with h1 | h1
      · rw [← dbl_idx] at h1
        have : (dbl (toks u.cells)).contains i = true := by simpa using h1
        rw [this] at hi
        exact absurd hi.2 (by simp)
      · exact .inl h1
    · exact .inr ⟨n, rfl, p2.none n h1, fun k v c m hk => h2 k v c m (p2.sus k _ hk)⟩

theorem drop_tb {p : Nat → Bool} {m : Nat} (hm : st.tb m = none) : (st.drop p).tb m = none := by
  show lk (st.tabs.map fun (k, cs) => (k, cs.map (X.drop p))) m = none
  rw [lk_map (List.map (X.drop p))]
  simp only [St.tb] at hm
  rw [hm]; rfl
theorem RoomP.drop {nms : Nat → Nat} {j : Nat} {B : Nat → Prop} (r : RoomP F w nms j h q B) (p : Nat → Bool) : RoomP F w nms j (h.drop p) q B := by
  refine ⟨fun i h1 h2 => ?_, r.inj, fun b hb => ?_⟩
  · obtain ⟨p1, p2, p3⟩ := r.free i h1 h2
    refine ⟨?_, ?_, p3⟩
    · cases e : (h.drop p).own (nms i) with
      | none => rfl
      | some x => rw [(drop_own.1 e).2] at p1; cases p1
    · cases e : (h.drop p).sus (nms i) with
      | none => rfl
      | some x => obtain ⟨v, c, m⟩ := x; rw [(drop_sus.1 e).2] at p2; cases p2
  · obtain ⟨p1, p2, p3⟩ := r.blocks b hb
    exact ⟨p1, ⟨p2.z, fun i hi => by
      obtain ⟨h1, h2⟩ := hide_bk.1 hi
      exact p2.bk i (hide_bk.2 ⟨h1, (hide_bk.1 h2).2⟩)⟩, p3⟩
theorem RoomP.weak {nms : Nat → Nat} {j : Nat} {B B' : Nat → Prop} (r : RoomP F w nms j h q B) (hB : ∀ b, B' b → B b) : RoomP F w nms j h q B' := ⟨r.free, r.inj, fun b hb => r.blocks b (hB b hb)⟩
/-- A variable that was written. -/
theorem upd_ref {nms : Nat → Nat} {nam env : Nat → Option Nat} {n j b : Nat} {vs0 : List Value} {cs : List S} {B B1 B2 : Nat → Prop} {old : List Nat} {l : List Lb} (hR : RP F h st a w q) (hn : h.tab n = some (b, vs0)) (hm : MutD w h.Z env (.ptr cs) (.pointer (some ⟨b, 0, none⟩)) B1) (hB : Sep B B1 B2) (hr : RoomP F w nms j h q B) (h8 : (nameSs nms nam j cs).2 ≤ 8)
    (hnd : (((Lb.tab n :: ownL old) ++ l).map Lb.idx).Nodup) (hw : LWaits h q (isLow (nms 0)) ((Lb.tab n :: ownL old) ++ l)) (hq : ∀ i, q i = true → i ∈ ((Lb.tab n :: ownL old) ++ l).map Lb.idx ∨ Gone h i) (he : ∀ p n b, nam p = some n → env p = some b → ∃ vs, h.tab n = some (b, vs)) :
    ∃ h', RP F h' { (st.drop fun m => old.contains m) with tabs := setl (st.drop fun m => old.contains m).tabs n (nameSs nms nam j cs).1 } a w (less q (2 * n + 1)) ∧ h'.Z = h.Z ∧ (∀ m b vs, h.tab m = some (b, vs) → ∃ vs', h'.tab m = some (b, vs')) ∧ (∀ m, (∀ i, i < 8 → m ≠ nms i) → Fr h m → Fr h' m) ∧
      RoomP F w nms (nameSs nms nam j cs).2 h' (less q (2 * n + 1)) B2 ∧ LWaits h' (less q (2 * n + 1)) (isLow (nms 0)) l ∧ (∀ i, less q (2 * n + 1) i = true → i ∈ l.map Lb.idx ∨ Gone h' i) ∧ ∀ m, Lb.own m ∈ l → h'.own m = h.own m := by
  obtain ⟨b', vs', B', e, hrow, hmu, hsep⟩ := hm
  injection e with e
  injection e with e
  injection e with e
  subst e
  have hnd1 := hnd
  rw [List.map_append, List.nodup_append] at hnd1
  obtain ⟨hqn, hln, _⟩ := hw (.tab n) (List.mem_append_left _ (List.mem_cons_self ..))
  have hRd := hR.drop fun m => old.contains m
  have tabd : (h.drop fun m => old.contains m).tab = h.tab := drop_tab
  obtain ⟨h1, p1, p2, p3, p4⟩ := newSs_ok (nam := nam) (ss := cs) (j := j) (B := B) (B1 := B') (B2 := fun x => x = b ∨ B2 x) (fun p n b h1 h2 => by rw [tabd]; exact he p n b h1 h2) hRd hmu ⟨fun x => by rw [hB.all, hsep.all]; exact ⟨fun h => h.elim (fun h => h.elim (fun h => .inr (.inl h)) .inl) fun h => .inr (.inr h), fun h => h.elim (fun h => .inl (.inr h)) fun h => h.elim (fun h => .inl (.inl h)) .inr⟩, fun x h1 h2 => h2.elim (fun h2 => hsep.dis x h2 h1) fun h2 => hB.dis x ((hsep.all x).2 (.inr h1)) h2⟩ (hr.drop _) h8
  have tab1 : h1.tab = h.tab := p2.tab.trans tabd
  have nqn : ∀ m, q (2 * m) = true → ∀ i, j ≤ i → i < (nameSs nms nam j cs).2 → m ≠ nms i := fun m hm i h1 h2 e => by
    have := (hr.free i h1 (by omega)).2.2
    rw [← e, hm] at this
    cases this
  have own1 : ∀ m, q (2 * m) = true → h1.own m = (h.drop fun m => old.contains m).own m := fun m hm => (p2.new m (nqn m hm)).1
  have owd : ∀ m, m ∉ old → (h.drop fun m => old.contains m).own m = h.own m := fun m hm => by
    have : evens (fun m => old.contains m) (2 * m) = false := by rw [evens_own]; simpa using hm
    show (bif evens (fun m => old.contains m) (2 * m) then none else h.own m) = h.own m
    rw [this]; rfl
  have own2 : ∀ m, Lb.own m ∈ l → h1.own m = h.own m := fun m hm => by
    rw [own1 m (hw _ (List.mem_append_right _ hm)).1, owd m fun ho => ?_]
    exact hnd1.2.2 (2 * m) (List.mem_map.2 ⟨.own m, List.mem_cons_of_mem _ (List.mem_map.2 ⟨m, ho, rfl⟩), rfl⟩) (2 * m) (List.mem_map.2 ⟨.own m, hm, rfl⟩) rfl
  have none1 : ∀ m, q (2 * m) = true → h.own m = none ∨ m ∈ old → h1.own m = none := fun m hm ho => by
    rw [own1 m hm]
    cases e : (h.drop fun m => old.contains m).own m with
    | none => rfl
    | some x =>
      obtain ⟨e1, e2⟩ := drop_own.1 e
      rcases ho with ho | ho
      · rw [ho] at e2; cases e2
      · have : old.contains m = true := by simpa using ho
        rw [this] at e1; cases e1
  have sus1 : ∀ k v c m, h1.sus k = some (v, c, m) → (k ∉ old ∧ m ∉ old) ∧ h.sus k = some (v, c, m) := fun k v c m hk => by
    rw [p2.sus] at hk
    obtain ⟨e1, e2⟩ := drop_sus.1 hk
    exact ⟨by simpa using e1, e2⟩
  obtain ⟨r1, r2, r3⟩ := p4.blocks b (.inl rfl)
  have hlow : F.w0.heap.size ≤ b ∨ (F.M b ∧ isLow n = true) := (r3 0 (by omega)).imp id fun x => ⟨x.1, hln x.2⟩
  have p5 := p1.setTab (n := n) (b := b) (vs := vs0) hqn (by rw [tab1]; exact hn) p3 hrow r2 hlow
  refine ⟨_, p5, p2.z, fun m b' us hm' => ?_, fun m hm' hf => ?_, ⟨fun i q1 q2 => ?_, p4.inj, fun x hx => ?_⟩, fun x hx => ?_, fun i hi => ?_, own2⟩
  · by_cases e : m = n
    · subst e
      rw [hn] at hm'
      injection hm' with hm'
      injection hm' with e1 _
      subst e1
      exact ⟨vs', setTab_tab.2 (.inl ⟨rfl, rfl⟩)⟩
    · exact ⟨us, setTab_tab.2 (.inr ⟨e, by rw [tab1]; exact hm'⟩)⟩
  · have e1 : m ≠ n := fun e => by rw [← e, hf.tab] at hn; cases hn
    have hfd := hf.hide (q := evens fun m => old.contains m)
    refine ⟨?_, ?_, ?_⟩
    · show h1.own m = none
      rw [(p2.new m fun i _ q2 => hm' i (by omega)).1]
      exact hfd.own
    · simp only [Gh.setTab, if_neg e1]
      rw [tab1]; exact hf.tab
    · show h1.sus m = none
      rw [p2.sus]; exact hfd.sus
  · obtain ⟨s1, s2, s3⟩ := p4.free i q1 q2
    exact ⟨s1, s2, by simp [less, s3]⟩
  · obtain ⟨s1, s2, s3⟩ := p4.blocks x (.inr hx)
    refine ⟨s1, ⟨s2.z, fun i hi => ?_⟩, s3⟩
    rw [← hide_setT hqn] at hi
    rcases setTab_bk.1 hi with ⟨_, e⟩ | ⟨_, hi⟩
    · exact hB.dis x ((hsep.all x).2 (.inl e)) hx
    · exact s2.bk i hi
  · obtain ⟨s1, s2, s3⟩ := hw x (List.mem_append_right _ hx)
    refine ⟨?_, s2, fun m e v c hv => ?_⟩
    · have : (x.idx == 2 * n + 1) = false := by
        rw [beq_eq_false_iff_ne]
        exact fun e => hnd1.2.2 (2 * n + 1) (List.mem_map.2 ⟨.tab n, List.mem_cons_self .., rfl⟩) x.idx (List.mem_map.2 ⟨x, hx, rfl⟩) e.symm
      simp [less, s1, this]
    · subst e
      have hv : h1.own m = some (v, c) := hv
      rw [own2 m hx] at hv
      exact s3 m rfl v c hv
  · simp only [less, Bool.and_eq_true, Bool.not_eq_true', beq_eq_false_iff_ne] at hi
    have gone : ∀ m, i = 2 * m → (h.own m = none ∧ ∀ k v c m', h.sus k = some (v, c, m') → k ≠ m ∧ m' ≠ m) ∨ m ∈ old → Gone (h1.setTab n (b, vs')) i := fun m e ho => by
      subst e
      refine ⟨m, rfl, none1 m hi.1 (ho.imp And.left id), fun k v c m' hk => ?_⟩
      obtain ⟨⟨t1, t2⟩, t3⟩ := sus1 k v c m' hk
      rcases ho with ho | ho
      · exact ho.2 k v c m' t3
      · exact ⟨fun e => t1 (by rw [e]; exact ho), fun e => t2 (by rw [e]; exact ho)⟩
    rcases hq i hi.1 with hm' | ⟨m, e, g1, g2⟩
    · rw [List.map_append] at hm'
      rcases List.mem_append.1 hm' with hm' | hm'
      · obtain ⟨x, hx, e⟩ := List.mem_map.1 hm'
        rcases List.mem_cons.1 hx with rfl | hx
        · exact absurd e.symm hi.2
        · obtain ⟨m, hmo, rfl⟩ := List.mem_map.1 hx
          exact .inr (gone m e.symm (.inr hmo))
      · exact .inl hm'
    · exact .inr (gone m e (.inl ⟨g1, g2⟩))

theorem update_ok {tb : Nat → Option (List X)} {nms : Nat → Nat} {nam env : Nat → Option Nat} : ∀ {md : List Md} {vs : List V} {us : List Value} {upd : List DU} {j : Nat} {B Bw Br : Nat → Prop} {h : Gh} {st st' : St} {q : Nat → Bool}, RP F h st a w q → modesOk tb md vs = true → PendR h w md vs us → UpdW w h.Z env md upd us Bw → Sep B Bw Br → RoomP F w nms j h q B → ((wLab tb md vs).map Lb.idx).Nodup →
    LWaits h q (isLow (nms 0)) (wLab tb md vs) → (∀ i, q i = true → i ∈ (wLab tb md vs).map Lb.idx ∨ Gone h i) → (∀ p n b, nam p = some n → env p = some b → ∃ vs, h.tab n = some (b, vs)) → update tb nms nam j st md vs upd = some st' → ∃ h', R F h' st' a w ∧ Done nms h h' st st' Br
  | [], vs, us, upd, j, B, Bw, Br, h, st, st', q, hR, hm, hp, hu, hB, hr, hnd, hw, hq, he, hup => by
    cases vs with
    | cons => simp [modesOk] at hm
    | nil =>
      cases upd with
      | cons => simp [update] at hup
      | nil =>
        simp only [update] at hup
        cases hb : Nat.ble j 8
        · rw [hb] at hup; cases hup
        rw [hb] at hup
        injection hup with hup
        subst hup
        have gone : ∀ i, q i = true → Gone h i := fun i hi => by
          rcases hq i hi with h1 | h1
          · cases h1
          · exact h1
        have hR' : R F h st a w := hR.end (fun n hn => by
          obtain ⟨m, e, h1, h2⟩ := gone _ hn
          obtain rfl : n = m := by omega
          exact ⟨h1, h2⟩) fun n hn => by
          obtain ⟨m, e, _⟩ := gone _ hn
          omega
        refine ⟨h, hR', rfl, fun _ _ h => h, fun _ h => h, fun b hb => ?_⟩
        obtain ⟨_, h1, _⟩ := hr.blocks b ((hB.all b).2 (.inr hb))
        refine ⟨h1.z, fun i hi => ?_⟩
        cases hqi : q i with
        | false => exact h1.bk i (hide_bk.2 ⟨hqi, hi⟩)
        | true =>
          obtain ⟨m, rfl, g1, _⟩ := gone i hqi
          rcases hi with ⟨n, x, e, hn, _⟩ | ⟨n, us, e, _⟩
          · obtain rfl : m = n := by omega
            rw [g1] at hn; cases hn
          · omega
  | m :: md, vs, us, upd, j, B, Bw, Br, h, st, st', q, hR, hm, hp, hu, hB, hr, hnd, hw, hq, he, hup => by
    cases vs with
    | nil => simp [modesOk] at hm
    | cons v vs =>
    cases us with
    | nil => exact hp.elim
    | cons u us =>
    simp only [modesOk, Bool.and_eq_true] at hm
    have hnd' : ((wLab1 tb m v ++ wLab tb md vs).map Lb.idx).Nodup := hnd
    cases m with
    | val =>
      have hu' : UpdW w h.Z env md upd us Bw := by cases upd <;> exact hu
      simp only [update] at hup
      exact update_ok hR hm.2 hp.2 hu' hB hr hnd hw hq he hup
    | ext =>
      have hu' : UpdW w h.Z env md upd us Bw := by cases upd <;> exact hu
      simp only [update] at hup
      exact update_ok hR hm.2 hp.2 hu' hB hr hnd hw hq he hup
    | wr =>
      cases upd with
      | nil => exact hu.elim
      | cons d upd =>
        obtain ⟨B1, B2, hB1, hf, hmu, hu⟩ := hu
        cases v with
        | tup => simp [update] at hup
        | u y =>
          obtain ⟨st1, hs1, hup1⟩ : ∃ st1, setD st y d = some st1 ∧ update tb nms nam j st1 md vs upd = some st' := by
            cases y with
            | x y => cases d <;> simp only [update] at hup <;> first | (cases hup; done) | skip
                     split at hup
                     · rename_i st1 hs1; exact ⟨st1, hs1, hup⟩
                     · cases hup
            | agg y => cases d <;> simp only [update] at hup <;> first | (cases hup; done) | skip
                       split at hup
                       · rename_i st1 hs1; exact ⟨st1, hs1, hup⟩
                       · cases hup
          obtain ⟨h1, p1, p2, p3, p4, p5, p6, p7⟩ := upd_wr (B := B) (B1 := B1) (B2 := fun x => B2 x ∨ Br x) hR hm.1 hp.1 hmu ⟨fun x => by rw [hB.all, hB1.all]; exact ⟨fun h => h.elim (fun h => h.elim .inl fun h => .inr (.inl h)) fun h => .inr (.inr h), fun h => h.elim (fun h => .inl (.inl h)) fun h => h.elim (fun h => .inl (.inr h)) .inr⟩, fun x q1 q2 => q2.elim (hB1.dis x q1) fun q2 => hB.dis x ((hB1.all x).2 (.inl q1)) q2⟩ hs1 hr hnd' hw hq
          have hz : Stay h.Z w h1.Z w := fun b hb => ⟨by rw [p2.z]; exact hb, rfl⟩
          have ht : ∀ n b vs, h.tab n = some (b, vs) → ∃ vs', h1.tab n = some (b, vs') := fun n b vs hn => ⟨vs, by rw [p2.tab]; exact hn⟩
          obtain ⟨h2, q1, q2⟩ := update_ok (Bw := B2) (Br := Br) p1 hm.2 (pend_move hz ht hm.2 p6 hp.2) (by rw [p2.z]; exact hu) ⟨fun _ => Iff.rfl, fun x s1 s2 => hB.dis x ((hB1.all x).2 (.inr s1)) s2⟩ p3 (by rw [List.map_append, List.nodup_append] at hnd'; exact hnd'.2.1) p4 p5 (fun p n b s1 s2 => by rw [p2.tab]; exact he p n b s1 s2) hup1
          refine ⟨h2, q1, q2.z.trans p2.z, fun n hn hf => q2.fr n hn ⟨p2.none n hf.own, by rw [p2.tab]; exact hf.tab, ?_⟩, fun n hn => q2.tb n (p7 n hn), q2.free⟩
          cases e : h1.sus n with
          | none => rfl
          | some x => have := p2.sus n x e; rw [hf.sus] at this; cases this
    | ref =>
      cases upd with
      | nil => exact hu.elim
      | cons d upd =>
        obtain ⟨B1, B2, hB1, hf, hmu, hu⟩ := hu
        cases v with
        | tup => simp at hm
        | u y => cases y with
          | agg => simp at hm
          | x y =>
            cases y <;> first | (simp at hm; done) | skip
            rename_i n o
            cases d with
            | x => exact hf.elim
            | agg => exact hf.elim
            | ptr cs =>
              obtain ⟨⟨b, vs0, hn, rfl⟩, hp2⟩ := hp
              simp only [update] at hup
              have h8 := update_le hup
              obtain ⟨h1, p1, p2, p3, p4, p5, p6, p7, p8⟩ := upd_ref (old := match tb n with | some xs => toks xs | none => []) (l := wLab tb md vs) (nam := nam) (B := B) (B1 := B1) (B2 := fun x => B2 x ∨ Br x) hR hn hmu ⟨fun x => by rw [hB.all, hB1.all]; exact ⟨fun h => h.elim (fun h => h.elim .inl fun h => .inr (.inl h)) fun h => .inr (.inr h), fun h => h.elim (fun h => .inl (.inl h)) fun h => h.elim (fun h => .inl (.inr h)) .inr⟩, fun x q1 q2 => q2.elim (hB1.dis x q1) fun q2 => hB.dis x ((hB1.all x).2 (.inl q1)) q2⟩ hr h8 hnd' hw hq he
              have hz : Stay h.Z w h1.Z w := fun b hb => ⟨by rw [p2]; exact hb, rfl⟩
              obtain ⟨h2, q1, q2⟩ := update_ok (Bw := B2) (Br := Br) p1 hm.2 (pend_move hz p3 hm.2 p8 hp2) (by rw [p2]; exact hu) ⟨fun _ => Iff.rfl, fun x s1 s2 => hB.dis x ((hB1.all x).2 (.inr s1)) s2⟩ p5 (by rw [List.map_append, List.nodup_append] at hnd'; exact hnd'.2.1) p6 p7 (fun p m b s1 s2 => by
                obtain ⟨vs1, t1⟩ := he p m b s1 s2
                exact p3 m b vs1 t1) hup
              refine ⟨h2, q1, q2.z.trans p2, fun m hm hf => q2.fr m hm (p4 m hm hf), fun m hm => q2.tb m ?_, q2.free⟩
              refine lk_setl_none _ _ _ _ ?_
              exact drop_tb hm
end
end Go.BV

/-
  Calls that write.
-/
namespace Go.BV
section
variable {P : Program} {T : TypeId → TI} {O : Env} {F : Fx} {g h : Gh} {st : St} {a : Act} {w w' : World} {o : Oper} {site : Nat} {next : Act → World → Prop} {Q : Exit → Act → World → Prop}

theorem nodupB_ok : ∀ {l : List Nat}, nodupB l = true → l.Nodup
  | [], _ => List.nodup_nil
  | n :: l, h => by
    simp only [nodupB, Bool.and_eq_true, Bool.not_eq_true'] at h
    exact List.nodup_cons.2 ⟨by simpa using h.1, nodupB_ok h.2⟩
theorem wLab_sub {tb : Nat → Option (List X)} : ∀ {md : List Md} {vs : List V}, (wLab tb md vs).Sublist (mLab tb md vs)
  | [], _ => by simp [wLab]
  | m :: md, [] => by simp [wLab]
  | m :: md, v :: vs => by
    have ih := wLab_sub (tb := tb) (md := md) (vs := vs)
    cases m with
    | val => exact ih
    | wr => cases v with
      | tup => exact ih
      | u u => exact List.Sublist.append (List.Sublist.refl _) ih
    | ext => cases v with
      | tup => exact ih
      | u u => exact ih.trans (List.sublist_append_right _ _)
    | ref => cases v with
      | tup => exact ih
      | u u => cases u with
        | agg => exact ih
        | x x => cases x <;> first | exact ih | exact List.Sublist.append (List.Sublist.refl _) ih
theorem mLab_w {tb : Nat → Option (List X)} {x : Lb} : ∀ {md : List Md} {vs : List V}, x ∈ mLab tb md vs → x ∈ wLab tb md vs ∨ ∃ n ∈ eNames md vs, x = .own n
  | [], vs, h => by cases vs <;> cases h
  | m :: md, [], h => by cases m <;> cases h
  | m :: md, v :: vs, h => by
    have up : ∀ {l : List Lb} {e : List Nat}, (x ∈ wLab tb md vs ∨ ∃ n ∈ eNames md vs, x = .own n) → x ∈ l ++ wLab tb md vs ∨ ∃ n ∈ e ++ eNames md vs, x = .own n := fun q => q.imp (List.mem_append_right _) fun ⟨n, hn, e⟩ => ⟨n, List.mem_append_right _ hn, e⟩
    cases m with
    | val => exact mLab_w (md := md) (vs := vs) h
    | wr => cases v with
      | tup => exact mLab_w (md := md) (vs := vs) h
      | u u =>
        rcases List.mem_append.1 h with h | h
        · exact .inl (List.mem_append_left _ h)
        · exact up (e := []) (mLab_w h)
    | ext => cases v with
      | tup => exact mLab_w (md := md) (vs := vs) h
      | u u =>
        rcases List.mem_append.1 h with h | h
        · obtain ⟨n, hn, e⟩ := List.mem_map.1 h
          exact .inr ⟨n, List.mem_append_left _ hn, e.symm⟩
        · exact up (l := []) (mLab_w h)
    | ref => cases v with
      | tup => exact mLab_w (md := md) (vs := vs) h
      | u u => cases u with
        | agg => exact mLab_w (md := md) (vs := vs) h
        | x y => cases y <;> first | exact mLab_w (md := md) (vs := vs) h | skip
                 rcases List.mem_append.1 h with h | h
                 · exact .inl (List.mem_append_left _ h)
                 · exact up (e := []) (mLab_w h)
theorem toks_own {n : Nat} : ∀ {xs : List X} {vs : List Value}, xs.all mutOk = true → XsR g w xs vs → n ∈ toks xs → ∃ x, g.own n = some x
  | x :: xs, v :: vs, hm, hx, h => by
    simp only [List.all_cons, Bool.and_eq_true] at hm
    simp only [toks, List.mem_append] at h
    rcases h with h | h
    · cases x <;> simp only [X.toks, List.mem_cons, List.not_mem_nil, or_false] at h
      · subst h; exact ⟨_, hx.1⟩
      · simp [mutOk] at hm
    · exact toks_own hm.2 hx.2 h
  | [], _, _, _, h => by cases h
  | _ :: _, [], _, hx, _ => hx.elim
theorem utoks_own {n : Nat} {u : U} {v : Value} (hm : u.cells.all mutOk = true) (hx : UR g w u v) (h : n ∈ toks u.cells) : ∃ x, g.own n = some x := by
  cases u with
  | x x => exact toks_own (xs := [x]) (vs := [v]) hm ⟨hx, trivial⟩ h
  | agg xs => obtain ⟨vs, _, hx⟩ := hx; exact toks_own hm hx h
theorem lab_own (hs : SG F g w st a) {n : Nat} : ∀ {md : List Md} {xs : List V} {us : List Value}, modesOk st.tb md xs = true → xs.length = us.length → (∀ (i : Nat) x v, xs[i]? = some x → us[i]? = some v → VR g w x v) → Lb.own n ∈ mLab st.tb md xs → ∃ x, g.own n = some x
  | [], xs, _, _, _, _, h => by cases xs <;> cases h
  | m :: md, [], _, _, _, _, h => by cases m <;> cases h
  | m :: md, v :: vs, [], _, hl, _, _ => by simp at hl
  | m :: md, v :: vs, u :: us, hm, hl, hx, h => by
    simp only [modesOk, Bool.and_eq_true] at hm
    have ih := lab_own hs (n := n) hm.2 (us := us) (by simpa using hl) (fun i y z hy hz => hx (i + 1) y z (by simpa using hy) (by simpa using hz))
    have hx0 := hx 0 v u rfl rfl
    have own : ∀ {l : List Nat}, Lb.own n ∈ ownL l → n ∈ l := fun q => by
      obtain ⟨m, hm, e⟩ := List.mem_map.1 q
      injection e with e
      rw [← e]; exact hm
    cases m with
    | val => exact ih h
    | wr => cases v with
      | tup => exact ih h
      | u y =>
        rcases List.mem_append.1 h with h | h
        · exact utoks_own hm.1 hx0 (own h)
        · exact ih h
    | ext => cases v with
      | tup => exact ih h
      | u y =>
        rcases List.mem_append.1 h with h | h
        · refine utoks_own (List.all_eq_true.2 fun y hy => ?_) hx0 (own h)
          have := List.all_eq_true.1 hm.1 y hy
          simp only [Bool.and_eq_true] at this
          exact this.1
        · exact ih h
    | ref => cases v with
      | tup => exact ih h
      | u y => cases y with
        | agg => exact ih h
        | x y => cases y <;> first | exact ih h | skip
                 rename_i k o
                 rcases List.mem_append.1 h with h | h
                 · rcases List.mem_cons.1 h with h | h
                   · cases h
                   · obtain ⟨b, vs0, hg, _⟩ := hx0
                     obtain ⟨ys, h2, h3⟩ := hs.tabs k b vs0 hg
                     simp only [h2] at h hm
                     exact toks_own hm.1 h3 (own h)
                 · exact ih h
theorem pend_of {tb : Nat → Option (List X)} {pos : Nat → Option Nat} : ∀ {md : List Md} {xs : List V} {us : List Value} {ds : List DU}, toDUs tb pos md xs = some ds → xs.length = us.length → (∀ (i : Nat) x v, xs[i]? = some x → us[i]? = some v → VR g w x v) → PendR g w md xs us
  | [], [], [], _, _, _, _ => trivial
  | m :: md, .u x :: xs, u :: us, ds, h1, h2, hx => by
    simp only [toDUs] at h1
    split at h1
    case h_2 => cases h1
    rename_i d hd
    split at h1
    case h_2 => cases h1
    rename_i ds' hds
    refine ⟨?_, pend_of hds (by simpa using h2) fun i y z hy hz => hx (i + 1) y z (by simpa using hy) (by simpa using hz)⟩
    have hx0 := hx 0 (.u x) u rfl rfl
    cases m with
    | val => trivial
    | ext => trivial
    | wr => exact hx0
    | ref => cases x with
      | agg => trivial
      | x y => cases y <;> first | trivial | skip
               obtain ⟨b, vs0, q1, q2⟩ := hx0
               rename_i n o
               simp only [toDU] at hd
               cases ho : o == 0
               · rw [ho] at hd; cases hd
               · obtain rfl : o = 0 := by simpa using ho
                 exact ⟨b, vs0, q1, q2⟩
  | [], _ :: _, _, _, h, _, _ => by simp [toDUs] at h
  | _ :: _, [], _, _, h, _, _ => by simp [toDUs] at h
  | _ :: _, .tup _ :: _, _, _, h, _, _ => by simp [toDUs] at h
  | [], [], _ :: _, _, _, h, _ => by simp at h
  | _ :: _, _ :: _, [], _, _, h, _ => by simp at h
theorem flat_UpdW {Z Z' : Nat → Prop} {env : Nat → Option Nat} : ∀ {md : List Md} {us : List DU} {vs : List Value} {B : Nat → Prop}, us.all DU.flat = true → UpdW w Z env md us vs B → UpdW w Z' env md us vs B
  | [], [], [], _, _, h => h
  | .val :: ms, us, _ :: vs, B, hf, h => by
    have h : UpdW w Z env ms us vs B := by cases us <;> exact h
    have := flat_UpdW (Z' := Z') hf h
    cases us <;> exact this
  | .ext :: ms, us, _ :: vs, B, hf, h => by
    have h : UpdW w Z env ms us vs B := by cases us <;> exact h
    have := flat_UpdW (Z' := Z') hf h
    cases us <;> exact this
  | .wr :: ms, u :: us, v :: vs, B, hf, h => by
    simp only [List.all_cons, Bool.and_eq_true] at hf
    obtain ⟨B1, B2, h1, h2, h3, h4⟩ := h
    exact ⟨B1, B2, h1, h2, flat_MutD hf.1 h3, flat_UpdW hf.2 h4⟩
  | .ref :: ms, u :: us, v :: vs, B, hf, h => by
    simp only [List.all_cons, Bool.and_eq_true] at hf
    obtain ⟨B1, B2, h1, h2, h3, h4⟩ := h
    exact ⟨B1, B2, h1, h2, flat_MutD hf.1 h3, flat_UpdW hf.2 h4⟩
  | [], [], _ :: _, _, _, h => h.elim
  | [], _ :: _, _, _, _, h => by rename_i x _ _; cases x <;> exact h.elim
  | .wr :: _, [], _, _, _, h => by rename_i x; cases x <;> exact h.elim
  | .ref :: _, [], _, _, _, h => by rename_i x; cases x <;> exact h.elim
  | .wr :: _, _ :: _, [], _, _, h => h.elim
  | .ref :: _, _ :: _, [], _, _, h => h.elim
  | .val :: _, us, [], _, _, h => by cases us <;> exact h.elim
  | .ext :: _, us, [], _, _, h => by cases us <;> exact h.elim

theorem low_high (n : Nat) : isLow (n + high) = true := by
  have : Nat.blt (n + high) high = false := by rw [← Bool.not_eq_true, Nat.blt_eq]; omega
  simp [isLow, this]
theorem nm_low {j : Nat} (hs : site < 1040000) (hj : j < 16) : isLow (nm site j) = false := by
  have h1 : Nat.blt (nm site j) 4096 = false := by rw [← Bool.not_eq_true, Nat.blt_eq]; unfold nm; omega
  have h2 : Nat.blt (nm site j) high = true := by rw [Nat.blt_eq]; unfold nm high; omega
  simp [isLow, h1, h2]
theorem subs_tb (l : List Nat) : ∀ {st : St} {m : Nat}, st.tb m = none → (subs .ro st l).tb m = none := by
  induction l with
  | nil => exact fun h => h
  | cons n l ih =>
    intro st m hm
    refine ih ?_
    show lk (st.tabs.map fun (k, cs) => (k, cs.map (X.sub n .ro))) m = none
    rw [lk_map (List.map (X.sub n .ro))]
    simp only [St.tb] at hm
    rw [hm]; rfl
theorem part_mem {b : Bool} {x : V} : ∀ {md : List Md} {vs : List V}, x ∈ part b md vs → x ∈ vs
  | [], vs, h => by cases vs <;> cases h
  | m :: md, [], h => by cases h
  | m :: md, v :: vs, h => by
    unfold part at h
    cases hb : m.isVal == b
    · rw [hb] at h; exact List.mem_cons_of_mem _ (part_mem h)
    · rw [hb] at h
      rcases List.mem_cons.1 h with h | h
      · rw [h]; exact List.mem_cons_self ..
      · exact List.mem_cons_of_mem _ (part_mem h)
theorem vToks_mem {tb : Nat → Option (List X)} {n : Nat} {u : U} (hn : n ∈ uToks tb u) : ∀ {vs : List V}, V.u u ∈ vs → n ∈ vToks tb vs
  | [], h => by cases h
  | v :: vs, h => by
    rcases List.mem_cons.1 h with h' | h'
    · rw [← h']; exact List.mem_append_left _ hn
    · cases v with
      | u y => exact List.mem_append_right _ (vToks_mem hn h')
      | tup => exact vToks_mem (vs := vs) hn h'
/-- A slice that waits, behind a call that wrote behind another's end. -/
theorem Fk.ext {Z Z' : Nat → Prop} {Bn : Nat → Prop} {v vm : Value} {c cm : C} (k : Fk w Z Bn v c vm cm) {B' : Nat → Prop} {I' : Nat → Value} (ho : OW w' Z' vm cm B' I') (hb : ∀ b, Bn b → vm.ownBlock ≠ some b → w'.heap[b]? = w.heap[b]?) : Fk w' Z' Bn v c vm cm := by
  refine ⟨k.flat, k.plain, ?_, k.same⟩
  rcases k.own with h | ⟨b, off, cap, l, rfl, h1, h2, h3, h4, h5⟩
  · exact .inl h
  have h5 := (cells_plain k.plain).1 h5
  by_cases e : vm.ownBlock = some b
  · obtain ⟨⟨off', cap', e1, e2⟩, e3, e4, e5⟩ := k.same b rfl e
    injection e1 with e1 _ e1c
    injection e1 with e1
    injection e1 with _ e1
    subst e1 e1c
    rcases ho with ⟨e6, _⟩ | ⟨b2, off2, cap2, l2, e6, g1, g2, g3, g4, g5⟩
    · rw [e6] at e; cases e
    · rw [e2] at e6
      injection e6 with e6 _ e6c
      injection e6 with e6
      injection e6 with e6 e6'
      subst e6 e6' e6c
      have g5 := (cells_plain e4).1 g5
      refine .inr ⟨b, off, cap, l2, rfl, g1, g2, by omega, h4, (cells_plain k.plain).2 fun i hi => ?_⟩
      obtain ⟨u, hu, hs⟩ := g5 i (by omega)
      exact ⟨u, hu, by rw [e5 i hi]; exact hs⟩
  · refine .inr ⟨b, off, cap, l, rfl, by rw [row_same (hb b h4 e)]; exact h1, h2, h3, h4, (cells_plain k.plain).2 fun i hi => ?_⟩
    obtain ⟨u, hu, hs⟩ := h5 i hi
    exact ⟨u, hu, flat_SR k.flat k.plain hs⟩

theorem s_callF {ρ : Type} {K : St → Option ρ} {r : ρ} (hR : R F g st a w) {f : Operand} {args : Array Operand} {tys : Array TypeId} {k : FuncId} {fs : List (Bool × List S0)} {caps : List Nat} {ora : Ora} (hO : OOk P O) (hsite : site < 1040000) (hf : Fresh site g st) (ho : o.op = .call { callee := .value f, args := args, argTypes := tys })
    (he : ev st f = .u (.x (.fn k fs caps))) (hk : O.fn k = some ora)
    (h : callF ora site o.dst (fs.length + args.size + caps.length) (handed st.tb fs (args.toList.map (ev st)) caps) st K = some r)
    (hn : ∀ st' g' a' w', K st' = some r → R F g' st' a' w' → Keeps site g g' st st' → next a' w') : o.wp P a w next Q := by
  obtain ⟨spec, hm, hsp⟩ := hO.meets k ora hk
  obtain ⟨fn, hfn, hb, hnm⟩ := hO.fn k ora hk
  unfold callF at h
  simp only at h
  cases hc : (ora.na == fs.length + args.size + caps.length && (ptrsOf (handed st.tb fs (args.toList.map (ev st)) caps)).all (fun n => (st.tb n).isSome) && modesOk st.tb ora.md (handed st.tb fs (args.toList.map (ev st)) caps) && nodupB (vToks st.tb (part false ora.md (handed st.tb fs (args.toList.map (ev st)) caps))) && disjB (vToks st.tb (part false ora.md (handed st.tb fs (args.toList.map (ev st)) caps))) (vToks st.tb (part true ora.md (handed st.tb fs (args.toList.map (ev st)) caps))) && ((vToks st.tb (part false ora.md (handed st.tb fs (args.toList.map (ev st)) caps))).all isLow || (vToks st.tb (part false ora.md (handed st.tb fs (args.toList.map (ev st)) caps))).all fun n => !isLow n))
  · rw [hc] at h; cases h
  rw [hc] at h
  simp only [cond_true] at h
  simp only [Bool.and_eq_true] at hc
  obtain ⟨⟨⟨⟨⟨c1, c2⟩, c3⟩, c4⟩, c5⟩, c6⟩ := hc
  split at h
  case h_2 => cases h
  rename_i ds hds
  obtain ⟨out, hG, h⟩ := G_some (hO.nat k ora hk) h
  obtain ⟨fvs, bs, us, hev, hlen, hvr, htake⟩ := handed_vals hR he c2
  generalize handed st.tb fs (args.toList.map (ev st)) caps = vs at *
  generalize hab : (ora.weak || !(out.res.all DU.flat && out.upd.all DU.flat)) = ab at h
  generalize hvals : vToks st.tb (part true ora.md vs) = vals at *
  generalize hmt : vToks st.tb (part false ora.md vs) = mt at *
  cases hbad : (ab && (vals.any isLow || (part true ora.md vs).any isPtr))
  case true => rw [hbad] at h; cases h
  rw [hbad] at h
  simp only [cond_false] at h
  split at h
  case h_2 => cases h
  rename_i st2 hst2
  split at h
  case h_2 => cases h
  rename_i rus hrus
  -- the names that are handed over to be written
  have hname := mLab_name c3
  rw [hmt] at hname
  have hndm : ((mLab st.tb ora.md vs).map Lb.idx).Nodup := nodup_idx (by rw [hname]; exact nodupB_ok c4)
  have hinmt : ∀ x, x ∈ mLab st.tb ora.md vs → x.name ∈ mt := fun x hx => by rw [← hname]; exact List.mem_map.2 ⟨x, hx, rfl⟩
  have hdis : ∀ x, x ∈ mLab st.tb ora.md vs → x.name ∉ vals := fun x hx hv => by
    have := List.all_eq_true.1 c5 _ (hinmt x hx)
    simp [hv] at this
  have hB : ∀ b, nmB g (mLab st.tb ora.md vs) b → ∃ x ∈ mLab st.tb ora.md vs, LB g x b ∧ Bk g x.idx b := fun b ⟨x, hx, hb⟩ => ⟨x, hx, hb, hb.bk⟩
  have hBlt : ∀ b, nmB g (mLab st.tb ora.md vs) b → b < w.heap.size ∧ ¬ g.Z b := fun b hb => by
    obtain ⟨x, _, _, hk⟩ := hB b hb
    exact ⟨(hR.w.bk _ b hk).1, (hR.w.bk _ b hk).2.1⟩
  have hnv : ∀ n ∈ vals, ∀ x b, g.own n = some x → g.fp n b → ¬ nmB g (mLab st.tb ora.md vs) b := fun n hn x b hx hb hbb => by
    obtain ⟨y, hy, _, hk⟩ := hB b hbb
    have e := hR.w.bkD _ _ b (.own hx hb) hk
    refine hdis y hy ?_
    rw [← idx_name, ← e, two_half]
    exact hn
  have henv : ∀ n p, posOf 0 vs n = some p → ∀ b l, g.tab n = some (b, l) → envOf us p = some b := fun n p hp b l hb => pos_env hlen.symm hvr hp hb
  -- what may be read
  obtain ⟨l, g1, Zc, hst1, hR1, hz, hZc, hargs, hsame, hl⟩ : ∃ l g1 Zc, (bif ab then subs .ro st vals else st) = subs .ro st l ∧ R F g1 (subs .ro st l) a w ∧ Frz l g g1 st (subs .ro st l) ∧ (∀ b, Zc b → b < w.heap.size ∧ ¬ nmB g (mLab st.tb ora.md vs) b) ∧ ArgsR w Zc (envOf us) ora.md ds us (nmB g (mLab st.tb ora.md vs)) ∧ (Zc = g1.Z ∨ (out.res.all DU.flat = true ∧ out.upd.all DU.flat = true)) ∧ ∀ n ∈ l, n ∈ vals := by
    cases ab with
    | true =>
      simp only [Bool.true_and, Bool.or_eq_false_iff] at hbad
      obtain ⟨g1, q1, q2⟩ := frz_ok vals hR fun n hn => by simpa using List.any_eq_false.1 hbad.1 n hn
      refine ⟨vals, g1, g1.Z, rfl, q1, q2, fun b hb => ⟨(q1.w.Zok b hb).1, fun hbb => ?_⟩, ?_, .inl rfl, fun _ h => h⟩
      · rcases q2.Zo b hb with h1 | ⟨n, hn, x, hx, hf⟩
        · exact (hBlt b hbb).2 h1
        · exact hnv n hn x b hx hf hbb
      · exact args_ok hR q2.Z henv c3 hndm hlen.symm hvr (fun n hn x b hx hf => q2.Zn n (by rw [← hvals]; exact hn) x b hx hf) (fun n o hp b l hg => by
          have := List.any_eq_false.1 hbad.2 _ hp
          exact absurd rfl this) hds
    | false =>
      have hfl : out.res.all DU.flat = true ∧ out.upd.all DU.flat = true := by
        simp only [Bool.or_eq_false_iff, Bool.not_eq_false', Bool.and_eq_true] at hab
        exact hab.2
      refine ⟨[], g, fun b => b < w.heap.size ∧ ¬ nmB g (mLab st.tb ora.md vs) b, rfl, hR, ⟨fun _ _ => rfl, fun _ _ h => h, rfl, rfl, rfl, fun _ h => h, (fun _ h => by cases h), fun _ h => .inl h, fun _ h => h, fun _ h => h⟩, fun _ h => h, ?_, .inr hfl, fun _ h => by cases h⟩
      refine args_ok hR (fun b hb => ⟨(hR.w.Zok b hb).1, fun hbb => (hBlt b hbb).2 hb⟩) henv c3 hndm hlen.symm hvr (fun n hn x b hx hf => ⟨(hR.w.bk _ b (.own hx hf)).1, hnv n (by rw [← hvals]; exact hn) x b hx hf⟩) (fun n o hp b l hg => ⟨(hR.w.bk _ b (.tab hg)).1, fun hbb => ?_⟩) hds
      obtain ⟨y, hy, _, hk⟩ := hB b hbb
      have e := hR.w.bkD _ _ b (.tab hg) hk
      refine hdis y hy ?_
      rw [← idx_name, ← e, two_half1, ← hvals]
      exact vToks_mem (u := .x (.ptr n o)) (List.mem_cons_self ..) hp
  rw [hst1] at hst2
  have hmeet := hm w Zc us ds (nmB g (mLab st.tb ora.md vs)) out hZc (fun b hb => (hBlt b hb).1) hargs (hsp ds out hG)
  rw [show ora.na = fs.length + args.size + caps.length by simpa using c1, htake] at hmeet
  unfold Oper.wp
  rw [run_callFn ho hev hfn hb hnm]
  simp only [Oper.upon_enter]
  refine hmeet.mono ?_
  rintro e w' ⟨u, rs, BR, BU, rfl, hp⟩
  show next (a.put o.dst u) w'
  -- behind the call
  have hsz := hR.w.size
  have hsub := wLab_sub (tb := st.tb) (md := ora.md) (vs := vs)
  obtain ⟨BW, hBW, hupd, hext⟩ := upd_split c3 hlen.symm hvr hds hp.upd
  have own1 : ∀ x, x ∈ mLab st.tb ora.md vs → g1.own x.name = g.own x.name := fun x hx => hz.keep _ fun hl' => hdis x hx (hl _ hl')
  have bk1 : ∀ i b, Bk g1 i b → Bk g i b := fun i b hi => by
    rcases hi with ⟨n, x, rfl, h1, h2⟩ | ⟨n, vs, rfl, h1⟩
    · exact .own (hz.sub n x h1) (by rw [← hz.fp]; exact h2)
    · exact .tab (by rw [← hz.tab]; exact h1)
  have hB1 : ∀ b, nmB g (mLab st.tb ora.md vs) b → ∃ x ∈ mLab st.tb ora.md vs, LB g x b ∧ Bk g x.idx b ∧ Bk g1 x.idx b := fun b hb => by
    obtain ⟨x, hx, h1, h2⟩ := hB b hb
    refine ⟨x, hx, h1, h2, ?_⟩
    cases x with
    | own n => obtain ⟨v, c, q1, q2, _⟩ := h1; exact .own (by have := own1 _ hx; exact this.trans q1) (by rw [hz.fp]; exact q2)
    | tab n => obtain ⟨vs, q1⟩ := h1; exact .tab (by rw [hz.tab]; exact q1)
  have hzB : ∀ b, g1.Z b → ¬ nmB g (mLab st.tb ora.md vs) b := fun b hb hbb => by
    obtain ⟨x, _, _, _, h3⟩ := hB1 b hbb
    exact (hR1.w.bk _ b h3).2.1 hb
  have hqlab : ∀ x, x ∈ mLab st.tb ora.md vs → ((wLab st.tb ora.md vs).map Lb.idx).contains x.idx = false → ∃ n, x = .own n ∧ n ∈ eNames ora.md vs := fun x hx hq => by
    rcases mLab_w hx with h1 | ⟨n, hn, e⟩
    · have : ((wLab st.tb ora.md vs).map Lb.idx).contains x.idx = true := by
        rw [List.contains_iff_mem]; exact List.mem_map.2 ⟨x, h1, rfl⟩
      rw [this] at hq; cases hq
    · exact ⟨n, e, hn⟩
  have hst1 : Stay g1.Z w g1.Z w' := fun b hb => ⟨hb, hp.frame b (hR1.w.Zok b hb).1 (hzB b hb)⟩
  have hW1 : WG F (g1.hide fun i => ((wLab st.tb ora.md vs).map Lb.idx).contains i) w' := by
    refine hR1.w.moveE _ (nmB g (mLab st.tb ora.md vs)) hp.os hp.tape hp.output hp.size hp.frame (fun b hb => ?_) (fun n b us hq hn hbb => ?_) (fun n v c hq hn => ?_)
    · obtain ⟨x, _, _, _, h3⟩ := hB1 b hb
      exact ⟨_, h3⟩
    · obtain ⟨x, hx, _, _, h3⟩ := hB1 b hbb
      have e := hR1.w.bkD _ _ b (.tab hn) h3
      rw [e] at hq
      obtain ⟨m, e2, _⟩ := hqlab x hx hq
      rw [e2] at e
      simp only [Lb.idx] at e
      omega
    · by_cases hin : Lb.own n ∈ mLab st.tb ora.md vs
      · obtain ⟨m, e2, hmE⟩ := hqlab _ hin hq
        injection e2 with e2
        subst e2
        obtain ⟨BE, ⟨v', c', e1, e2, e3, Bn, In, e4, e5⟩, _⟩ := hext n hmE
        have e0 := hz.sub n _ hn
        rw [e1] at e0
        injection e0 with e0
        injection e0 with e0 e0'
        subst e0 e0'
        have e6 : OW w' g1.Z v' c' Bn In := flat_OW e3 e4
        refine .inr ⟨e6.reB e2 fun b hb => by rw [hz.fp]; exact own_block hR e1 hb, fun k v2 c2 hk => ?_⟩
        obtain ⟨_, _, vm, cm, q1, q2⟩ := hR1.w.sus k v2 c2 n hk
        rw [hn] at q1
        injection q1 with q1
        injection q1 with q1 q1'
        subst q1 q1'
        refine q2.ext e6 fun b hb hne => hp.frame b (hR1.w.bk _ b (.own hn hb)).1 fun hbb => hne ?_
        obtain ⟨x, hx, h1, _, h3⟩ := hB1 b hbb
        have e := hR1.w.bkD _ _ b (.own hn hb) h3
        cases x with
        | tab m => simp only [Lb.idx] at e; omega
        | own m =>
          simp only [Lb.idx] at e
          obtain rfl : n = m := by omega
          obtain ⟨v3, c3', r1, _, r3⟩ := h1
          rw [e1] at r1
          injection r1 with r1
          injection r1 with r1 r1'
          subst r1 r1'
          exact r3 e2
      · refine .inl fun b hb hbb => hin ?_
        obtain ⟨x, hx, _, _, h3⟩ := hB1 b hbb
        have e := hR1.w.bkD _ _ b (.own hn hb) h3
        cases x with
        | tab m => simp only [Lb.idx] at e; omega
        | own m =>
          simp only [Lb.idx] at e
          obtain rfl : n = m := by omega
          exact hx
  have hY : WG F ((g1.addZ fun b => w.heap.size ≤ b ∧ b < w'.heap.size ∧ ¬ BR b ∧ ¬ BU b).hide fun i => ((wLab st.tb ora.md vs).map Lb.idx).contains i) w' :=
    hW1.addZ (Y := fun b => w.heap.size ≤ b ∧ b < w'.heap.size ∧ ¬ BR b ∧ ¬ BU b) fun b hb => ⟨hb.2.1, fun hm' => by have := F.Mlt b hm'; omega, .inr (by omega), fun i hi => by have := (hR1.w.bk i b (hide_bk.1 hi).2).1; omega⟩
  have hstY : Stay g1.Z w (g1.addZ fun b => w.heap.size ≤ b ∧ b < w'.heap.size ∧ ¬ BR b ∧ ¬ BU b).Z w' := fun b hb => ⟨.inl hb, (hst1 b hb).2⟩
  have hRP : RP F (g1.addZ fun b => w.heap.size ≤ b ∧ b < w'.heap.size ∧ ¬ BR b ∧ ¬ BU b) (subs .ro st l) a w' (fun i => ((wLab st.tb ora.md vs).map Lb.idx).contains i) :=
    ⟨hR1.s.keep hstY (fun _ _ h => ⟨h, rfl⟩) rfl fun _ _ h => h, hY⟩
  generalize hh : (g1.addZ fun b => w.heap.size ≤ b ∧ b < w'.heap.size ∧ ¬ BR b ∧ ¬ BU b) = h1 at hRP hstY hY
  have hhZ : ∀ b, h1.Z b ↔ g1.Z b ∨ (w.heap.size ≤ b ∧ b < w'.heap.size ∧ ¬ BR b ∧ ¬ BU b) := fun b => by rw [← hh]; exact Iff.rfl
  have hho : h1.own = g1.own := by rw [← hh]; rfl
  have hht : h1.tab = g1.tab := by rw [← hh]; rfl
  have hhs : h1.sus = g1.sus := by rw [← hh]; rfl
  have hhb : ∀ i b, Bk h1 i b ↔ Bk g1 i b := fun i b => by rw [← hh]; exact addZ_bk
  have hZn : Zc = g1.Z → Zn Zc w w' BR BU = h1.Z := fun e => by funext b; rw [e]; exact propext (hhZ b).symm
  have hupd' : UpdW w' h1.Z (envOf us) ora.md out.upd us BW := by
    rcases hsame with e | ⟨_, e⟩
    · rw [← hZn e]; exact hupd
    · exact flat_UpdW e hupd
  have hres' : MutDs w' h1.Z out.res rs BR := by
    rcases hsame with e | ⟨e, _⟩
    · rw [← hZn e]; exact hp.res
    · exact flat_MutDs e hp.res
  have hpend : PendR h1 w' ora.md vs us := pend_move (h := g) (tb := st.tb) (fun b hb => hstY b (hz.Z b hb)) (fun n b us hn => ⟨us, by rw [hht, hz.tab]; exact hn⟩) c3 (fun n hn => by rw [hho]; exact own1 _ (hsub.subset hn)) (pend_of hds hlen.symm hvr)
  have hnamed : ∀ n, Lb.own n ∈ mLab st.tb ora.md vs → ∃ x, g1.own n = some x := fun n hn => by
    obtain ⟨x, hx⟩ := lab_own hR.s c3 hlen.symm hvr hn
    exact ⟨x, (own1 _ hn).trans hx⟩
  have hlowmt : mt.any isLow = true → ∀ x, x ∈ mLab st.tb ora.md vs → isLow x.name = true := fun ha x hx => by
    rcases (Eq.mp (Bool.or_eq_true _ _) c6) with h1 | h1
    · exact List.all_eq_true.1 h1 _ (hinmt x hx)
    · obtain ⟨m, hm1, hm2⟩ := List.any_eq_true.1 ha
      have := List.all_eq_true.1 h1 m hm1
      simp [hm2] at this
  have hnmI : ∀ i i', i < 8 → i' < 8 → (nm site i + bif mt.any isLow then high else 0) = (nm site i' + bif mt.any isLow then high else 0) → i = i' := fun i i' _ _ e => by unfold nm at e; omega
  have hfr1 : ∀ n, Fr g n → Fr h1 n := fun n hf => by
    have := hz.fr n hf
    exact ⟨by rw [hho]; exact this.own, by rw [hht]; exact this.tab, by rw [hhs]; exact this.sus⟩
  have hnms : ∀ i, i < 16 → Fr g (nm site i + bif mt.any isLow then high else 0) := fun i hi => by
    cases mt.any isLow with
    | true => exact hf.frH i hi
    | false => exact hf.fr i hi
  have hqf : ∀ i, i < 16 → ((wLab st.tb ora.md vs).map Lb.idx).contains (2 * (nm site i + bif mt.any isLow then high else 0)) = false := fun i hi => by
    cases e : ((wLab st.tb ora.md vs).map Lb.idx).contains (2 * (nm site i + bif mt.any isLow then high else 0)) with
    | false => rfl
    | true =>
      rw [List.contains_iff_mem] at e
      have := own_idx e
      obtain ⟨x, hx⟩ := hnamed _ (hsub.subset this)
      have h2 := (hfr1 _ (hnms i hi)).own
      rw [hho, hx] at h2
      cases h2
  have hroom : RoomP F w' (fun j => nm site j + bif mt.any isLow then high else 0) 0 h1 (fun i => ((wLab st.tb ora.md vs).map Lb.idx).contains i) (fun b => BW b ∨ BR b) := by
    refine ⟨fun i _ hi => ⟨(hfr1 _ (hnms i (by omega))).own, (hfr1 _ (hnms i (by omega))).sus, hqf i (by omega)⟩, hnmI, fun b hb => ?_⟩
    have new : w.heap.size ≤ b → (BR b ∨ BU b) → Free (h1.hide fun i => ((wLab st.tb ora.md vs).map Lb.idx).contains i) b := fun h2 h3 => ⟨fun hzb => by
      rcases (hhZ b).1 hzb with q | q
      · have := (hR1.w.Zok b q).1; omega
      · exact h3.elim q.2.2.1 q.2.2.2, fun i hi => by have := (hR1.w.bk i b ((hhb i b).1 (hide_bk.1 hi).2)).1; omega⟩
    rcases hb with hb | hb
    · obtain ⟨u1, u2⟩ := hp.updB b (hBW b hb)
      by_cases h2 : w.heap.size ≤ b
      · exact ⟨u2, new h2 (.inr (hBW b hb)), fun i _ => .inl (by omega)⟩
      · have hbb : nmB g (mLab st.tb ora.md vs) b := u1.elim id fun h3 => absurd h3 h2
        obtain ⟨x, hx, h3, h4, h5⟩ := hB1 b hbb
        refine ⟨u2, ⟨fun hzb => ?_, fun i hi => ?_⟩, fun i _ => ?_⟩
        · rcases (hhZ b).1 hzb with q | q
          · exact hzB b q hbb
          · exact h2 q.1
        · obtain ⟨q1, q2⟩ := hide_bk.1 hi
          have e := hR1.w.bkD _ _ b ((hhb i b).1 q2) h5
          rw [e] at q1
          obtain ⟨n, e2, hnE⟩ := hqlab x hx q1
          subst e2
          obtain ⟨v, c, r1, r2, r3⟩ := h3
          obtain ⟨BE, ⟨v', c', e1, e3, e4, Bn, In, e5, e6⟩, e7⟩ := hext n hnE
          rw [r1] at e1
          injection e1 with e1
          injection e1 with e1 e1'
          subst e1 e1'
          have hob := r3 e3
          rcases e5 with ⟨e8, _⟩ | ⟨b2, off2, cap2, l2, e8, _, _, _, e9, _⟩
          · rw [e8] at hob; cases hob
          · rw [e8] at hob
            injection hob with hob
            subst hob
            exact (e7 _ (e6 _ e9)).2 hb
        · have := (hR.w.bk _ b h4).2.2
          rcases this with h6 | ⟨h6, h7⟩
          · exact .inl h6
          · refine .inr ⟨h6, ?_⟩
            have : mt.any isLow = true := List.any_eq_true.2 ⟨_, hinmt x hx, by rw [← idx_name]; exact h7⟩
            rw [this]
            exact low_high _
    · have h2 := (hp.fresh b hb).1
      exact ⟨(hp.fresh b hb).2, new h2 (.inl hb), fun i _ => .inl (by omega)⟩
  obtain ⟨h2, hR2, hd⟩ := update_ok (Bw := BW) (Br := BR) hRP c3 hpend hupd' ⟨fun _ => Iff.rfl, fun b q1 q2 => hp.disj b q2 (hBW b q1)⟩ hroom (List.Nodup.sublist (hsub.map _) hndm) (fun x hx => by
    refine ⟨by rw [List.contains_iff_mem]; exact List.mem_map.2 ⟨x, hx, rfl⟩, fun hl' => ?_, fun n e v c hv => ?_⟩
    · refine hlowmt ?_ x (hsub.subset hx)
      cases ha : mt.any isLow with
      | true => rfl
      | false =>
        rw [ha] at hl'
        have := nm_low (j := 0) hsite (by omega)
        simp only [cond_false, Nat.add_zero] at hl'
        rw [this] at hl'; cases hl'
    · rw [hho] at hv
      exact ⟨_, _, _, _, hR1.w.own n v c hv⟩) (fun i hi => .inl (by rw [← List.contains_iff_mem]; exact hi)) (fun p n b q1 q2 => by
    unfold nameAt at q1
    split at q1
    case h_2 => cases q1
    rename_i m hm'
    injection q1 with q1
    subst q1
    have hlt := (List.getElem?_eq_some_iff.1 hm').1
    have h3 : us[p]? = some us[p] := List.getElem?_eq_getElem (by omega)
    obtain ⟨b', l', q4, q5⟩ := hvr p _ _ hm' h3
    unfold envOf at q2
    rw [h3, q5] at q2
    injection q2 with q2
    subst q2
    exact ⟨l', by rw [hht, hz.tab]; exact q4⟩) hst2
  obtain ⟨g', hR3, hu', hfr3⟩ := res_fin (site := site) hR2 (by rw [hd.z]; exact hres') (fun b hb => ⟨(hp.fresh b hb).2, by have := (hp.fresh b hb).1; omega, hd.free b hb⟩) (fun j h8 hj => hd.fr _ (fun i hi => by
    cases mt.any isLow <;> simp only [cond_true, cond_false, nm, high] <;> omega) (hfr1 _ (hf.fr j hj))) hrus
  rw [hp.val]
  refine hn _ _ _ _ h (hR3.put (res_ok hu') o.dst) ⟨fun m hm' hf' => hfr3 m (fun j hj e => hm' ⟨j, hj, .inl e⟩) (hd.fr m (fun i hi e => hm' ⟨i, by omega, ?_⟩) (hfr1 m hf')), fun m _ hm' => ?_⟩
  · cases ha : mt.any isLow
    · rw [ha] at e; exact .inl e
    · rw [ha] at e; exact .inr e
  · have : (st2.put o.dst (resV rus)).tb m = st2.tb m := by cases o.dst <;> rfl
    rw [this]
    exact hd.tb m (hz.tb m hm')
end
end Go.BV

/-
  Operations.
-/
namespace Go.BV
section
variable {P : Program} {T : TypeId → TI} {O : Env} {F : Fx} {g : Gh} {st : St} {a : Act} {w : World} {o : Oper} {site : Nat} {next : Act → World → Prop} {Q : Exit → Act → World → Prop} {ρ : Type}

theorem Keeps.refl : Keeps site g g st st := ⟨fun _ _ h => h, fun _ _ h => h⟩
theorem tb_map {f : X → X} {n : Nat} (h : lk st.tabs n = none) : lk (st.tabs.map fun (m, cs) => (m, cs.map f)) n = none := by rw [lk_map (List.map f), h]; rfl
theorem tb_sub {m n : Nat} {s : Sb} (h : st.tb n = none) : (st.sub m s).tb n = none := tb_map h
theorem tb_fork {m k n : Nat} {c : C} (h : st.tb n = none) : (st.fork m k c).tb n = none := tb_map h
theorem tb_clr {p : Nat → Bool} {n : Nat} (h : st.tb n = none) : (st.clr p).tb n = none := by
  show lk _ n = none
  simp only [St.clr]
  rw [lk_filter p (List.map (X.clr p))]
  simp only [St.tb] at h
  cases p n <;> simp [h]
theorem tb_put {dst : Option Tmp} {v : V} {n : Nat} : (st.put dst v).tb n = st.tb n := by cases dst <;> rfl
theorem tb_out {dst : Option Tmp} {v : V} {ext : Option (List X)} {n : Nat} (hm : ¬ Mine site n) (h : st.tb n = none) : (st.out site dst v ext).tb n = none := by
  cases ext with
  | none => rw [show st.out site dst v none = st.put dst v from rfl, tb_put]; exact h
  | some cs =>
    rw [show st.out site dst v (some cs) = St.put { st with tabs := insl st.tabs (nm site 0) cs } dst v from rfl, tb_put]
    show lk (insl st.tabs (nm site 0) cs) n = none
    rw [lk_insl_ne]
    · exact h
    · intro e; exact hm ⟨0, by omega, .inl e⟩
theorem cv_K (hO : OOk P O) {K : V → Option (List X) → Option ρ} {r : ρ} {e : Operand → V} {tb : Nat → Option (List X)} {op : Op} (h : cv T O site op e tb K = some r) : ∃ v x, cvD T O site op e tb = some (v, x) ∧ K v x = some r := by
  rw [cv_nat hO.nat] at h
  obtain ⟨⟨v, x⟩, h1, h2⟩ := Option.bind_eq_some_iff.1 h
  exact ⟨v, x, h1, h2⟩
theorem mine_low : Mine site (nm site 0) := ⟨0, by omega, .inl rfl⟩
theorem mine_up {n : Nat} : Mine site (upName site n) := by
  unfold upName
  cases isLow n
  · exact mine_low
  · exact ⟨0, by omega, .inr rfl⟩
theorem keeps_nw {p : Nat → Bool} {g' : Gh} {st' : St} (h : ∀ n, p n = false → Fr g n → Fr g' n) (hp : ∀ n, p n = true → Mine site n) (ht : ∀ n, ¬ Mine site n → st.tb n = none → st'.tb n = none) : Keeps site g g' st st' := by
  refine ⟨fun n hn => h n ?_, ht⟩
  cases e : p n
  · rfl
  · exact absurd (hp n e) hn
theorem keeps_no {g' : Gh} {st' : St} (h : ∀ n, (fun _ => false : Nat → Bool) n = false → Fr g n → Fr g' n) (ht : ∀ n, st.tb n = none → st'.tb n = none) : Keeps site g g' st st' := keeps_nw h (fun n h => by cases h) fun n _ => ht n
theorem keeps_up {n : Nat} {g' : Gh} {st' : St} (h : ∀ m, (m == upName site n) = false → Fr g m → Fr g' m) (ht : ∀ n, st.tb n = none → st'.tb n = none) : Keeps site g g' st st' :=
  keeps_nw h (fun m hm => by
    have : m = upName site n := by simpa using hm
    rw [this]; exact mine_up) fun n _ => ht n
theorem keeps_nm {g' : Gh} {st' : St} (h : ∀ m, (m == nm site 0) = false → Fr g m → Fr g' m) (ht : ∀ n, st.tb n = none → st'.tb n = none) : Keeps site g g' st st' :=
  keeps_nw h (fun m hm => by
    have : m = nm site 0 := by simpa using hm
    rw [this]; exact mine_low) fun n _ => ht n

theorem s_assignNil {c : C} (hR : R F g st a w) (ho : o.op = .assign (.const (.slice none 0 0))) (hn : Nw F (fun _ => false) g (st.put o.dst (.u (.x (.nil (c.zeros 0))))) next) : o.wp P a w next Q := by
  unfold Oper.wp
  have : (execOp a.eval o).run P w = .ok (.value (.slice none 0 0)) w := by simp [execOp, ho, Act.eval]
  rw [this]
  exact hn _ _ _ (hR.put (v := .u (.x (.nil (c.zeros 0)))) (u := .slice none 0 0) ⟨rfl, by cases c <;> rfl⟩ o.dst) fun m _ h => h
theorem two_of {α β : Type} {f : α → β} {l : List α} {x y : β} (h : l.map f = [x, y]) : ∃ p q, l = [p, q] ∧ f p = x ∧ f q = y := by
  cases l with
  | nil => cases h
  | cons p l => cases l with
    | nil => simp at h
    | cons q l => cases l with
      | nil => simp at h; exact ⟨p, q, rfl, h.1, h.2⟩
      | cons => simp at h

def storeEl (st : St) (n : Nat) (c : C) (i : Nat) (u : U) (K : St → Option ρ) : Option ρ := match u with
  | .x (.own m ys) => bif m == n || isLow m || !ys.whole then none else (match c.set i (.sl ys.rd) with | some c' => K ((st.sub m .ro).sub n (.setc c')) | none => none)
  | .x x => bif x.toks.isEmpty then (match x.toS0 with
    | some s => (match c.set i s with | some c' => K (st.sub n (.setc c')) | none => none)
    | none => none) else none
  | .agg _ => none
theorem storeEl_sound (hT : TsOk P T) {K : St → Option ρ} {r : ρ} {t : TypeId} {x y : Operand} {n i : Nat} {c : C} {u : U} (hR : R F g st a w) (ho : o.op = .store t x y) (hx : ev st x = .u (.x (.el n c i))) (hy : ev st y = .u u) (hl : u.cells.length = (T t).size)
    (h : storeEl st n c i u (fun st' => K (st'.put o.dst (.tup []))) = some r) (hn : ∀ st' g' a' w', K st' = some r → R F g' st' a' w' → Keeps site g g' st st' → next a' w') : o.wp P a w next Q := by
  unfold storeEl at h
  split at h
  · rename_i m ys
    cases hc : (m == n || isLow m || !ys.whole)
    · rw [hc] at h
      simp only [cond_false] at h
      simp only [Bool.or_eq_false_iff, Bool.not_eq_false'] at hc
      split at h
      · rename_i c' hset
        exact s_storeElOwn hR hT ho hx hy (by rw [← hl]; rfl) (by simpa using hc.1.1) hc.1.2 hc.2 hset fun g' a' w' h1 h2 => hn _ g' a' w' h h1 (keeps_no h2 fun q hq => by rw [tb_put]; exact tb_sub (tb_sub hq))
      · cases h
    · rw [hc] at h; cases h
  · rename_i y' _
    cases hc : y'.toks.isEmpty
    · rw [hc] at h; cases h
    · rw [hc] at h
      simp only [cond_true] at h
      split at h
      · rename_i s hs'
        split at h
        · rename_i c' hset
          exact s_storeEl hR hT ho hx hy (by rw [← hl]; rfl) hs' hc hset fun g' a' w' h1 h2 => hn _ g' a' w' h h1 (keeps_no h2 fun q hq => by rw [tb_put]; exact tb_sub hq)
        · cases h
      · cases h
  · cases h
/-- A store. -/
theorem store_sound (hT : TsOk P T) {K : St → Option ρ} {r : ρ} {t : TypeId} {x y : Operand} {ax : X} {u : U} (hR : R F g st a w) (ho : o.op = .store t x y) (hx : ev st x = .u (.x ax)) (hy : ev st y = .u u) (hl : u.cells.length = (T t).size) (hs : Nat.blt 0 (T t).size = true)
    (h : storeX st ax u (fun st' => K (st'.put o.dst (.tup []))) = some r) (hn : ∀ st' g' a' w', K st' = some r → R F g' st' a' w' → Keeps site g g' st st' → next a' w') : o.wp P a w next Q := by
  have one : ∀ {y : X}, u = .x y → 1 = (T t).size := fun e => by rw [← hl, e]; rfl
  cases ax with
  | ptr n k =>
    have h : (bif u.cells.all X.cellOk then (match st.tb n with
      | some xs => (match splice xs u.cells k with | some ys => K (({ st with tabs := setl st.tabs n ys } : St).put o.dst (.tup [])) | none => none)
      | none => none) else none) = some r := h
    cases hc : u.cells.all X.cellOk
    · rw [hc] at h; cases h
    · rw [hc] at h
      simp only [cond_true] at h
      split at h
      · rename_i xs hxs
        split at h
        · rename_i ys hys
          exact s_storePtr hR hT ho hx hy hl hs hc hxs hys fun g' a' w' h1 h2 => hn _ g' a' w' h h1 (keeps_no h2 fun m hm => by rw [tb_put]; exact lk_setl_none _ _ _ _ hm)
        · cases h
      · cases h
  | el n c i =>
    cases c with
    | orows xs =>
      cases u with
      | agg => cases h
      | x z =>
        cases z with
        | own m d =>
          cases d with
          | ints k ys =>
            cases k with
            | i64 =>
              replace h : (bif m == n || (isLow m && !isLow n) then none else K (((st.drop fun k => k == m).sub n (.setc (.orows (xs.set i ys)))).put o.dst (.tup []))) = some r := h
              cases hc : (m == n || (isLow m && !isLow n))
              · rw [hc] at h
                simp only [cond_false] at h
                simp only [Bool.or_eq_false_iff] at hc
                exact s_storeRowOwn (H := fun _ => False) hR hT ho hx hy (one rfl) (by simpa using hc.1) (fun hm => by simpa [hm] using hc.2) rfl (fun _ _ _ h => h) (fun _ _ h => h) fun g' a' w' h1 h2 => hn _ g' a' w' h h1 (keeps_no h2 fun q hq => by rw [tb_put]; exact tb_sub (drop_tb hq))
              · rw [hc] at h; cases h
            | _ => cases h
          | _ => cases h
        | nil d => exact s_storeRowNil (H := fun _ => False) hR hT ho hx hy (one rfl) rfl (fun _ _ _ h => h) (fun _ _ h => h) fun g' a' w' h1 h2 => hn _ g' a' w' h h1 (keeps_no h2 fun q hq => by rw [tb_put]; exact tb_sub hq)
        | _ => cases h
    | hrows xs j =>
      cases u with
      | agg => cases h
      | x z =>
        cases z with
        | own m d =>
          cases d with
          | ints k ys =>
            cases k with
            | i64 =>
              replace h : (bif m == n || (isLow m && !isLow n) then none else if i = j then K (((st.drop fun k => k == m).sub n (.setc (.orows (xs.set i ys)))).put o.dst (.tup [])) else none) = some r := h
              cases hc : (m == n || (isLow m && !isLow n))
              · rw [hc] at h
                simp only [cond_false] at h
                simp only [Bool.or_eq_false_iff] at hc
                split at h
                · rename_i e
                  subst e
                  exact s_storeRowOwn (H := fun k => k = i) hR hT ho hx hy (one rfl) (by simpa using hc.1) (fun hm => by simpa [hm] using hc.2) rfl (fun _ _ _ h => h) (fun _ q h => q h) fun g' a' w' h1 h2 => hn _ g' a' w' h h1 (keeps_no h2 fun q hq => by rw [tb_put]; exact tb_sub (drop_tb hq))
                · cases h
              · rw [hc] at h; cases h
            | _ => cases h
          | _ => cases h
        | _ => cases h
    | ints k xs => exact storeEl_sound hT hR ho hx hy hl h hn
    | bools xs => exact storeEl_sound hT hR ho hx hy hl h hn
    | strs xs => exact storeEl_sound hT hR ho hx hy hl h hn
    | rows xs => exact storeEl_sound hT hR ho hx hy hl h hn
  | _ => cases h
/-- An append. -/
theorem appendP_sound (hT : TsOk P T) {K : St → Option ρ} {r : ρ} {t : TypeId} {z : C} {x y : Operand} {args : Array Operand} {tys : Array TypeId} (hR : R F g st a w) (ho : o.op = .call { callee := .builtin .append, args := args, argTypes := tys }) (ha : args.toList = [x, y]) (ht : tys.toList = [t, t]) (hz : (T t).u = .slice z)
    (h : appendP O site o.dst st (ev st x) (ev st y) K = some r) (hn : ∀ st' g' a' w', K st' = some r → R F g' st' a' w' → Keeps site g g' st st' → next a' w') : o.wp P a w next Q := by
  unfold appendP at h
  split at h
  · rename_i c d hx hy
    split at h
    · rename_i e happ
      split at h
      · rename_i hlen
        exact s_appendNil (site := site) hR hT ho ha ht hz hx hy happ hlen fun g' a' w' h3 h4 => hn _ g' a' w' h h3 (keeps_nm h4 fun m hm => by rw [tb_put]; exact drop_tb hm)
      · cases h
    · cases h
  · rename_i n c d hx hy
    cases htk : isTok n (ev st y)
    case true => rw [htk] at h; cases h
    rw [htk] at h
    simp only [cond_false] at h
    split at h
    · rename_i e happ
      split at h
      · rename_i hlen
        cases hfk : O.fk site
        · rw [hfk] at h
          exact s_appendOwn (site := site) hR hT ho ha ht hz hx hy happ hlen fun g' a' w' h3 h4 => hn _ g' a' w' h h3 (keeps_up h4 fun m hm => by rw [tb_put]; exact drop_tb hm)
        · rw [hfk] at h
          simp only [cond_true] at h
          cases hc : (n == upName site n || !c.flat)
          · rw [hc] at h
            simp only [cond_false] at h
            simp only [Bool.or_eq_false_iff, Bool.not_eq_false'] at hc
            exact s_appendFork (site := site) hR hT ho ha ht hz hx hy happ hlen (by simpa using hc.1) hc.2 fun g' a' w' h3 h4 => hn _ g' a' w' h h3 (keeps_up h4 fun m hm => by rw [tb_put]; exact tb_fork (drop_tb hm))
          · rw [hc] at h; cases h
      · cases h
    · cases h
  · rename_i n c i d hx hy
    cases htk : isTok n (ev st y)
    case true => rw [htk] at h; cases h
    rw [htk] at h
    simp only [cond_false] at h
    split at h
    · rename_i e happ
      split at h
      · rename_i hlen
        exact s_appendBw (site := site) hR hT ho ha ht hz hx hy happ hlen fun g' a' w' h3 h4 => hn _ g' a' w' h h3 (keeps_up h4 fun m hm => by rw [tb_put]; exact drop_tb (tb_sub hm))
      · cases h
    · cases h
  · cases h
theorem appendC_sound (hT : TsOk P T) {K : St → Option ρ} {r : ρ} {t : TypeId} {z : C} {x y : Operand} {args : Array Operand} {tys : Array TypeId} (hR : R F g st a w) (ho : o.op = .call { callee := .builtin .append, args := args, argTypes := tys }) (ha : args.toList = [x, y]) (ht : tys.toList = [t, t]) (hz : (T t).u = .slice z)
    (h : appendC O site o.dst st (ev st x) (ev st y) K = some r) (hn : ∀ st' g' a' w', K st' = some r → R F g' st' a' w' → Keeps site g g' st st' → next a' w') : o.wp P a w next Q := by
  unfold appendC at h
  split at h
  · rename_i k ys hy
    split at h
    · rename_i c hx
      cases hc : isLow k
      · rw [hc] at h
        simp only [cond_false] at h
        split at h
        · rename_i hlen
          exact s_appendRowsNil (site := site) hR hT ho ha ht hz hx hy hc hlen fun g' a' w' h3 h4 => hn _ g' a' w' h h3 (keeps_nm h4 fun m hm => by rw [tb_put]; exact drop_tb hm)
        · cases h
      · rw [hc] at h; cases h
    · rename_i n xs hx
      cases hc : (k == n || (isLow k && !isLow n))
      · rw [hc] at h
        simp only [cond_false] at h
        simp only [Bool.or_eq_false_iff] at hc
        split at h
        · rename_i hlen
          exact s_appendRows (site := site) hR hT ho ha ht hz hx hy (by simpa using hc.1) (fun hm => by simpa [hm] using hc.2) hlen fun g' a' w' h3 h4 => hn _ g' a' w' h h3 (keeps_up h4 fun m hm => by rw [tb_put]; exact drop_tb hm)
        · cases h
      · rw [hc] at h; cases h
    · exact appendP_sound (O := O) hT hR ho ha ht hz (by rw [hy]; rw [hy] at h; exact h) hn
  · exact appendP_sound hT hR ho ha ht hz h hn
theorem step_sound (hT : TsOk P T) (hO : OOk P O) (hsite : site < 1040000) {m : Nat} {K : St → Option ρ} {r : ρ} (h : step T O m site o st K = some r) (hR : R F g st a w) (hf : Fresh site g st)
    (hn : ∀ st' g' a' w', K st' = some r → R F g' st' a' w' → Keeps site g g' st st' → next a' w') : o.wp P a w next Q := by
  unfold step at h
  split at h
  · rename_i rr hw
    have hrr : rr = some r := by
      cases hd : (m == 1 || m == 3 || (m == 4 && !ptrStore o st))
      · rw [hd] at h; exact h
      · rw [hd] at h; cases h
    subst hrr
    unfold wild at hw
    split at hw
    · -- store
      rename_i t x y ho
      injection hw with hw
      split at hw
      · rename_i ax u hx hy
        cases hb : (u.cells.length == (T t).size && Nat.blt 0 (T t).size)
        · rw [hb] at hw; cases hw
        · rw [hb] at hw
          simp only [cond_true] at hw
          simp only [Bool.and_eq_true] at hb
          exact store_sound hT hR ho hx hy (by simpa using hb.1) hb.2 hw hn
      · cases hw
    · rename_i ho
      injection hw with hw
      split at hw
      · rename_i c hc
        exact s_assignNil hR ho fun g' a' w' h1 h2 => hn _ g' a' w' hw h1 (keeps_no h2 fun q hq => by rw [tb_put]; exact hq)
      · cases hw
    · rename_i t x ho
      split at hw
      · rename_i n xs i hx
        cases hfk : O.fk site
        · rw [hfk] at hw; cases hw
        · rw [hfk] at hw
          simp only [cond_true] at hw
          injection hw with hw
          cases hc : (isLow n || !((T t).size == 1) || (T t).u.isAgg)
          · rw [hc] at hw
            simp only [cond_false] at hw
            simp only [Bool.or_eq_false_iff, Bool.not_eq_false'] at hc
            exact s_loadFreeze hR hT ho hx hc.1.1 (by simpa using hc.1.2) hc.2 fun g' a' w' h1 h2 => hn _ g' a' w' hw h1 (keeps_no h2 fun q hq => by rw [tb_put]; exact tb_sub hq)
          · rw [hc] at hw; cases hw
      · cases hw
    · rename_i t n ps ho
      split at hw
      · rename_i ys xs ns ht hb
        cases hne : ns.isEmpty
        · rw [hne] at hw
          simp only [cond_false] at hw
          injection hw with hw
          cases hc : (n == xs.length && Nat.ble n 4096)
          · rw [hc] at hw; cases hw
          · rw [hc] at hw
            simp only [cond_true] at hw
            simp only [Bool.and_eq_true] at hc
            exact s_buildO (site := site) hR hT ho ht hc.2 (by simpa using hc.1) (fun e => by rw [e] at hne; cases hne) hb fun g' a' w' h3 h4 => hn _ g' a' w' hw h3 (keeps_nm h4 fun m hm => by rw [tb_put]; exact drop_tb hm)
        · rw [hne] at hw; cases hw
      · cases hw
    · rename_i t x lo hi ho
      split at hw
      · rename_i n c hx
        injection hw with hw
        split at hw
        · rename_i z hz
          rw [bound_nat] at hw
          obtain ⟨⟨l, hh⟩, h1, h2⟩ := Option.bind_eq_some_iff.1 hw
          simp only at h2
          cases hp : c.plain
          · rw [hp] at h2
            simp only [cond_false] at h2
            cases hc : (isLow n || !c.whole)
            · rw [hc] at h2
              simp only [cond_false] at h2
              simp only [Bool.or_eq_false_iff, Bool.not_eq_false'] at hc
              exact s_sliceFreeze hR hT ho hz hx hc.1 hc.2 h1 fun g' a' w' h3 h4 => hn _ g' a' w' h2 h3 (keeps_no h4 fun m hm => by rw [tb_put]; exact tb_sub hm)
            · rw [hc] at h2; cases h2
          · rw [hp] at h2
            exact s_sliceOwn (site := site) hR hT ho hz hx hp h1 fun g' a' w' h3 h4 => hn _ g' a' w' h2 h3 (keeps_up h4 fun m hm => by rw [tb_put]; exact drop_tb hm)
        · cases hw
      · cases hw
    · rename_i f args tys ho
      split at hw
      · rename_i k fs caps hx
        split at hw
        · rename_i ora hora
          cases hc : (caps.isEmpty && ora.md.all Md.isVal && (seeds st.tb (fs.map firstV ++ args.toList.map (ev st))).isEmpty && (!ora.weak || (vToks st.tb (fs.map firstV ++ args.toList.map (ev st))).isEmpty))
          case true => rw [hc] at hw; cases hw
          rw [hc] at hw
          simp only [cond_false] at hw
          injection hw with hw
          unfold callW at hw
          split at hw
          · rename_i n c i hpt
            exact s_callB hR hO hf ho hx hora hpt hw hn
          · exact s_callF hR hO hsite hf ho hx hora hw hn
        · cases hw
      · cases hw
    · rename_i args tys ho
      split at hw
      · rename_i x y hxy
        injection hw with hw
        obtain ⟨x', y', ha, rfl, rfl⟩ := two_of hxy
        split at hw
        · rename_i t t' ht
          cases hb : t == t'
          · rw [hb] at hw; cases hw
          · rw [hb] at hw
            simp only [cond_true] at hw
            have : t = t' := by simpa using hb
            subst this
            split at hw
            · rename_i z hz
              exact appendC_sound hT hR ho ha ht hz hw hn
            · cases hw
        · cases hw
      · cases hw
    · cases hw
  · cases hb : (m == 3 && !nonEl o st)
    · rw [hb] at h
      simp only [cond_false] at h
      obtain ⟨v, x, h1, h2⟩ := cv_K hO h
      exact cv_sound hT hO hR hf h1 fun g' a' w' h3 h4 => hn _ g' a' w' h2 h3 ⟨fun n hm hn => h4.fr n (fun j hj e => hm ⟨j, hj, .inl e⟩) hn, fun n hm hn => tb_out hm hn⟩
    · rw [hb] at h; cases h
end
end Go.BV

/-
  Regions: the order of the text.
-/
namespace Go.BV
section
variable {P : Program} {T : TypeId → TI} {O : Env} {F : Fx} {g : Gh} {st : St} {a : Act} {w : World} {o : Oper} {site : Nat} {next : Act → World → Prop} {Q : Exit → Act → World → Prop} {ρ : Type}

/-- What holds wherever an operation leads holds. -/
theorem wp_real {p : Prop} (h : o.wp P a w (fun _ _ => p) (fun _ _ _ => False)) : p := by
  unfold Oper.wp at h
  generalize (execOp a.eval o).run P w = r at h
  cases r with
  | ok n w' =>
    cases n <;> simp only [Oper.upon] at h
    case value => exact h
    case skip => exact h
    case defer => exact h
    case enter f args =>
      obtain ⟨e, w'', fr, hR, _⟩ := h []
      cases e with
      | returned v => exact hR
      | panicked c => exact hR.elim
      | outgrown => obtain ⟨_, _, h⟩ := hR; exact h.elim
    case row r args =>
      obtain ⟨v, w'', hR, _⟩ := h (default : Frame) []
      exact hR
  | halt x w' => cases x <;> simp only [Oper.upon] at h
theorem step_real (hT : TsOk P T) (hO : OOk P O) (hsite : site < 1040000) {m : Nat} {K : St → Option ρ} {r : ρ} (h : step T O m site o st K = some r) (hR : R F g st a w) (hf : Fresh site g st) :
    ∃ st' g' a' w', K st' = some r ∧ R F g' st' a' w' ∧ Keeps site g g' st st' :=
  wp_real (P := P) (o := o) (a := a) (w := w) (step_sound hT hO hsite h hR hf fun st' g' a' w' h1 h2 h3 => ⟨st', g', a', w', h1, h2, h3⟩)

/-! ### Guards -/
def Wants (all : List Oper) (o : Oper) (st : St) (b : Bool) : Prop := match o.guard with
  | none => b = true
  | some (j, want) => ∃ d, (all[j]?).bind (·.dst) = some d ∧ ((∃ c, st.tmps[d]? = some (.u (.x (.bool c))) ∧ b = (c == want)) ∨ (∃ us, st.tmps[d]? = some (.tup us) ∧ b = false))
theorem put_same {d : Nat} {v : V} (h : st.tmps[d]? = some v) : st.put (some d) v = st := by
  have : st.tmps.set d v = st.tmps := by
    apply List.ext_getElem?
    intro i
    rw [List.getElem?_set]
    split
    · rename_i e
      subst e
      obtain ⟨hlt, _⟩ := List.getElem?_eq_some_iff.1 h
      rw [if_pos hlt, h]
    · rfl
  show ({ st with tmps := st.tmps.set d v } : St) = st
  rw [this]
theorem guarded_iff {all : List Oper} {yes no : St → Option ρ} {r : ρ} : guarded all o st yes no = some r ↔ (Wants all o st true ∧ yes st = some r) ∨ (Wants all o st false ∧ no st = some r) := by
  unfold guarded Wants
  cases hg : o.guard with
  | none => simp
  | some p =>
    obtain ⟨j, want⟩ := p
    simp only
    cases hd : (all[j]?).bind (·.dst) with
    | none => simp
    | some d =>
      simp only [Option.some.injEq, exists_eq_left']
      cases hv : st.tmps[d]? with
      | none => simp
      | some v =>
        cases v with
        | tup us => simp
        | u u =>
          cases u with
          | agg => simp
          | x x =>
            cases x <;> simp
            rename_i b
            cases b <;> cases want <;> simp [put_same hv]
theorem wants_real {all : List Oper} {ops : Array Oper} (ha : all = ops.toList) (hR : R F g st a w) {b : Bool} (h : Wants all o st b) : Region.wanted o (yielded ops a.tmps) = b := by
  subst ha
  unfold Wants at h
  unfold Region.wanted
  split at h
  · rename_i hg
    rw [hg]
    exact h.symm
  · rename_i j want hg
    rw [hg]
    obtain ⟨d, hd, h⟩ := h
    rw [Array.getElem?_toList] at hd
    simp only
    unfold yielded
    rw [hd]
    simp only [Option.bind_some]
    rcases h with ⟨c, hc, rfl⟩ | ⟨us, hc, rfl⟩
    · obtain ⟨u, hu, hv⟩ := hR.s.tmps d _ hc
      rw [hu]
      have : u = .bool c := hv
      subst this
      cases c <;> cases want <;> rfl
    · obtain ⟨u, hu, hv⟩ := hR.s.tmps d _ hc
      rw [hu]
      obtain ⟨vs, rfl, _⟩ := hv
      rfl

/-! ### Names of a region -/
theorem mine_iff {s n : Nat} (h : Mine s n) (s' : Nat) (hne : s ≠ s') (hs : s < 1024064) (hs' : s' < 1024064) : ¬ Mine s' n := by
  rintro ⟨j', hj', h'⟩
  obtain ⟨j, hj, h⟩ := h
  unfold nm high at *
  omega
theorem mine_nm {s j : Nat} (h : j < 16) : Mine s (nm s j) := ⟨j, h, .inl rfl⟩
theorem mine_nmH {s j : Nat} (h : j < 16) : Mine s (nm s j + high) := ⟨j, h, .inr rfl⟩
theorem Keeps.fresh {g' : Gh} {st' : St} (k : Keeps site g g' st st') {s : Nat} (hne : s ≠ site) (hs : s < 1024064) (hs' : site < 1024064) (hf : Fresh s g st) : Fresh s g' st' :=
  ⟨fun j hj => k.fr _ (mine_iff (mine_nm hj) site hne hs hs') (hf.fr j hj), fun j hj => k.fr _ (mine_iff (mine_nmH hj) site hne hs hs') (hf.frH j hj), fun j hj => k.tb _ (mine_iff (mine_nm hj) site hne hs hs') (hf.tb j hj)⟩
theorem clr_fr {p : Nat → Bool} {n : Nat} (h : p n = true) : Fr (g.clr p) n := by
  refine ⟨?_, ?_, ?_⟩
  · cases e : (g.clr p).own n with
    | none => rfl
    | some x => have := (clr_own.1 e).1; rw [h] at this; cases this
  · cases e : (g.clr p).tab n with
    | none => rfl
    | some x => have := (clr_tab.1 e).1; rw [h] at this; cases this
  · cases e : (g.clr p).sus n with
    | none => rfl
    | some x => obtain ⟨v, c, m⟩ := x; have := (clr_sus.1 e).1.1; rw [h] at this; cases this
theorem region_fresh {rid i : Nat} (hi : i < 64) (hr : rid < 16000) : Fresh (64 * rid + i) (g.clr (ofRegion rid)) (st.clr (ofRegion rid)) := by
  have h1 : ∀ j, j < 16 → ofRegion rid (nm (64 * rid + i) j) = true := fun j hj => by
    unfold ofRegion nm high
    simp only [Bool.and_eq_true, Nat.blt_eq, Nat.ble_eq]
    omega
  have h2 : ∀ j, j < 16 → ofRegion rid (nm (64 * rid + i) j + high) = true := fun j hj => by
    unfold ofRegion nm high
    simp only [Bool.and_eq_true, Nat.blt_eq, Nat.ble_eq]
    omega
  refine ⟨fun j hj => clr_fr (h1 j hj), fun j hj => clr_fr (h2 j hj), fun j hj => ?_⟩
  show lk _ _ = none
  simp only [St.clr]
  rw [lk_filter (ofRegion rid) (List.map (X.clr (ofRegion rid))), h1 j hj]
  rfl

theorem put_tb {dst : Option Tmp} {v : V} : (st.put dst v).tb = st.tb := by cases dst <;> rfl
theorem Fresh.put {s : Nat} {dst : Option Tmp} {v : V} (h : Fresh s g st) : Fresh s g (st.put dst v) := ⟨h.fr, h.frH, fun j hj => by rw [put_tb]; exact h.tb j hj⟩

/-! ### The order of the text -/
def Sites (rid : Nat) (L : List (Nat × Oper)) : Prop := rid < 16000 ∧ (∀ p ∈ L, p.1 < 64) ∧ (L.map (·.1)).Nodup
theorem Sites.tail {rid : Nat} {p : Nat × Oper} {L : List (Nat × Oper)} (h : Sites rid (p :: L)) : Sites rid L := ⟨h.1, fun q hq => h.2.1 q (List.mem_cons_of_mem _ hq), by have := h.2.2; simp only [List.map_cons, List.nodup_cons] at this; exact this.2⟩
theorem opsText (hT : TsOk P T) (hO : OOk P O) {md : List Nat} {rid : Nat} {ops : Array Oper} {K : St → Option ρ} {r : ρ}
    (hQ : ∀ st g a w, K st = some r → R F g st a w → Q .normal a w) : ∀ (L : List (Nat × Oper)) (st : St) (g : Gh) (a : Act) (w : World), Sites rid L → (∀ p ∈ L, ops[p.1]? = some p.2) → R F g st a w → (∀ p ∈ L, Fresh (64 * rid + p.1) g st) →
      opsRun T O md rid ops.toList L st K = some r → wpOps P ops Q (L.map (·.1)) a w
  | [], st, g, a, w, _, _, hR, _, h => hQ st g a w h hR
  | (i, o) :: L, st, g, a, w, hS, hL, hR, hf, h => by
    have ho : ops[i]? = some o := hL (i, o) (List.mem_cons_self ..)
    have hi : i < 64 := hS.2.1 (i, o) (List.mem_cons_self ..)
    have hnd := hS.2.2
    simp only [List.map_cons, List.nodup_cons] at hnd
    have hsite : ∀ p ∈ L, 64 * rid + p.1 ≠ 64 * rid + i ∧ 64 * rid + p.1 < 1024064 := fun p hp => by
      have h1 := hS.2.1 p (List.mem_cons_of_mem _ hp)
      have h2 := hS.1
      have h3 : p.1 ≠ i := fun e => hnd.1 (e ▸ List.mem_map.2 ⟨p, hp, rfl⟩)
      omega
    have hsi : 64 * rid + i < 1024064 := by have := hS.1; omega
    simp only [List.map_cons, wpOps, ho]
    simp only [opsRun] at h
    rcases guarded_iff.1 h with ⟨hw, h⟩ | ⟨hw, h⟩
    · rw [wants_real rfl hR hw, if_pos rfl]
      refine .inl (step_sound hT hO (by omega) h hR (hf _ (List.mem_cons_self ..)) fun st' g' a' w' h1 h2 h3 => ?_)
      exact opsText hT hO hQ L st' g' a' w' hS.tail (fun p hp => hL p (List.mem_cons_of_mem _ hp)) h2 (fun p hp => h3.fresh (hsite p hp).1 (hsite p hp).2 hsi (hf p (List.mem_cons_of_mem _ hp))) h1
    · rw [wants_real rfl hR hw, if_neg (by simp)]
      exact opsText hT hO hQ L _ g _ w hS.tail (fun p hp => hL p (List.mem_cons_of_mem _ hp)) (hR.put (v := .tup []) (u := undef) ⟨[], rfl, trivial⟩ o.dst) (fun p hp => (hf p (List.mem_cons_of_mem _ hp)).put) h

theorem numbered_mem {n : Nat} {l : List Oper} {p : Nat × Oper} (h : p ∈ numbered n l) : n ≤ p.1 ∧ p.1 < n + l.length ∧ l[p.1 - n]? = some p.2 := by
  induction l generalizing n with
  | nil => cases h
  | cons o l ih =>
    simp only [numbered, List.mem_cons] at h
    rcases h with rfl | h
    · simp
    · obtain ⟨h1, h2, h3⟩ := ih h
      simp only [List.length_cons]
      refine ⟨by omega, by omega, ?_⟩
      rw [show p.1 - n = (p.1 - (n + 1)) + 1 by omega, List.getElem?_cons_succ]
      exact h3
theorem numbered_fst (n : Nat) (l : List Oper) : (numbered n l).map (·.1) = List.range' n l.length := by
  induction l generalizing n with
  | nil => rfl
  | cons o l ih => simp only [numbered, List.map_cons, ih, List.length_cons, List.range'_succ]
theorem numbered_sites {rid : Nat} {l : List Oper} (h1 : l.length ≤ 64) (h2 : rid < 16000) : Sites rid (numbered 0 l) :=
  ⟨h2, fun p hp => by have := numbered_mem hp; omega, by rw [numbered_fst]; exact List.nodup_range'⟩
end
end Go.BV

/-
  Regions: orders that are drawn.
-/
namespace Go.BV
section
variable {P : Program} {T : TypeId → TI} {O : Env} {F : Fx} {g : Gh} {st : St} {a : Act} {w : World} {o : Oper} {site : Nat} {next : Act → World → Prop} {Q : Exit → Act → World → Prop} {ρ : Type}

/-! ### What an operation's answer hangs on -/
def Agree (op : Op) (e : Operand → V) (tb tb' : Nat → Option (List X)) : Prop := ∀ x ∈ op.operands, ∀ n k, e x = .u (.x (.ptr n k)) → tb n = tb' n
theorem loadX_congr {tb tb' : Nat → Option (List X)} {x : X} {n : Nat} {b : Bool} (h : ∀ m k, x = .ptr m k → tb m = tb' m) : loadX tb x n b = loadX tb' x n b := by
  cases x with
  | ptr m k => simp only [loadX, h _ _ rfl]
  | rop b => cases b <;> rfl
  | _ => rfl
theorem toDU_congr {tb tb' : Nat → Option (List X)} {pos : Nat → Option Nat} {m : Md} {u : U} (h : ∀ m k, u = .x (.ptr m k) → tb m = tb' m) : toDU tb pos m u = toDU tb' pos m u := by
  cases u with
  | agg => cases m <;> rfl
  | x x => cases x with
    | ptr n k => cases m <;> simp only [toDU, h _ _ rfl]
    | _ => cases m <;> rfl
theorem toDUs_congr {tb tb' : Nat → Option (List X)} {pos : Nat → Option Nat} : ∀ {md : List Md} {l : List V}, (∀ x ∈ l, ∀ m k, x = .u (.x (.ptr m k)) → tb m = tb' m) → toDUs tb pos md l = toDUs tb' pos md l
  | [], [], _ => rfl
  | [], _ :: _, _ => rfl
  | _ :: _, [], _ => rfl
  | _ :: _, .tup _ :: _, _ => rfl
  | m :: md, .u u :: l, h => by
    unfold toDUs
    rw [toDU_congr (tb := tb) (tb' := tb') fun m k e => h _ (List.mem_cons_self ..) m k (by rw [e]), toDUs_congr fun x hx => h x (List.mem_cons_of_mem _ hx)]
theorem seeds_congr {tb tb' : Nat → Option (List X)} : ∀ {l : List V}, (∀ x ∈ l, ∀ m k, x = .u (.x (.ptr m k)) → tb m = tb' m) → seeds tb l = seeds tb' l
  | [], _ => rfl
  | v :: l, h => by
    have ih := seeds_congr (l := l) fun x hx => h x (List.mem_cons_of_mem _ hx)
    cases v with
    | tup => exact ih
    | u u => cases u with
      | agg xs => show _ ++ seeds tb l = _ ++ seeds tb' l; rw [ih]
      | x x => cases x with
        | ptr n o =>
          show (match tb n with | some xs => xs.flatMap fnCaps | none => []) ++ seeds tb l = (match tb' n with | some xs => xs.flatMap fnCaps | none => []) ++ seeds tb' l
          rw [ih, h _ (List.mem_cons_self ..) n o rfl]
        | _ => show _ ++ seeds tb l = _ ++ seeds tb' l; rw [ih]
theorem uToks_empty {tb tb' : Nat → Option (List X)} {u : U} : (uToks tb u).isEmpty = (uToks tb' u).isEmpty := by
  cases u with
  | agg => rfl
  | x x => cases x <;> rfl
theorem app_empty {α : Type} (l m : List α) : (l ++ m).isEmpty = (l.isEmpty && m.isEmpty) := by cases l <;> rfl
theorem vToks_empty {tb tb' : Nat → Option (List X)} : ∀ {l : List V}, (vToks tb l).isEmpty = (vToks tb' l).isEmpty
  | [] => rfl
  | .tup _ :: l => by unfold vToks; exact vToks_empty
  | .u u :: l => by unfold vToks; rw [app_empty, app_empty, uToks_empty (tb := tb) (tb' := tb'), vToks_empty (tb := tb) (tb' := tb')]
theorem firstV_ptr {s : Bool × List S0} {n k : Nat} : firstV s ≠ .u (.x (.ptr n k)) := by
  obtain ⟨b, ss⟩ := s
  cases b with
  | true => intro h; cases h
  | false =>
    match ss with
    | [] => intro h; cases h
    | [s] => intro h; cases s <;> cases h
    | _ :: _ :: _ => intro h; cases h
theorem args_ptr {tb tb' : Nat → Option (List X)} {e : Operand → V} {first : List (Bool × List S0)} {args : List Operand} (h : ∀ x ∈ args, ∀ n k, e x = .u (.x (.ptr n k)) → tb n = tb' n) : ∀ x ∈ first.map firstV ++ args.map e, ∀ m k, x = .u (.x (.ptr m k)) → tb m = tb' m := fun x hx m k hxe => by
  rcases List.mem_append.1 hx with hx | hx
  · obtain ⟨s, _, rfl⟩ := List.mem_map.1 hx
    exact absurd hxe firstV_ptr
  · obtain ⟨y, hy, rfl⟩ := List.mem_map.1 hx
    exact h y hy m k hxe

theorem cvD_congr {op : Op} {e e' : Operand → V} {tb tb' : Nat → Option (List X)} (he : ∀ x ∈ op.operands, e x = e' x) (ht : Agree op e tb tb') : cvD T O site op e tb = cvD T O site op e' tb' := by
  unfold cvD
  have pairs : ∀ ps : Array (Nat × Operand), (∀ x ∈ (ps.toList.map (·.2)), e x = e' x) → (ps.toList.map fun (i, x) => (i, e x)) = ps.toList.map fun (i, x) => (i, e' x) := fun ps h =>
    List.map_congr_left fun p hp => by
      obtain ⟨i, x⟩ := p
      simp only [h x (List.mem_map.2 ⟨(i, x), hp, rfl⟩)]
  cases op <;> simp only [Op.operands] at he <;> unfold Agree at ht <;> simp only [Op.operands] at ht <;> try (simp only [cv]; done)
  case build t ps => simp only [cv]; rw [pairs ps fun x hx => he x (by simpa using hx)]
  case buildSlice t n ps => simp only [cv]; rw [pairs ps fun x hx => he x (by simpa using hx)]
  case makeFunc fn first caps =>
    cases fn <;> simp only [cv]
    rw [List.map_congr_left (l := first.toList) (g := e') fun x hx => he x (by simp at hx; simp [hx]), List.map_congr_left (l := caps.toList) (g := e') fun x hx => he x (by simp at hx; simp [hx])]
  case load t x =>
    simp only [cv]
    rw [← he x (by simp)]
    split
    · rename_i y hy
      rw [loadX_congr (tb := tb) (tb' := tb') fun m k h => ht x (by simp) m k (by rw [hy, h])]
    · rfl
  case slice t x lo hi mx => simp only [cv]; cases lo <;> cases hi <;> cases mx <;> simp_all
  case call c =>
    obtain ⟨callee, args, tys⟩ := c
    have hargs : args.toList.map e = args.toList.map e' := List.map_congr_left fun x hx => he x (by simp at hx; simp [Call.operands, hx])
    cases callee with
    | invoke => rfl
    | builtin b => cases b <;> simp only [cv, hargs]
    | value f =>
      simp only [cv]
      rw [← he f (by simp [Call.operands]), ← hargs]
      split
      · rename_i k first hk
        have hp := args_ptr (tb := tb) (tb' := tb') (e := e) (first := first) (args := args.toList) fun x hx n k hxe => ht x (by simp at hx; simp [Call.operands, hx]) n k hxe
        have h1 : ∀ l, (vToks tb l).isEmpty = (vToks tb' l).isEmpty := fun l => vToks_empty
        have h2 : ∀ pos md, toDUs tb pos md (first.map firstV ++ args.toList.map e) = toDUs tb' pos md (first.map firstV ++ args.toList.map e) := fun pos md => toDUs_congr hp
        have h3 : seeds tb (first.map firstV ++ args.toList.map e) = seeds tb' (first.map firstV ++ args.toList.map e) := seeds_congr hp
        simp only [h1, h2, h3]
      · rfl
  all_goals (simp only [cv]; simp_all)

def Calm (T : TypeId → TI) (O : Env) (site : Nat) (o : Oper) (st : St) : Prop := wild (ρ := St) T O site o st (fun s => some s) = none
theorem wild_congr {ρ' : Type} {st' : St} {K : St → Option ρ} {K' : St → Option ρ'} (he : ∀ x ∈ o.op.operands, ev st x = ev st' x) (ht : Agree o.op (ev st) st.tb st'.tb) (h : wild T O site o st K = none) : wild T O site o st' K' = none := by
  unfold wild at *
  split at h
  · cases h
  · cases h
  · rename_i t x ho
    rw [ho] at he
    simp only [Op.operands] at he
    try simp only [ho]
    rw [← he x (by simp)]
    split at h
    · cases hfk : O.fk site
      · rfl
      · rw [hfk] at h; cases h
    · rfl
  · rename_i t n ps ho
    rw [ho] at he
    simp only [Op.operands] at he
    try simp only [ho]
    have hps : (ps.toList.map fun (i, x) => (i, ev st' x)) = ps.toList.map fun (i, x) => (i, ev st x) := List.map_congr_left fun p hp => by
      obtain ⟨i, x⟩ := p
      simp only [he x (by simp; exact ⟨i, by simpa using hp⟩)]
    rw [hps]
    split at h
    · rename_i h1 h2
      rename_i ns
      cases hne : ns.isEmpty
      · rw [hne] at h; cases h
      · first | rfl | simp [h1, h2, hne]
    · first | rfl | (rename_i hno; split; · rename_i h1 h2; exact absurd h2 (hno _ _ _ h1)
                     · rfl)
  · rename_i t x lo hi ho
    rw [ho] at he
    simp only [Op.operands] at he
    try simp only [ho]
    rw [← he x (by simp)]
    split at h
    · cases h
    · rfl
  · rename_i f args tys ho
    rw [ho] at he
    simp only [Op.operands] at he
    unfold Agree at ht
    rw [ho] at ht
    simp only [Op.operands] at ht
    try simp only [ho]
    have hargs : args.toList.map (ev st) = args.toList.map (ev st') := List.map_congr_left fun x hx => he x (by simp at hx; simp [Call.operands, hx])
    rw [← he f (by simp [Call.operands]), ← hargs]
    split at h
    · rename_i k first caps hk
      split at h
      · rename_i ora hora
        have hp := args_ptr (tb := st.tb) (tb' := st'.tb) (e := ev st) (first := first) (args := args.toList) fun x hx n k hxe => ht x (by simp at hx; simp [Call.operands, hx]) n k hxe
        rw [seeds_congr hp, vToks_empty (tb := st.tb) (tb' := st'.tb)] at h
        cases hb : (caps.isEmpty && ora.md.all Md.isVal && (seeds st'.tb (first.map firstV ++ args.toList.map (ev st))).isEmpty && (!ora.weak || (vToks st'.tb (first.map firstV ++ args.toList.map (ev st))).isEmpty))
        · rw [hb] at h; cases h
        · rfl
      · rfl
    · rfl
  · rename_i args tys ho
    rw [ho] at he
    simp only [Op.operands] at he
    try simp only [ho]
    have hargs : args.toList.map (ev st) = args.toList.map (ev st') := List.map_congr_left fun x hx => he x (by simp at hx; simp [Call.operands, hx])
    rw [← hargs]
    split at h
    · cases h
    · rfl
  · rfl
theorem nonEl_congr {st' : St} (he : ∀ x ∈ o.op.operands, ev st x = ev st' x) : nonEl o st = nonEl o st' := by
  unfold nonEl
  cases ho : o.op <;> rw [ho] at he <;> simp only [Op.operands] at he <;> try rfl
  · rename_i x; have := he x (by simp); simp only [this]
  · rename_i x; have := he x (by simp); simp only [this]
theorem Agree.refl {op : Op} {e : Operand → V} {tb : Nat → Option (List X)} : Agree op e tb tb := fun _ _ _ _ _ => rfl

/-! ### Operations whose place is drawn -/
theorem step_calm (hO : OOk P O) {m : Nat} (hm : m = 1 ∨ m = 3) {K : St → Option ρ} {r : ρ} : step T O m site o st K = some r ↔ Calm T O site o st ∧ (m = 3 → nonEl o st = true) ∧ ∃ v x, cvD T O site o.op (ev st) st.tb = some (v, x) ∧ K (st.out site o.dst v x) = some r := by
  unfold step
  rw [cv_nat hO.nat]
  cases hw : wild T O site o st K with
  | some rr =>
    have : (m == 1 || m == 3 || (m == 4 && !ptrStore o st)) = true := by rcases hm with rfl | rfl <;> rfl
    simp only [this, cond_true]
    constructor
    · intro h; cases h
    · rintro ⟨h, _⟩
      have := wild_congr (ρ' := ρ) (K' := K) (fun x _ => rfl) Agree.refl h
      rw [hw] at this; cases this
  | none =>
    have h1 : Calm T O site o st := wild_congr (fun x _ => rfl) Agree.refl hw
    simp only
    cases hb : (m == 3 && !nonEl o st)
    · have h2 : m = 3 → nonEl o st = true := fun e => by
        subst e
        simpa using hb
      simp only [cond_false]
      constructor
      · intro h
        obtain ⟨⟨v, x⟩, h3, h4⟩ := Option.bind_eq_some_iff.1 h
        exact ⟨h1, h2, v, x, h3, h4⟩
      · rintro ⟨_, _, v, x, h3, h4⟩
        exact Option.bind_eq_some_iff.2 ⟨(v, x), h3, h4⟩
    · simp only [cond_true]
      constructor
      · intro h; cases h
      · rintro ⟨_, h, _⟩
        simp only [Bool.and_eq_true, beq_iff_eq, Bool.not_eq_true'] at hb
        rw [h hb.1] at hb
        cases hb.2

/-- Cells that bear a name of a slice. -/
def X.sp : X → Bool
  | .own _ _ => true
  | .bw _ _ _ => true
  | .sus _ _ _ => true
  | .el _ _ _ => true
  | _ => false
structure Mv (f : X → X) : Prop where
  id : ∀ x, x.sp = false → f x = x
  sp : ∀ x, x.sp = true → (f x).sp = true ∨ f x = .undef
/-- A change of names alone. -/
structure Tame (f : X → X) (t : St → St) : Prop where
  mv : Mv f
  ex : ∃ (m : List (Nat × C) → List (Nat × C)) (s : List (Nat × C) → List (Nat × Nat × C × Bool) → List (Nat × Nat × C × Bool)), ∀ st : St, t st = { tmps := st.tmps.map (V.mp f), tabs := st.tabs.map fun (n, cs) => (n, cs.map f), mus := m st.mus, sus := s st.mus st.sus }
theorem Mv.comp {f f' : X → X} (h : Mv f) (h' : Mv f') : Mv fun x => f' (f x) := by
  refine ⟨fun x hx => by rw [h.id x hx, h'.id x hx], fun x hx => ?_⟩
  rcases h.sp x hx with h1 | h1
  · exact h'.sp _ h1
  · right; rw [h1]; exact h'.id _ rfl
theorem mp_comp_u {f f' : X → X} (u : U) : (u.mp f).mp f' = u.mp fun x => f' (f x) := by
  cases u with
  | x => rfl
  | agg xs => simp [U.mp]
theorem mp_comp {f f' : X → X} (v : V) : (v.mp f).mp f' = v.mp fun x => f' (f x) := by
  cases v with
  | u u => simp only [V.mp, mp_comp_u]
  | tup us => simp [V.mp, mp_comp_u]
theorem Tame.comp {f f' : X → X} {t t' : St → St} (h : Tame f t) (h' : Tame f' t') : Tame (fun x => f' (f x)) fun st => t' (t st) := by
  obtain ⟨m, s, h1⟩ := h.ex
  obtain ⟨m', s', h2⟩ := h'.ex
  refine ⟨h.mv.comp h'.mv, fun l => m' (m l), fun l k => s' (m l) (s l k), fun st => ?_⟩
  rw [h2, h1]
  simp only [List.map_map]
  congr 1
  · exact List.map_congr_left fun v _ => mp_comp v
  · exact List.map_congr_left fun p _ => by obtain ⟨n, cs⟩ := p; simp
theorem tame_id : Tame id fun st => st := by
  refine ⟨⟨fun x _ => rfl, fun x h => .inl h⟩, fun l => l, fun _ l => l, fun st => ?_⟩
  have h1 : st.tmps.map (V.mp id) = st.tmps := by
    conv => rhs; rw [← List.map_id st.tmps]
    exact List.map_congr_left fun v _ => map_id_v v
  have h2 : (st.tabs.map fun (n, cs) => (n, cs.map id)) = st.tabs := by
    conv => rhs; rw [← List.map_id st.tabs]
    exact List.map_congr_left fun p _ => by obtain ⟨n, cs⟩ := p; simp
  rw [h1, h2]
theorem tame_drop (p : Nat → Bool) : Tame (X.drop p) fun st => st.drop p := by
  refine ⟨⟨fun x h => ?_, fun x h => ?_⟩, _, fun _ => _, fun st => rfl⟩
  · cases x <;> first | rfl | cases h
  · cases x <;> first | (cases h; done) | skip
    case own n c => show (cond (p n) _ _ : X).sp = true ∨ cond (p n) _ _ = _; cases p n <;> simp [X.sp]
    case bw n c i => show (cond (p n) _ _ : X).sp = true ∨ cond (p n) _ _ = _; cases p n <;> simp [X.sp]
    case el n c i => show (cond (p n) _ _ : X).sp = true ∨ cond (p n) _ _ = _; cases p n <;> simp [X.sp]
    case sus n m c => show (cond (p n || p m) _ _ : X).sp = true ∨ cond (p n || p m) _ _ = _; cases (p n || p m) <;> simp [X.sp]
theorem tame_hole (n i : Nat) : Tame (X.sub n (.hole i)) fun st => st.sub n (.hole i) := by
  refine ⟨⟨fun x h => ?_, fun x h => ?_⟩, _, fun _ => _, fun st => rfl⟩
  · cases x <;> first | rfl | cases h
  · cases x <;> first | (cases h; done) | skip
    case own m c => show (cond (m == n) _ _ : X).sp = true ∨ cond (m == n) _ _ = _; cases (m == n) <;> simp [X.sp]
    case bw m c i => show (cond (m == n) _ _ : X).sp = true ∨ cond (m == n) _ _ = _; cases (m == n) <;> simp [X.sp]
    case el m c i => show (cond (m == n) _ _ : X).sp = true ∨ cond (m == n) _ _ = _; cases (m == n) <;> simp [X.sp]
    case sus k m c => show (cond (k == n || m == n) _ _ : X).sp = true ∨ cond (k == n || m == n) _ _ = _; cases (k == n || m == n) <;> simp [X.sp]
theorem tame_fork (n j : Nat) (c : C) : Tame (X.fork n j) fun st => st.fork n j c := by
  refine ⟨⟨fun x h => ?_, fun x h => ?_⟩, _, fun mus sus => insl (sus.filter fun (k, j, _) => !(k == n || j == n)) n (j, c, (lk mus n).isSome), fun st => rfl⟩
  · cases x <;> first | rfl | cases h
  · cases x <;> first | (cases h; done) | skip
    case own m c => show (cond (m == n) _ _ : X).sp = true ∨ cond (m == n) _ _ = _; cases (m == n) <;> simp [X.sp]
    case bw m c i => show (cond (m == n) _ _ : X).sp = true ∨ cond (m == n) _ _ = _; cases (m == n) <;> simp [X.sp]
    case el m c i => show (cond (m == n) _ _ : X).sp = true ∨ cond (m == n) _ _ = _; cases (m == n) <;> simp [X.sp]
    case sus k m c => show (cond (k == n || m == n) _ _ : X).sp = true ∨ cond (k == n || m == n) _ _ = _; cases (k == n || m == n) <;> simp [X.sp]

/-- What an operation does that hangs on its operands alone. -/
def Plan (dst : Option Tmp) (G : (ρ : Type) → St → (St → Option ρ) → Option ρ) : Prop := (∃ f t v, Tame f t ∧ ∀ (ρ : Type) st (K : St → Option ρ), G ρ st K = K ((t st).put dst v)) ∨ ∀ (ρ : Type) st (K : St → Option ρ), G ρ st K = none
theorem plan_none {dst : Option Tmp} : Plan dst fun _ _ _ => none := .inr fun _ _ _ => rfl
theorem plan_bif {dst : Option Tmp} (b : Bool) {G G' : (ρ : Type) → St → (St → Option ρ) → Option ρ} (h : Plan dst G) (h' : Plan dst G') : Plan dst fun ρ st K => bif b then G ρ st K else G' ρ st K := by cases b <;> assumption
theorem plan_ite {dst : Option Tmp} (p : Prop) [Decidable p] {G G' : (ρ : Type) → St → (St → Option ρ) → Option ρ} (h : Plan dst G) (h' : Plan dst G') : Plan dst fun ρ st K => if p then G ρ st K else G' ρ st K := by
  by_cases hp : p
  · simpa only [if_pos hp] using h
  · simpa only [if_neg hp] using h'
theorem plan_opt {α : Type} {dst : Option Tmp} (x : Option α) {G : α → (ρ : Type) → St → (St → Option ρ) → Option ρ} (h : ∀ a, Plan dst (G a)) : Plan dst fun ρ st K => match x with | some a => G a ρ st K | none => none := by
  cases x with
  | none => exact plan_none
  | some a => exact h a
theorem plan_yes {dst : Option Tmp} {f : X → X} {t : St → St} (v : V) (h : Tame f t) : Plan dst fun ρ st K => K ((t st).put dst v) := .inl ⟨f, t, v, h, fun _ _ _ => rfl⟩
theorem appendP_plan (dst : Option Tmp) (x y : V) : Plan dst fun ρ st K => appendP O site dst st x y K := by
  unfold appendP
  cases x with
  | tup => exact plan_none
  | u u => cases u with
    | agg => exact plan_none
    | x x =>
      cases hy : asSliceA y with
      | none => cases x <;> exact plan_none
      | some d =>
        cases x with
        | nil c =>
          simp only
          cases c.rd.app d with
          | none => exact plan_none
          | some e => exact plan_ite (e.len ≤ 1099511627776) (plan_yes _ (tame_drop _)) plan_none
        | own n c =>
          refine plan_bif _ plan_none ?_
          cases c.app d with
          | none => exact plan_none
          | some e =>
            refine plan_ite (e.len ≤ 1099511627776) (plan_bif _ (plan_bif _ plan_none ?_) (plan_yes _ (tame_drop _))) plan_none
            exact plan_yes (t := fun st => (st.drop fun m => m == upName site n).fork n (upName site n) c) _ ((tame_drop _).comp (tame_fork _ _ _))
        | bw n c i =>
          refine plan_bif _ plan_none ?_
          cases c.app d with
          | none => exact plan_none
          | some e =>
            refine plan_ite (e.len ≤ 1099511627776) ?_ plan_none
            exact plan_yes (t := fun st => (st.sub n (.hole i)).drop fun m => m == upName site n) _ ((tame_hole _ _).comp (tame_drop _))
        | _ => exact plan_none
theorem appendC_plan (dst : Option Tmp) (x y : V) : Plan dst fun ρ st K => appendC O site dst st x y K := by
  unfold appendC
  have hP := appendP_plan (O := O) (site := site) dst x y
  cases y with
  | tup => exact hP
  | u u => cases u with
    | agg => exact hP
    | x z => cases z with
      | own k c => cases c with
        | orows ys =>
          cases x with
          | tup => exact hP
          | u u => cases u with
            | agg => exact hP
            | x x => cases x with
              | nil c => exact plan_bif _ plan_none (plan_ite (ys.length ≤ 1099511627776) (plan_yes _ (tame_drop _)) plan_none)
              | own n c => cases c with
                | orows xs => exact plan_bif _ plan_none (plan_ite ((xs ++ ys).length ≤ 1099511627776) (plan_yes _ (tame_drop _)) plan_none)
                | _ => exact hP
              | _ => exact hP
        | _ => exact hP
      | _ => exact hP
end
end Go.BV

/-
  Drawn orders: two operations that are apart.
-/
namespace Go.BV
section
variable {P : Program} {T : TypeId → TI} {O : Env} {F : Fx} {g : Gh} {st : St} {a : Act} {w : World} {o : Oper} {site : Nat} {next : Act → World → Prop} {Q : Exit → Act → World → Prop} {ρ : Type}

def Same (o : Oper) (st st0 : St) : Prop := ∀ x ∈ o.op.operands, ev st x = ev st0 x
def PlanS (T : TypeId → TI) (O : Env) (site : Nat) (o : Oper) (st0 : St) : Prop := (∃ f t v, Tame f t ∧ ∀ (ρ : Type) st (K : St → Option ρ), Same o st st0 → step T O 2 site o st K = K ((t st).put o.dst v)) ∨ ∀ (ρ : Type) st (K : St → Option ρ), Same o st st0 → step T O 2 site o st K = none
theorem PlanS.of {st0 : St} {G : (ρ : Type) → St → (St → Option ρ) → Option ρ} (h : Plan o.dst G) (he : ∀ (ρ : Type) st (K : St → Option ρ), Same o st st0 → step T O 2 site o st K = G ρ st K) : PlanS T O site o st0 := by
  rcases h with ⟨f, t, v, h1, h2⟩ | h2
  · exact .inl ⟨f, t, v, h1, fun ρ st K hs => (he ρ st K hs).trans (h2 ρ st K)⟩
  · exact .inr fun ρ st K hs => (he ρ st K hs).trans (h2 ρ st K)
theorem app_step (ha : isApp o = true) (st0 : St) : PlanS T O site o st0 := by
  unfold isApp at ha
  split at ha
  · rename_i args tys ho
    have hargs : ∀ st, Same o st st0 → args.toList.map (ev st) = args.toList.map (ev st0) := fun st hs => List.map_congr_left fun x hx => hs x (by rw [ho]; simp at hx; simp [Op.operands, Call.operands, hx])
    have cvn : ∀ (ρ : Type) (e : Operand → V) (tb : Nat → Option (List X)) (K : V → Option (List X) → Option ρ), cv T O site (.call { callee := .builtin .append, args := args, argTypes := tys }) e tb K = none := fun ρ e tb K => by
      simp only [cv]
    have key : ∀ (ρ : Type) st (K : St → Option ρ), Same o st st0 → step T O 2 site o st K = (match args.toList.map (ev st0) with
        | [x, y] => (match tys.toList with
          | [t, t'] => bif t == t' then (match (T t).u with | .slice _ => appendC O site o.dst st x y K | _ => none) else none
          | _ => none)
        | _ => none) := fun ρ st K hs => by
      unfold step wild
      rw [ho]
      simp only [hargs st hs, cvn]
      match args.toList.map (ev st0) with
      | [] => rfl
      | [_] => rfl
      | [_, _] => rfl
      | _ :: _ :: _ :: _ => rfl
    refine PlanS.of (G := fun ρ st K => (match args.toList.map (ev st0) with
        | [x, y] => (match tys.toList with
          | [t, t'] => bif t == t' then (match (T t).u with | .slice _ => appendC O site o.dst st x y K | _ => none) else none
          | _ => none)
        | _ => none)) ?_ key
    match args.toList.map (ev st0) with
    | [] => exact plan_none
    | [_] => exact plan_none
    | _ :: _ :: _ :: _ => exact plan_none
    | [x, y] =>
      match tys.toList with
      | [] => exact plan_none
      | [_] => exact plan_none
      | _ :: _ :: _ :: _ => exact plan_none
      | [t, t'] =>
        refine plan_bif _ ?_ plan_none
        cases (T t).u with
        | slice _ => exact appendC_plan o.dst x y
        | _ => exact plan_none
  · rename_i t n ps ho
    have hps : ∀ st, Same o st st0 → (ps.toList.map fun (i, x) => (i, ev st x)) = ps.toList.map fun (i, x) => (i, ev st0 x) := fun st hs => List.map_congr_left fun p hp => by
      obtain ⟨i, x⟩ := p
      simp only [hs x (by rw [ho]; simp [Op.operands]; exact ⟨i, by simpa using hp⟩)]
    generalize hL : (ps.toList.map fun (i, x) => (i, ev st0 x)) = L at hps
    have cvK : ∀ (ρ : Type) st (K : V → Option (List X) → Option ρ), Same o st st0 → cv T O site (.buildSlice t n ps) (ev st) st.tb K = (match (T t).u with
        | .slice c => bif Nat.ble n 4096 then (match buildL (bif n == 0 then c.zeros n else c.rd.zeros n) L with | some c => K (.u (.x (.own (nm site 0) c))) none | none => none) else none
        | _ => none) := fun ρ st K hs => by
      simp only [cv, hps st hs]
      cases (T t).u with
      | slice c => cases buildL (bif n == 0 then c.zeros n else c.rd.zeros n) L <;> rfl
      | _ => rfl
    have cvP : Plan o.dst fun ρ st K => (match (T t).u with
        | .slice c => bif Nat.ble n 4096 then (match buildL (bif n == 0 then c.zeros n else c.rd.zeros n) L with | some c => K (st.put o.dst (.u (.x (.own (nm site 0) c)))) | none => none) else none
        | _ => none) := by
      cases (T t).u with
      | slice c =>
        refine plan_bif _ ?_ plan_none
        cases buildL (bif n == 0 then c.zeros n else c.rd.zeros n) L with
        | none => exact plan_none
        | some c => exact plan_yes _ tame_id
      | _ => exact plan_none
    have key : ∀ (ρ : Type) st (K : St → Option ρ), Same o st st0 → step T O 2 site o st K = (match (T t).u, buildO [] [] L with
        | .slice (.orows _), some (xs, ns) => bif ns.isEmpty then (match (T t).u with
            | .slice c => bif Nat.ble n 4096 then (match buildL (bif n == 0 then c.zeros n else c.rd.zeros n) L with | some c => K (st.put o.dst (.u (.x (.own (nm site 0) c)))) | none => none) else none
            | _ => none)
          else (bif n == xs.length && Nat.ble n 4096 then K ((st.drop fun m => ns.contains m || m == nm site 0).put o.dst (.u (.x (.own (nm site 0) (.orows xs))))) else none)
        | _, _ => (match (T t).u with
            | .slice c => bif Nat.ble n 4096 then (match buildL (bif n == 0 then c.zeros n else c.rd.zeros n) L with | some c => K (st.put o.dst (.u (.x (.own (nm site 0) c)))) | none => none) else none
            | _ => none)) := fun ρ st K hs => by
      have hcv := cvK ρ st (fun v ext => K (st.out site o.dst v ext)) hs
      unfold step wild
      rw [ho]
      simp only [hps st hs, hcv]
      cases hu : (T t).u with
      | slice c => cases c with
        | orows ys =>
          cases hb : buildO [] [] L with
          | none => rfl
          | some p =>
            obtain ⟨xs, ns⟩ := p
            cases hne : ns.isEmpty
            · simp only [hne, cond_false]; rfl
            · simp only [hne, cond_true]; rfl
        | _ => rfl
      | _ => rfl
    refine PlanS.of ?_ key
    cases hu : (T t).u with
    | slice c => cases c with
      | orows ys =>
        cases hb : buildO [] [] L with
        | none => simpa only [hu] using cvP
        | some p =>
          obtain ⟨xs, ns⟩ := p
          refine plan_bif _ (by simpa only [hu] using cvP) (plan_bif _ (plan_yes _ (tame_drop _)) plan_none)
      | _ => simpa only [hu] using cvP
    | _ => exact plan_none
  · cases ha

/-! ### Operations on variables alone -/
def okL : X → Bool
  | .ptr _ _ => true
  | .rop b _ _ => b
  | .roel _ _ => true
  | .fn _ _ _ => true
  | _ => false
/-- What they give. -/
def looseV (T : TypeId → TI) (op : Op) (e : Operand → V) (tb : Nat → Option (List X)) : Option V := match op with
  | .move x => some (e x)
  | .assign x => some (e x)
  | .nilCheck x => (match e x with
    | .u (.x y) => bif okL y then some (e x) else none
    | _ => none)
  | .fieldAddr t x f => (match (T t).u, e x with
    | .struct fs, .u (.x (.ptr n k)) => (match fs[f]? with | some (off, _, _) => some (.u (.x (.ptr n (k + off)))) | none => none)
    | .struct fs, .u (.x (.rop b cs k)) => (match fs[f]? with | some (off, _, _) => bif b then some (.u (.x (.rop true cs (k + off)))) else none | none => none)
    | _, _ => none)
  | .load t x => (match e x with
    | .u (.x y) => bif okL y then (bif Nat.blt 0 (T t).size then (match loadX tb y (T t).size (T t).u.isAgg with
      | some u => some (.u u)
      | none => none) else none) else none
    | _ => none)
  | _ => none
theorem loose_step (hO : OOk P O) (hl : isLoose o = true) {K : St → Option ρ} {r : ρ} : step T O 3 site o st K = some r ↔ ∃ v, looseV T o.op (ev st) st.tb = some v ∧ K (st.put o.dst v) = some r := by
  rw [step_calm hO (.inr rfl)]
  have calm : nonEl o st = true → Calm T O site o st := fun hn => by
    unfold Calm wild
    unfold isLoose at hl
    unfold nonEl at hn
    cases ho : o.op <;> rw [ho] at hl hn <;> first | rfl | (cases hl; done) | skip
    case assign x => cases x <;> first | rfl | cases hl
    case load t x =>
      simp only at hn ⊢
      split
      · rename_i h1; rw [h1] at hn; cases hn
      · rfl
  have val : nonEl o st = true → ∀ v x, (cvD T O site o.op (ev st) st.tb = some (v, x) ↔ looseV T o.op (ev st) st.tb = some v ∧ x = none) := fun hn v x => by
    unfold cvD looseV
    unfold isLoose at hl
    unfold nonEl at hn
    cases ho : o.op <;> rw [ho] at hl hn <;> first | (cases hl; done) | skip
    all_goals simp only [cv] at hn ⊢
    case move y => simp only [Option.some.injEq, Prod.mk.injEq]; exact ⟨fun h => ⟨h.1, h.2.symm⟩, fun h => ⟨h.1, h.2.symm⟩⟩
    case assign y => simp only [Option.some.injEq, Prod.mk.injEq]; exact ⟨fun h => ⟨h.1, h.2.symm⟩, fun h => ⟨h.1, h.2.symm⟩⟩
    case nilCheck y =>
      cases he : ev st y with
      | tup => simp
      | u u => cases u with
        | agg => simp
        | x z =>
          cases z <;> simp only [okL, cond_true, cond_false, Option.some.injEq, Prod.mk.injEq] <;> first | (rw [he] at hn; cases hn; done) | (exact ⟨fun h => ⟨h.1, h.2.symm⟩, fun h => ⟨h.1, h.2.symm⟩⟩) | (simp; done) | skip
          rename_i b cs k
          cases b <;> simp only [cond_true, cond_false, Option.some.injEq, Prod.mk.injEq] <;> first | (exact ⟨fun h => ⟨h.1, h.2.symm⟩, fun h => ⟨h.1, h.2.symm⟩⟩) | (simp; done)
    case fieldAddr t y f =>
      cases (T t).u with
      | struct fs =>
        cases he : ev st y with
        | tup => simp
        | u u => cases u with
          | agg => simp
          | x z =>
            cases z <;> first | (simp; done) | skip
            · simp only
              cases fs[f]? with
              | none => simp
              | some p => simp only [Option.some.injEq, Prod.mk.injEq]; exact ⟨fun h => ⟨h.1, h.2.symm⟩, fun h => ⟨h.1, h.2.symm⟩⟩
            · rename_i b cs k
              simp only
              cases fs[f]? with
              | none => simp
              | some p => cases b <;> simp only [cond_true, cond_false, Option.some.injEq, Prod.mk.injEq] <;> first | (exact ⟨fun h => ⟨h.1, h.2.symm⟩, fun h => ⟨h.1, h.2.symm⟩⟩) | (simp; done)
      | _ => simp
    case load t y =>
      cases he : ev st y with
      | tup => simp
      | u u => cases u with
        | agg => simp
        | x z =>
          rw [he] at hn
          cases Nat.blt 0 (T t).size
          · simp only [cond_false]
            cases okL z <;> simp
          · simp only [cond_true]
            cases hz : okL z
            · have : loadX st.tb z (T t).size (T t).u.isAgg = none := by
                cases z <;> first | rfl | (cases hz; done) | (cases hn; done) | skip
                rename_i b cs k
                cases b
                · rfl
                · cases hz
              simp [this]
            · simp only [cond_true]
              cases loadX st.tb z (T t).size (T t).u.isAgg with
              | none => simp
              | some u => simp only [Option.some.injEq, Prod.mk.injEq]; exact ⟨fun h => ⟨h.1, h.2.symm⟩, fun h => ⟨h.1, h.2.symm⟩⟩
  have non : (∃ v, looseV T o.op (ev st) st.tb = some v) → nonEl o st = true := fun ⟨v, hv⟩ => by
    unfold looseV at hv
    unfold nonEl
    cases ho : o.op <;> rw [ho] at hv <;> first | rfl | skip
    all_goals
      simp only at hv ⊢
      split
      · rename_i h1; rw [h1] at hv; cases hv
      · rfl
  constructor
  · rintro ⟨_, h2, v, x, h3, h4⟩
    obtain ⟨h5, rfl⟩ := (val (h2 rfl) v x).1 h3
    exact ⟨v, h5, h4⟩
  · rintro ⟨v, h5, h4⟩
    have hn := non ⟨v, h5⟩
    exact ⟨calm hn, fun _ => hn, v, none, (val hn v none).2 ⟨h5, rfl⟩, h4⟩
end
end Go.BV

/-
  Drawn orders: two operations that are apart.
-/
namespace Go.BV
section
variable {P : Program} {T : TypeId → TI} {O : Env} {F : Fx} {g : Gh} {st : St} {a : Act} {w : World} {o : Oper} {site : Nat} {next : Act → World → Prop} {Q : Exit → Act → World → Prop} {ρ : Type} {f : X → X} {t : St → St}

theorem okL_sp {y : X} (h : okL y = true) : y.sp = false := by cases y <;> first | rfl | cases h
theorem okL_f (hf : Mv f) (y : X) : okL (f y) = okL y := by
  cases hs : y.sp with
  | false => rw [hf.id y hs]
  | true =>
    have h1 : okL y = false := by cases y <;> first | rfl | cases hs
    rw [h1]
    rcases hf.sp y hs with h | h
    · cases e : okL (f y) with
      | false => rfl
      | true => rw [okL_sp e] at h; cases h
    · rw [h]; rfl
theorem toX_sp (s : S0) : s.toX.sp = false := by cases s <;> rfl
theorem toX_f (hf : Mv f) (s : S0) : f s.toX = s.toX := hf.id _ (toX_sp s)
theorem ofConst_f (hf : Mv f) (v : Value) : (ofConst v).mp f = ofConst v := by
  unfold ofConst
  split <;> (show V.u (.x (f _)) = _; rw [hf.id _ rfl])
theorem Tame.tmps (ht : Tame f t) : (t st).tmps = st.tmps.map (V.mp f) := by obtain ⟨m, s, h⟩ := ht.ex; rw [h]
theorem Tame.tabs (ht : Tame f t) : (t st).tabs = st.tabs.map fun (n, cs) => (n, cs.map f) := by obtain ⟨m, s, h⟩ := ht.ex; rw [h]
theorem Tame.tb (ht : Tame f t) (n : Nat) : (t st).tb n = (st.tb n).map (List.map f) := by
  show lk (t st).tabs n = _
  rw [ht.tabs, lk_map (List.map f)]
  rfl
theorem Tame.ev (ht : Tame f t) (x : Operand) : ev (t st) x = (ev st x).mp f := by
  cases x with
  | tmp d =>
    show (t st).tmps.getD d _ = V.mp f (st.tmps.getD d _)
    rw [ht.tmps]
    simp only [List.getD_eq_getElem?_getD, List.getElem?_map]
    cases st.tmps[d]? with
    | none => show _ = V.u (.x (f .undef)); rw [ht.mv.id _ rfl]; rfl
    | some v => rfl
  | const v => exact (ofConst_f ht.mv v).symm
  | func k => show _ = V.u (.x (f _)); rw [ht.mv.id _ rfl]; rfl
  | global n => show _ = V.u (.x (f _)); rw [ht.mv.id _ rfl]; rfl
theorem Tame.put (ht : Tame f t) (dst : Option Tmp) (v : V) : t (st.put dst v) = (t st).put dst (v.mp f) := by
  obtain ⟨m, s, h⟩ := ht.ex
  cases dst with
  | none => rfl
  | some d =>
    rw [h, h]
    simp only [St.put, List.map_set]
theorem cut_map {α β : Type} (f : α → β) (xs : List α) (o n : Nat) : cut (xs.map f) o n = (cut xs o n).map (List.map f) := by
  unfold cut
  rw [List.length_map]
  cases Nat.ble (o + n) xs.length
  · rfl
  · simp [List.map_take, List.map_drop]
theorem ofCells_map (b : Bool) (ys : List X) : U.ofCells b (ys.map f) = (U.ofCells b ys).map (U.mp f) := by
  cases b with
  | true => rfl
  | false => match ys with
    | [] => rfl
    | [_] => rfl
    | _ :: _ :: _ => rfl
theorem loadX_map (ht : Tame f t) {y : X} (hy : okL y = true) {n : Nat} {b : Bool} : loadX (t st).tb y n b = (loadX st.tb y n b).map (U.mp f) := by
  cases y <;> first | (cases hy; done) | skip
  case ptr m o =>
    simp only [loadX, ht.tb]
    cases st.tb m with
    | none => rfl
    | some xs =>
      simp only [Option.map_some, cut_map]
      cases cut xs o n with
      | none => rfl
      | some ys => exact ofCells_map b ys
  case rop p cs o =>
    cases p with
    | false => cases hy
    | true =>
      simp only [loadX]
      cases cut cs o n with
      | none => rfl
      | some ys =>
        simp only
        rw [← ofCells_map]
        congr 1
        rw [List.map_map]
        exact List.map_congr_left fun s _ => (toX_f ht.mv s).symm
  case roel c i =>
    simp only [loadX]
    cases b
    · show some _ = some (U.x (f _))
      rw [toX_f ht.mv]
    · rfl
  case fn => rfl
theorem loose_tame (ht : Tame f t) {op : Op} : looseV T op (ev (t st)) (t st).tb = (looseV T op (ev st) st.tb).map (V.mp f) := by
  cases op <;> try rfl
  case move x => simp only [looseV, ht.ev]; rfl
  case assign x => simp only [looseV, ht.ev]; rfl
  case nilCheck x =>
    simp only [looseV, ht.ev]
    cases he : ev st x with
    | tup => rfl
    | u u => cases u with
      | agg => rfl
      | x y =>
        simp only [V.mp, U.mp, okL_f ht.mv]
        cases okL y <;> rfl
  case fieldAddr ty x k =>
    simp only [looseV, ht.ev]
    cases (T ty).u <;> try rfl
    rename_i fs
    cases he : ev st x with
    | tup => rfl
    | u u => cases u with
      | agg => rfl
      | x y =>
        cases hs : y.sp with
        | true =>
          have h2 : ∀ z : X, okL z = false → (match TU.struct fs, V.u (.x z) with
            | .struct fs, .u (.x (.ptr n k')) => (match fs[k]? with | some (off, _, _) => some (V.u (.x (.ptr n (k' + off)))) | none => none)
            | .struct fs, .u (.x (.rop b cs k')) => (match fs[k]? with | some (off, _, _) => bif b then some (.u (.x (.rop true cs (k' + off)))) else none | none => none)
            | _, _ => none) = none := fun z hz => by
            cases z <;> first | rfl | (cases hz; done) | skip
            rename_i b cs k'
            cases b
            · simp only
              cases fs[k]? <;> rfl
            · cases hz
          have h1 : okL y = false := by cases y <;> first | rfl | cases hs
          have h3 := h2 y h1
          have h4 := h2 (f y) (by rw [okL_f ht.mv]; exact h1)
          exact h4.trans (congrArg (Option.map (V.mp f)) h3).symm
        | false =>
          have : V.mp f (.u (.x y)) = .u (.x y) := by show V.u (.x (f y)) = _; rw [ht.mv.id y hs]
          rw [this]
          cases y <;> try rfl
          · simp only
            cases fs[k]? with
            | none => rfl
            | some p => show some (V.u (.x _)) = some (V.u (.x (f _))); rw [ht.mv.id _ rfl]
          · rename_i b cs k'
            simp only
            cases fs[k]? with
            | none => rfl
            | some p => cases b
                        · rfl
                        · show some (V.u (.x _)) = some (V.u (.x (f _))); rw [ht.mv.id _ rfl]
  case load ty x =>
    simp only [looseV, ht.ev]
    cases he : ev st x with
    | tup => rfl
    | u u => cases u with
      | agg => rfl
      | x y =>
        simp only [V.mp, U.mp, okL_f ht.mv]
        cases hy : okL y
        · rfl
        · rw [ht.mv.id y (okL_sp hy), loadX_map ht hy]
          cases Nat.blt 0 (T ty).size
          · rfl
          · simp only [cond_true]
            cases loadX st.tb y (T ty).size (T ty).u.isAgg <;> rfl

/-! ### Two that are apart -/
theorem out_tmps {dst : Option Tmp} {v : V} {ext : Option (List X)} {t : Nat} (h : dst ≠ some t) : (st.out site dst v ext).tmps[t]? = st.tmps[t]? := by
  have : ∀ st : St, (st.put dst v).tmps[t]? = st.tmps[t]? := fun st => by
    cases dst with
    | none => rfl
    | some d => simp only [St.put]; rw [List.getElem?_set_ne]; intro e; exact h (by rw [e])
  cases ext with
  | none => exact this st
  | some cs => exact this _
theorem out_ev {dst : Option Tmp} {v : V} {ext : Option (List X)} {x : Operand} (h : ∀ d, dst = some d → x ≠ .tmp d) : ev (st.out site dst v ext) x = ev st x := by
  cases x with
  | tmp t =>
    show St.get _ t = St.get _ t
    simp only [St.get, List.getD_eq_getElem?_getD]
    rw [out_tmps fun e => h t e rfl]
  | _ => rfl
theorem out_wants {all : List Oper} {ops : Array Oper} (ha : all = ops.toList) {dst : Option Tmp} {v : V} {ext : Option (List X)} {b : Bool} (h : ∀ d, dst = some d → d ∉ o.looksAt ops) : Wants all o (st.out site dst v ext) b ↔ Wants all o st b := by
  subst ha
  unfold Wants
  cases hg : o.guard with
  | none => rfl
  | some p =>
    obtain ⟨j, want⟩ := p
    simp only
    constructor
    all_goals
      rintro ⟨d, hd, h'⟩
      have hne : dst ≠ some d := fun e => h d e (by rw [Array.getElem?_toList] at hd; simp [Oper.looksAt, hg, hd])
      refine ⟨d, hd, ?_⟩
      simpa [out_tmps hne] using h'
theorem tame_wants (ht : Tame f t) {all : List Oper} {b : Bool} : Wants all o (t st) b ↔ Wants all o st b := by
  unfold Wants
  cases hg : o.guard with
  | none => rfl
  | some p =>
    obtain ⟨j, want⟩ := p
    simp only
    have key : ∀ d : Nat, (((∃ c, (t st).tmps[d]? = some (.u (.x (.bool c))) ∧ b = (c == want)) ∨ (∃ us, (t st).tmps[d]? = some (.tup us) ∧ b = false)) ↔ ((∃ c, st.tmps[d]? = some (.u (.x (.bool c))) ∧ b = (c == want)) ∨ (∃ us, st.tmps[d]? = some (.tup us) ∧ b = false))) := fun d => by
      rw [ht.tmps, List.getElem?_map]
      cases st.tmps[d]? with
      | none => simp
      | some v =>
        cases v with
        | tup us => simp [V.mp]
        | u u => cases u with
          | agg => simp [V.mp, U.mp]
          | x y =>
            cases hs : y.sp with
            | false => simp [V.mp, U.mp, ht.mv.id y hs]
            | true =>
              have h1 : ∀ c, y ≠ .bool c := fun c e => by rw [e] at hs; cases hs
              have h2 : ∀ c, f y ≠ .bool c := fun c e => by
                rcases ht.mv.sp y hs with h | h <;> rw [e] at h <;> cases h
              simp [V.mp, U.mp, h1, h2]
    exact ⟨fun ⟨d, hd, h⟩ => ⟨d, hd, (key d).1 h⟩, fun ⟨d, hd, h⟩ => ⟨d, hd, (key d).2 h⟩⟩
theorem out_tb_ne {dst : Option Tmp} {v : V} {ext : Option (List X)} {n : Nat} (h : n ≠ nm site 0) : (st.out site dst v ext).tb n = st.tb n := by
  cases ext with
  | none => show (st.put dst v).tb n = _; rw [put_tb]
  | some cs =>
    show (St.put { st with tabs := insl st.tabs (nm site 0) cs } dst v).tb n = _
    rw [put_tb]
    exact lk_insl_ne _ _ _ _ h
theorem put_out : st.put o.dst (.tup []) = st.out site o.dst (.tup []) none := rfl
theorem insl_comm {α : Type} {m n : Nat} {x y : α} (h : m ≠ n) : ∀ l : List (Nat × α), insl (insl l m x) n y = insl (insl l n y) m x
  | [] => by
    simp only [insl]
    rcases Nat.lt_or_gt_of_ne h with h' | h'
    · have h1 : Nat.blt n m = false := by rw [Bool.eq_false_iff]; simp; omega
      have h2 : Nat.blt m n = true := by simpa using h'
      simp [h1, h2]
    · have h1 : Nat.blt m n = false := by rw [Bool.eq_false_iff]; simp; omega
      have h2 : Nat.blt n m = true := by simpa using h'
      simp [h1, h2]
  | (k, z) :: l => by
    have ih := insl_comm (x := x) (y := y) h l
    have bf : ∀ p q, ¬ p < q → Nat.blt p q = false := fun p q hh => by rw [Bool.eq_false_iff]; simpa using hh
    have bt : ∀ p q, p < q → Nat.blt p q = true := fun p q hh => by simpa using hh
    by_cases h1 : m < k <;> by_cases h2 : n < k
    · simp only [insl, bt _ _ h1, bt _ _ h2, cond_true]
      rcases Nat.lt_or_gt_of_ne h with h' | h'
      · simp only [bf n m (by omega), bt _ _ h', cond_true, cond_false, insl, bt _ _ h2]
      · simp only [bf m n (by omega), bt _ _ h', cond_true, cond_false, insl, bt _ _ h1]
    · simp only [insl, bt _ _ h1, bf _ _ h2, cond_true, cond_false, bf n m (by omega)]
    · simp only [insl, bt _ _ h2, bf _ _ h1, cond_true, cond_false, bf m n (by omega)]
    · simp only [insl, bf _ _ h1, bf _ _ h2, cond_false, ih]
def setd : Option Tmp → V → List V → List V
  | some d, v, l => l.set d v
  | none, _, l => l
theorem put_setd (st : St) (d : Option Tmp) (v : V) : st.put d v = { st with tmps := setd d v st.tmps } := by cases d <;> rfl
theorem setd_comm {d d' : Option Tmp} {v v' : V} (hd : ∀ k, d = some k → d' ≠ some k) (l : List V) : setd d' v' (setd d v l) = setd d v (setd d' v' l) := by
  cases d with
  | none => rfl
  | some k => cases d' with
    | none => rfl
    | some k' => exact List.set_comm _ _ (fun e => hd k rfl (by rw [e]))
theorem put_comm {d d' : Option Tmp} {v v' : V} (hd : ∀ k, d = some k → d' ≠ some k) : (st.put d v).put d' v' = (st.put d' v').put d v := by
  simp only [put_setd, setd_comm hd]
theorem out_comm {s s' : Nat} {d d' : Option Tmp} {v v' : V} {e e' : Option (List X)} (hd : ∀ k, d = some k → d' ≠ some k) (hs : nm s 0 ≠ nm s' 0) : (st.out s d v e).out s' d' v' e' = (st.out s' d' v' e').out s d v e := by
  cases e <;> cases e' <;> simp only [St.out, put_setd, setd_comm hd]
  rw [insl_comm hs]

/-- One operation of a drawn region. -/
def OneR (T : TypeId → TI) (O : Env) (m site : Nat) (all : List Oper) (o : Oper) (st st' : St) : Prop :=
  (Wants all o st true ∧ step T O m site o st some = some st') ∨ (Wants all o st false ∧ st' = st.put o.dst (.tup []))
/-- Operations whose place may be drawn. -/
def Goes (m : Nat) (o : Oper) : Prop := (m = 1 ∨ m = 3) ∨ (m = 2 ∧ isApp o = true) ∨ (m = 4 ∧ isStore o = true)
/-- Which two may change places. -/
def Pair (m : Nat) (x : Oper) (m' : Nat) (y : Oper) : Prop := ((m = 1 ∨ m = 3) ∧ (m' = 1 ∨ m' = 3)) ∨ (m = 2 ∧ isApp x = true ∧ m' = 3 ∧ isLoose y = true) ∨ (m = 3 ∧ isLoose x = true ∧ m' = 2 ∧ isApp y = true) ∨ (m = 4 ∧ isStore x = true ∧ m' = 3 ∧ isPure y = true) ∨ (m = 3 ∧ isPure x = true ∧ m' = 4 ∧ isStore y = true)
theorem Pair.goes {m m' : Nat} {x y : Oper} (h : Pair m x m' y) : Goes m x ∧ Goes m' y := by
  rcases h with ⟨h1, h2⟩ | ⟨h1, h2, h3, h4⟩ | ⟨h1, h2, h3, h4⟩ | ⟨h1, h2, h3, h4⟩ | ⟨h1, h2, h3, h4⟩
  · exact ⟨.inl h1, .inl h2⟩
  · exact ⟨.inr (.inl ⟨h1, h2⟩), .inl (.inr h3)⟩
  · exact ⟨.inl (.inr h1), .inr (.inl ⟨h3, h4⟩)⟩
  · exact ⟨.inr (.inr ⟨h1, h2⟩), .inl (.inr h3)⟩
  · exact ⟨.inl (.inr h1), .inr (.inr ⟨h3, h4⟩)⟩
/-- A store into a variable: which table it writes. -/
def updT (q : Option (Nat × List X)) (st : St) : St := match q with
  | some (n, ys) => { st with tabs := setl st.tabs n ys }
  | none => st
theorem updT_put {q : Option (Nat × List X)} {d : Option Tmp} {v : V} : updT q (st.put d v) = (updT q st).put d v := by
  cases q <;> cases d <;> rfl
theorem updT_ev {q : Option (Nat × List X)} {x : Operand} : ev (updT q st) x = ev st x := by
  cases q <;> cases x <;> rfl
theorem updT_wants {q : Option (Nat × List X)} {all : List Oper} {b : Bool} : Wants all o (updT q st) b ↔ Wants all o st b := by
  cases q <;> exact Iff.rfl
theorem st_step (hs : isStore o = true) (st0 : St) : (∃ q, ∀ (ρ : Type) st (K : St → Option ρ), Same o st st0 → st.tabs = st0.tabs → step T O 4 site o st K = K ((updT q st).put o.dst (.tup []))) ∨ ∀ (ρ : Type) st (K : St → Option ρ), Same o st st0 → st.tabs = st0.tabs → step T O 4 site o st K = none := by
  unfold isStore at hs
  split at hs
  case h_2 => cases hs
  rename_i t x y ho
  have hx : ∀ st, Same o st st0 → ev st x = ev st0 x := fun st h => h x (by rw [ho]; simp [Op.operands])
  have hy : ∀ st, Same o st st0 → ev st y = ev st0 y := fun st h => h y (by rw [ho]; simp [Op.operands])
  have key : ∀ (ρ : Type) st (K : St → Option ρ), Same o st st0 → step T O 4 site o st K = (match ev st0 x, ev st0 y with
      | .u (.x (.ptr n k)), .u u => bif u.cells.length == (T t).size && Nat.blt 0 (T t).size then (bif u.cells.all X.cellOk then (match lk st.tabs n with
        | some xs => (match splice xs u.cells k with | some ys => K ((updT (some (n, ys)) st).put o.dst (.tup [])) | none => none)
        | none => none) else none) else none
      | _, _ => none) := fun ρ st K h => by
    unfold step wild ptrStore
    rw [ho]
    simp only [hx st h, hy st h]
    cases ev st0 x with
    | tup => rfl
    | u a => cases a with
      | agg => rfl
      | x a => cases ev st0 y with
        | tup => cases a <;> rfl
        | u u => cases a <;> rfl
  cases hex : ev st0 x with
  | tup => exact .inr fun ρ st K h _ => by rw [key ρ st K h, hex]
  | u a => cases a with
    | agg => exact .inr fun ρ st K h _ => by rw [key ρ st K h, hex]
    | x a =>
      cases a
      case ptr n k =>
        cases hey : ev st0 y with
        | tup => exact .inr fun ρ st K h _ => by rw [key ρ st K h, hex, hey]
        | u u =>
          cases h1 : (u.cells.length == (T t).size && Nat.blt 0 (T t).size)
          · exact .inr fun ρ st K h _ => by rw [key ρ st K h, hex, hey]; simp only [h1, cond_false]
          · cases h2 : u.cells.all X.cellOk
            · exact .inr fun ρ st K h _ => by rw [key ρ st K h, hex, hey]; simp only [h1, h2, cond_true, cond_false]
            · cases h3 : lk st0.tabs n with
              | none => exact .inr fun ρ st K h ht => by rw [key ρ st K h, hex, hey, ht]; simp only [h1, h2, h3, cond_true]
              | some xs =>
                cases h4 : splice xs u.cells k with
                | none => exact .inr fun ρ st K h ht => by rw [key ρ st K h, hex, hey, ht]; simp only [h1, h2, h3, h4, cond_true]
                | some ys => exact .inl ⟨some (n, ys), fun ρ st K h ht => by rw [key ρ st K h, hex, hey, ht]; simp only [h1, h2, h3, h4, cond_true]⟩
      all_goals exact .inr fun ρ st K h _ => by rw [key ρ st K h, hex]
def pureV (op : Op) (e : Operand → V) : Option V := match op with
  | .move x => some (e x)
  | .assign x => some (e x)
  | .extract t i => (match e t with
    | .tup us => (match us[i]? with | some u => some (.u u) | none => none)
    | _ => none)
  | _ => none
theorem pure_step (hO : OOk P O) (hl : isPure o = true) {K : St → Option ρ} {r : ρ} : step T O 3 site o st K = some r ↔ ∃ v, pureV o.op (ev st) = some v ∧ K (st.put o.dst v) = some r := by
  have key : step T O 3 site o st K = (match pureV o.op (ev st) with | some v => K (st.put o.dst v) | none => none) := by
    unfold isPure at hl
    split at hl
    · rename_i x ho
      unfold step wild nonEl pureV
      rw [ho]; rfl
    · cases hl
    · rename_i x hx ho
      unfold step wild nonEl pureV
      rw [ho]
      cases x with
      | const v => exact absurd rfl (hx v)
      | _ => rfl
    · rename_i t i ho
      unfold step wild nonEl pureV cv
      rw [ho]
      simp only
      cases ev st t with
      | u => rfl
      | tup us =>
        show (match us[i]? with | some u => K (st.out site o.dst (V.u u) none) | none => none) = (match (match us[i]? with | some u => some (V.u u) | none => none) with | some v => K (st.put o.dst v) | none => none)
        cases us[i]? <;> rfl
    · cases hl
  rw [key]
  cases pureV o.op (ev st) with
  | none => simp
  | some v => simp
theorem step_nat (hO : OOk P O) {m : Nat} (hg : Goes m o) {K : St → Option ρ} {r : ρ} : step T O m site o st K = some r ↔ ∃ st', step T O m site o st some = some st' ∧ K st' = some r := by
  rcases hg with hm | ⟨rfl, ha⟩ | ⟨rfl, ha⟩
  · rw [step_calm hO hm]
    constructor
    · rintro ⟨h1, h2, v, x, h3, h4⟩
      exact ⟨_, (step_calm hO hm).2 ⟨h1, h2, v, x, h3, rfl⟩, h4⟩
    · rintro ⟨st', h, h4⟩
      obtain ⟨h1, h2, v, x, h3, h5⟩ := (step_calm hO hm).1 h
      injection h5 with h5
      subst h5
      exact ⟨h1, h2, v, x, h3, h4⟩
  · rcases app_step (T := T) (O := O) (site := site) ha st with ⟨f, t, v, _, h⟩ | h
    · rw [h ρ st K fun _ _ => rfl]
      constructor
      · intro hk
        exact ⟨_, h St st some fun _ _ => rfl, hk⟩
      · rintro ⟨st', h1, h2⟩
        rw [h St st some fun _ _ => rfl] at h1
        injection h1 with h1
        rw [h1]; exact h2
    · rw [h ρ st K fun _ _ => rfl]
      constructor
      · intro hk; cases hk
      · rintro ⟨st', h1, _⟩
        rw [h St st some fun _ _ => rfl] at h1
        cases h1
  · rcases st_step (T := T) (O := O) (site := site) ha st with ⟨q, h⟩ | h
    · rw [h ρ st K (fun _ _ => rfl) rfl]
      constructor
      · intro hk
        exact ⟨_, h St st some (fun _ _ => rfl) rfl, hk⟩
      · rintro ⟨st', h1, h2⟩
        rw [h St st some (fun _ _ => rfl) rfl] at h1
        injection h1 with h1
        rw [h1]; exact h2
    · rw [h ρ st K (fun _ _ => rfl) rfl]
      constructor
      · intro hk; cases hk
      · rintro ⟨st', h1, _⟩
        rw [h St st some (fun _ _ => rfl) rfl] at h1
        cases h1
theorem opsRun_iff (hO : OOk P O) {rid i : Nat} {md : List Nat} {all : List Oper} {L : List (Nat × Oper)} (hg : Goes (md.getD i 0) o) {K : St → Option ρ} {r : ρ} :
    opsRun T O md rid all ((i, o) :: L) st K = some r ↔ ∃ st', OneR T O (md.getD i 0) (64 * rid + i) all o st st' ∧ opsRun T O md rid all L st' K = some r := by
  simp only [opsRun]
  rw [guarded_iff]
  constructor
  · rintro (⟨h1, h2⟩ | ⟨h1, h2⟩)
    · obtain ⟨st', h3, h4⟩ := (step_nat hO hg).1 h2
      exact ⟨st', .inl ⟨h1, h3⟩, h4⟩
    · exact ⟨_, .inr ⟨h1, rfl⟩, h2⟩
  · rintro ⟨st', (⟨h1, h3⟩ | ⟨h1, rfl⟩), h5⟩
    · exact .inl ⟨h1, (step_nat hO hg).2 ⟨st', h3, h5⟩⟩
    · exact .inr ⟨h1, h5⟩
theorem look {ops : Array Oper} {y z : Oper} (hyz : ∀ d, y.dst = some d → d ∉ z.looksAt ops) : ∀ q ∈ z.op.operands, ∀ d, y.dst = some d → q ≠ .tmp d := fun q hq d hd e => by
  subst e
  exact hyz d hd (List.mem_append_left _ (List.mem_filterMap.2 ⟨.tmp d, by simpa using hq, rfl⟩))
/-- Two that write nothing. -/
theorem swap_calm (hO : OOk P O) {x : Oper} {sx si m m' : Nat} {ops : Array Oper} {all : List Oper} (ha : all = ops.toList) {st1 st2 : St} (hm : m = 1 ∨ m = 3) (hm' : m' = 1 ∨ m' = 3) (hap : x.apart ops o = true) (hne : nm sx 0 ≠ nm si 0) (hR : R F g st a w) (fx : Fresh sx g st) (fi : Fresh si g st)
    (h1 : OneR T O m sx all x st st1) (h2 : OneR T O m' si all o st1 st2) : ∃ st1', OneR T O m' si all o st st1' ∧ OneR T O m sx all x st1' st2 := by
  obtain ⟨p1, p2, p3⟩ := Oper.apart_spec hap
  have form : ∀ {m s : Nat} {y : Oper} {st st' : St}, (m = 1 ∨ m = 3) → OneR T O m s all y st st' → ∃ v e, st' = st.out s y.dst v e ∧ ((Wants all y st true ∧ Calm T O s y st ∧ (m = 3 → nonEl y st = true) ∧ cvD T O s y.op (ev st) st.tb = some (v, e)) ∨ (Wants all y st false ∧ v = .tup [] ∧ e = none)) := fun hm h => by
    rcases h with ⟨h1, h2⟩ | ⟨h1, h2⟩
    · obtain ⟨q1, q2, v, x, q3, q4⟩ := (step_calm hO hm).1 h2
      injection q4 with q4
      exact ⟨v, x, q4.symm, .inl ⟨h1, q1, q2, q3⟩⟩
    · exact ⟨.tup [], none, h2, .inr ⟨h1, rfl, rfl⟩⟩
  have back : ∀ {m s : Nat} {y : Oper} {st : St} {v : V} {e : Option (List X)}, (m = 1 ∨ m = 3) → ((Wants all y st true ∧ Calm T O s y st ∧ (m = 3 → nonEl y st = true) ∧ cvD T O s y.op (ev st) st.tb = some (v, e)) ∨ (Wants all y st false ∧ v = .tup [] ∧ e = none)) → OneR T O m s all y st (st.out s y.dst v e) := fun hm h => by
    rcases h with ⟨h1, h2, h3, h4⟩ | ⟨h1, rfl, rfl⟩
    · exact .inl ⟨h1, (step_calm hO hm).2 ⟨h2, h3, _, _, h4, rfl⟩⟩
    · exact .inr ⟨h1, rfl⟩
  obtain ⟨v, e, rfl, q1⟩ := form hm h1
  obtain ⟨v', e', rfl, q2⟩ := form hm' h2
  have hev : ∀ q ∈ o.op.operands, ev (st.out sx x.dst v e) q = ev st q := fun q hq => out_ev (look p1 q hq)
  have hag : Agree o.op (ev (st.out sx x.dst v e)) (st.out sx x.dst v e).tb st.tb := fun q hq n k hk => by
    rw [hev q hq] at hk
    obtain ⟨b, vs, ht, _⟩ := ev_x hR hk
    refine out_tb_ne fun en => ?_
    rw [en, (fx.fr 0 (by omega)).tab] at ht
    cases ht
  have hev2 : ∀ q ∈ x.op.operands, ev st q = ev (st.out si o.dst v' e') q := fun q hq => (out_ev (look p3 q hq)).symm
  have hag2 : Agree x.op (ev st) st.tb (st.out si o.dst v' e').tb := fun q hq n k hk => by
    obtain ⟨b, vs, ht, _⟩ := ev_x hR hk
    refine (out_tb_ne fun en => ?_).symm
    rw [en, (fi.fr 0 (by omega)).tab] at ht
    cases ht
  refine ⟨_, back (s := si) (v := v') (e := e') hm' ?_, ?_⟩
  · rcases q2 with ⟨r1, r2, r3, r4⟩ | ⟨r1, r2⟩
    · exact .inl ⟨(out_wants ha p1).1 r1, wild_congr hev hag r2, fun e => by rw [← nonEl_congr hev]; exact r3 e, by rw [← cvD_congr hev hag]; exact r4⟩
    · exact .inr ⟨(out_wants ha p1).1 r1, r2⟩
  · rw [out_comm p2 hne]
    refine back hm ?_
    rcases q1 with ⟨r1, r2, r3, r4⟩ | ⟨r1, r2⟩
    · exact .inl ⟨(out_wants ha p3).2 r1, wild_congr hev2 hag2 r2, fun e => by rw [← nonEl_congr hev2]; exact r3 e, by rw [← cvD_congr hev2 hag2]; exact r4⟩
    · exact .inr ⟨(out_wants ha p3).2 r1, r2⟩
/-- One that makes a slice, as a plan; one on variables alone. -/
def AppR (T : TypeId → TI) (O : Env) (si : Nat) (all : List Oper) (o : Oper) (st : St) (f : X → X) (t : St → St) (v : V) : Prop :=
  Tame f t ∧ ((Wants all o st true ∧ ∀ st', Same o st' st → step T O 2 si o st' some = some ((t st').put o.dst v)) ∨ (Wants all o st false ∧ t = (fun st => st) ∧ v = .tup []))
theorem app_form {si : Nat} {all : List Oper} {st st' : St} (ha : isApp o = true) (h : OneR T O 2 si all o st st') : ∃ f t v, AppR T O si all o st f t v ∧ st' = (t st).put o.dst v := by
  rcases h with ⟨h1, h2⟩ | ⟨h1, h2⟩
  · rcases app_step (T := T) (O := O) (site := si) ha st with ⟨f, t, v, h3, h⟩ | h
    · refine ⟨f, t, v, ⟨h3, .inl ⟨h1, fun st' hs => h St st' some hs⟩⟩, ?_⟩
      rw [h St st some fun _ _ => rfl] at h2
      injection h2 with h2
      exact h2.symm
    · rw [h St st some fun _ _ => rfl] at h2
      cases h2
  · exact ⟨id, fun st => st, .tup [], ⟨tame_id, .inr ⟨h1, rfl, rfl⟩⟩, h2⟩
theorem app_back {si : Nat} {all : List Oper} {st st0 : St} {v : V} (h : AppR T O si all o st0 f t v) (hs : Same o st st0) (hw : ∀ b, Wants all o st0 b → Wants all o st b) : OneR T O 2 si all o st ((t st).put o.dst v) := by
  obtain ⟨_, ⟨h1, h2⟩ | ⟨h1, rfl, rfl⟩⟩ := h
  · exact .inl ⟨hw _ h1, h2 st hs⟩
  · exact .inr ⟨hw _ h1, rfl⟩
def LooseR (T : TypeId → TI) (all : List Oper) (o : Oper) (st : St) (v : V) : Prop := (Wants all o st true ∧ looseV T o.op (ev st) st.tb = some v) ∨ (Wants all o st false ∧ v = .tup [])
theorem loose_iff (hO : OOk P O) {s : Nat} {all : List Oper} {st st' : St} (hl : isLoose o = true) : OneR T O 3 s all o st st' ↔ ∃ v, LooseR T all o st v ∧ st' = st.put o.dst v := by
  constructor
  · rintro (⟨h1, h2⟩ | ⟨h1, h2⟩)
    · obtain ⟨v, h3, h4⟩ := (loose_step hO hl).1 h2
      injection h4 with h4
      exact ⟨v, .inl ⟨h1, h3⟩, h4.symm⟩
    · exact ⟨.tup [], .inr ⟨h1, rfl⟩, h2⟩
  · rintro ⟨v, (⟨h1, h2⟩ | ⟨h1, rfl⟩), rfl⟩
    · exact .inl ⟨h1, (loose_step hO hl).2 ⟨v, h2, rfl⟩⟩
    · exact .inr ⟨h1, rfl⟩
theorem looseV_congr {op : Op} {e e' : Operand → V} {tb : Nat → Option (List X)} (he : ∀ x ∈ op.operands, e x = e' x) : looseV T op e tb = looseV T op e' tb := by
  cases op <;> simp only [Op.operands] at he <;> try rfl
  all_goals
    simp only [looseV]
    rw [he _ (by simp; done)]
theorem LooseR.tame {all : List Oper} (ht : Tame f t) {v : V} (h : LooseR T all o st v) : LooseR T all o (t st) (v.mp f) := by
  rcases h with ⟨h1, h2⟩ | ⟨h1, rfl⟩
  · exact .inl ⟨(tame_wants ht).2 h1, by rw [loose_tame ht, h2]; rfl⟩
  · exact .inr ⟨(tame_wants ht).2 h1, rfl⟩
theorem LooseR.untame {all : List Oper} (ht : Tame f t) {v : V} (h : LooseR T all o (t st) v) : ∃ v0, LooseR T all o st v0 ∧ v = v0.mp f := by
  rcases h with ⟨h1, h2⟩ | ⟨h1, rfl⟩
  · rw [loose_tame ht] at h2
    obtain ⟨v0, h3, h4⟩ := Option.map_eq_some_iff.1 h2
    exact ⟨v0, .inl ⟨(tame_wants ht).1 h1, h3⟩, h4.symm⟩
  · exact ⟨.tup [], .inr ⟨(tame_wants ht).1 h1, rfl⟩, rfl⟩
theorem LooseR.put {ops : Array Oper} {all : List Oper} (ha : all = ops.toList) {dst : Option Tmp} {u v : V} (hd : ∀ d, dst = some d → d ∉ o.looksAt ops) : LooseR T all o (st.put dst u) v ↔ LooseR T all o st v := by
  have h1 : ∀ b, Wants all o (st.put dst u) b ↔ Wants all o st b := fun b => out_wants (site := 0) (ext := none) ha hd
  have h2 : looseV T o.op (ev (st.put dst u)) (st.put dst u).tb = looseV T o.op (ev st) st.tb := by
    rw [put_tb]
    exact looseV_congr fun q hq => out_ev (site := 0) (ext := none) fun d hd' e => by
      subst e
      exact hd d hd' (List.mem_append_left _ (List.mem_filterMap.2 ⟨.tmp d, by simpa using hq, rfl⟩))
  unfold LooseR
  rw [h1, h1, h2]
def PureR (all : List Oper) (o : Oper) (st : St) (v : V) : Prop := (Wants all o st true ∧ pureV o.op (ev st) = some v) ∨ (Wants all o st false ∧ v = .tup [])
theorem pure_iff (hO : OOk P O) {s : Nat} {all : List Oper} {st st' : St} (hl : isPure o = true) : OneR T O 3 s all o st st' ↔ ∃ v, PureR all o st v ∧ st' = st.put o.dst v := by
  constructor
  · rintro (⟨h1, h2⟩ | ⟨h1, h2⟩)
    · obtain ⟨v, h3, h4⟩ := (pure_step hO hl).1 h2
      injection h4 with h4
      exact ⟨v, .inl ⟨h1, h3⟩, h4.symm⟩
    · exact ⟨.tup [], .inr ⟨h1, rfl⟩, h2⟩
  · rintro ⟨v, (⟨h1, h2⟩ | ⟨h1, rfl⟩), rfl⟩
    · exact .inl ⟨h1, (pure_step hO hl).2 ⟨v, h2, rfl⟩⟩
    · exact .inr ⟨h1, rfl⟩
theorem pureV_congr {op : Op} {e e' : Operand → V} (he : ∀ x ∈ op.operands, e x = e' x) : pureV op e = pureV op e' := by
  cases op <;> simp only [Op.operands] at he <;> try rfl
  all_goals
    simp only [pureV]
    rw [he _ (by simp; done)]
theorem PureR.congr {all : List Oper} {st st' : St} {v : V} (he : ∀ x ∈ o.op.operands, ev st x = ev st' x) (hw : ∀ b, Wants all o st b → Wants all o st' b) (h : PureR all o st v) : PureR all o st' v := by
  rcases h with ⟨h1, h2⟩ | ⟨h1, rfl⟩
  · exact .inl ⟨hw _ h1, by rw [← pureV_congr he]; exact h2⟩
  · exact .inr ⟨hw _ h1, rfl⟩
/-- A store, as a plan. -/
def StR (T : TypeId → TI) (O : Env) (s : Nat) (all : List Oper) (o : Oper) (st : St) (q : Option (Nat × List X)) : Prop :=
  (Wants all o st true ∧ ∀ st', Same o st' st → st'.tabs = st.tabs → step T O 4 s o st' some = some ((updT q st').put o.dst (.tup []))) ∨ (Wants all o st false ∧ q = none)
theorem st_form {s : Nat} {all : List Oper} {st st' : St} (ha : isStore o = true) (h : OneR T O 4 s all o st st') : ∃ q, StR T O s all o st q ∧ st' = (updT q st).put o.dst (.tup []) := by
  rcases h with ⟨h1, h2⟩ | ⟨h1, h2⟩
  · rcases st_step (T := T) (O := O) (site := s) ha st with ⟨q, h⟩ | h
    · refine ⟨q, .inl ⟨h1, fun st' hs ht => h St st' some hs ht⟩, ?_⟩
      rw [h St st some (fun _ _ => rfl) rfl] at h2
      injection h2 with h2
      exact h2.symm
    · rw [h St st some (fun _ _ => rfl) rfl] at h2
      cases h2
  · exact ⟨none, .inr ⟨h1, rfl⟩, h2⟩
theorem st_back {s : Nat} {all : List Oper} {st st0 : St} {q : Option (Nat × List X)} (h : StR T O s all o st0 q) (hs : Same o st st0) (ht : st.tabs = st0.tabs) (hw : ∀ b, Wants all o st0 b → Wants all o st b) : OneR T O 4 s all o st ((updT q st).put o.dst (.tup [])) := by
  rcases h with ⟨h1, h2⟩ | ⟨h1, rfl⟩
  · exact .inl ⟨hw _ h1, h2 st hs ht⟩
  · exact .inr ⟨hw _ h1, rfl⟩
theorem put_tabs {d : Option Tmp} {v : V} : (st.put d v).tabs = st.tabs := by cases d <;> rfl
theorem one_swap (hO : OOk P O) {x : Oper} {sx si m m' : Nat} {ops : Array Oper} {all : List Oper} (ha : all = ops.toList) {st1 st2 : St} (hp : Pair m x m' o) (hap : x.apart ops o = true) (hne : nm sx 0 ≠ nm si 0) (hR : R F g st a w) (fx : Fresh sx g st) (fi : Fresh si g st)
    (h1 : OneR T O m sx all x st st1) (h2 : OneR T O m' si all o st1 st2) : ∃ st1', OneR T O m' si all o st st1' ∧ OneR T O m sx all x st1' st2 := by
  obtain ⟨p1, p2, p3⟩ := Oper.apart_spec hap
  rcases hp with ⟨q1, q2⟩ | ⟨rfl, q2, rfl, q4⟩ | ⟨rfl, q2, rfl, q4⟩ | ⟨rfl, q2, rfl, q4⟩ | ⟨rfl, q2, rfl, q4⟩
  · exact swap_calm hO ha q1 q2 hap hne hR fx fi h1 h2
  · -- the slice is made first
    obtain ⟨f, t, v, hA, rfl⟩ := app_form q2 h1
    obtain ⟨u, hL, rfl⟩ := (loose_iff hO q4).1 h2
    obtain ⟨u0, hL0, rfl⟩ := ((LooseR.put ha p1).1 hL).untame hA.1
    refine ⟨_, (loose_iff hO q4).2 ⟨u0, hL0, rfl⟩, ?_⟩
    have := app_back (st := st.put o.dst u0) hA (fun q hq => out_ev (site := 0) (ext := none) (look p3 q hq)) fun b hb => (out_wants (site := 0) (ext := none) ha p3).2 hb
    rw [hA.1.put, put_comm fun k hk e => p2 k e hk] at this
    exact this
  · obtain ⟨u, hL, rfl⟩ := (loose_iff hO q2).1 h1
    obtain ⟨f, t, v, hA, rfl⟩ := app_form q4 h2
    have hs : Same o st (st.put x.dst u) := fun q hq => (out_ev (site := 0) (ext := none) (look p1 q hq)).symm
    refine ⟨_, app_back hA hs fun b hb => (out_wants (site := 0) (ext := none) ha p1).1 hb, (loose_iff hO q2).2 ⟨u.mp f, (LooseR.put ha p3).2 (hL.tame hA.1), ?_⟩⟩
    rw [hA.1.put, put_comm fun k hk e => p2 k hk e]
  · -- the store is first
    obtain ⟨q, hA, rfl⟩ := st_form q2 h1
    obtain ⟨u, hL, rfl⟩ := (pure_iff hO q4).1 h2
    have hL' : PureR all o st u := hL.congr (fun z hz => (out_ev (site := 0) (ext := none) (look p1 z hz)).trans updT_ev) fun b hb => updT_wants.1 ((out_wants (site := 0) (ext := none) ha p1).1 hb)
    refine ⟨_, (pure_iff hO q4).2 ⟨u, hL', rfl⟩, ?_⟩
    have := st_back (st := st.put o.dst u) hA (fun z hz => out_ev (site := 0) (ext := none) (look p3 z hz)) put_tabs fun b hb => (out_wants (site := 0) (ext := none) ha p3).2 hb
    rw [updT_put, put_comm fun k hk e => p2 k e hk] at this
    exact this
  · obtain ⟨u, hL, rfl⟩ := (pure_iff hO q2).1 h1
    obtain ⟨q, hA, rfl⟩ := st_form q4 h2
    have hs : Same o st (st.put x.dst u) := fun z hz => (out_ev (site := 0) (ext := none) (look p1 z hz)).symm
    refine ⟨_, st_back hA hs put_tabs.symm fun b hb => (out_wants (site := 0) (ext := none) ha p1).1 hb, (pure_iff hO q2).2 ⟨u, ?_, ?_⟩⟩
    · exact hL.congr (fun z hz => ((out_ev (site := 0) (ext := none) (look p3 z hz)).trans updT_ev).symm) fun b hb => (out_wants (site := 0) (ext := none) ha p3).2 (updT_wants.2 hb)
    · rw [updT_put, put_comm fun k hk e => p2 k hk e]
end
end Go.BV


/-
  An evaluator of the model's code that tells values by what they hold, and the proof that what it answers is what the machine does (part 4).
-/
import Derived.Test.YtdodbbhpdoiicaaC3
set_option linter.unusedVariables false
set_option linter.unusedSimpArgs false
/-
  Regions whose order is drawn.
-/
namespace Go.BV
section
variable {P : Program} {T : TypeId → TI} {O : Env} {F : Fx} {g : Gh} {st : St} {a : Act} {w : World} {o : Oper} {site : Nat} {next : Act → World → Prop} {Q : Exit → Act → World → Prop} {ρ : Type}

theorem maskOf_bit {acc : List Nat} {i : Nat} : ∀ (l : List Edge) (s : Nat), (l.foldl (fun s e => bif Region.binds .any e then s ||| (2 ^ e.on ||| acc.getD e.on 0) else s) s).testBit i = true →
    s.testBit i = true ∨ ∃ e ∈ l, Region.binds .any e = true ∧ (i = e.on ∨ (acc.getD e.on 0).testBit i = true)
  | [], s, h => .inl h
  | e :: l, s, h => by
    simp only [List.foldl_cons] at h
    rcases maskOf_bit l _ h with h | ⟨e', he', h⟩
    · cases hb : Region.binds .any e
      · rw [hb] at h; exact .inl h
      · rw [hb] at h
        simp only [cond_true, Nat.testBit_or, Bool.or_eq_true] at h
        rcases h with h | h | h
        · exact .inl h
        · refine .inr ⟨e, List.mem_cons_self .., hb, .inl ?_⟩
          rw [Nat.testBit_two_pow] at h
          exact (of_decide_eq_true h).symm
        · exact .inr ⟨e, List.mem_cons_self .., hb, .inr h⟩
    · exact .inr ⟨e', List.mem_cons_of_mem _ he', h⟩
theorem masks_app : ∀ (l : List Oper) (acc : List Nat), ∃ m, masks l acc = acc ++ m
  | [], acc => ⟨[], by simp [masks]⟩
  | o :: l, acc => by
    obtain ⟨m, h⟩ := masks_app l (acc ++ [maskOf o.after.toList acc])
    exact ⟨maskOf o.after.toList acc :: m, by rw [masks, h]; simp⟩
theorem masks_bit : ∀ (l : List Oper) (acc : List Nat) (t : Nat) (o : Oper), l[t]? = some o → ∀ i, ((masks l acc).getD (acc.length + t) 0).testBit i = true →
    ∃ e ∈ o.after, Region.binds .any e = true ∧ (i = e.on ∨ ((masks l acc).getD e.on 0).testBit i = true)
  | [], acc, t, o, h, i, _ => by simp at h
  | o :: l, acc, 0, o', h, i, hb => by
    simp at h
    subst h
    obtain ⟨m, hm⟩ := masks_app l (acc ++ [maskOf o.after.toList acc])
    rw [masks, hm] at hb ⊢
    simp only [List.append_assoc, List.singleton_append, Nat.add_zero, List.getD_eq_getElem?_getD] at hb
    rw [List.getElem?_append_right (Nat.le_refl _)] at hb
    simp only [Nat.sub_self, List.getElem?_cons_zero, Option.getD_some] at hb
    rcases maskOf_bit _ 0 hb with h0 | ⟨e, he, h1, h2⟩
    · simp at h0
    · refine ⟨e, by simpa using he, h1, ?_⟩
      rcases h2 with h2 | h2
      · exact .inl h2
      · refine .inr ?_
        simp only [List.getD_eq_getElem?_getD] at h2 ⊢
        by_cases hlt : e.on < acc.length
        · rw [List.append_assoc, List.getElem?_append_left hlt]; exact h2
        · rw [List.getElem?_eq_none (by omega)] at h2; simp at h2
  | o :: l, acc, t + 1, o', h, i, hb => by
    have := masks_bit l (acc ++ [maskOf o.after.toList acc]) t o' (by simpa using h) i (by
      rw [masks] at hb
      simp only [List.length_append, List.length_singleton]
      rw [show acc.length + 1 + t = acc.length + (t + 1) by omega]
      exact hb)
    simpa only [masks] using this

def Closed (ops : Array Oper) (listed : Array Bool) : Prop := ∀ (i : Nat) (o : Oper), ops[i]? = some o → listed.getD i false = true → ∀ e ∈ o.after, Region.binds .any e = true → listed.getD e.on false = true
theorem before_listed {ops : Array Oper} {listed : Array Bool} (hback : ∀ (j : Nat) (o : Oper), ops[j]? = some o → ∀ e ∈ o.after, Region.binds .any e = true → e.on < j) (hc : Closed ops listed) :
    ∀ (n j : Nat), j < n → ∀ o, ops[j]? = some o → (∀ e ∈ o.after, Region.binds .any e = true → listed.getD e.on false = true) → ∀ i, ((masks ops.toList []).getD j 0).testBit i = true → listed.getD i false = true := by
  intro n
  induction n with
  | zero => intro j h; omega
  | succ n ih =>
    intro j hj o ho hall i hb
    obtain ⟨e, he, h1, h2⟩ := masks_bit ops.toList [] j o (by rw [Array.getElem?_toList]; exact ho) i (by simpa using hb)
    have hl := hall e he h1
    rcases h2 with rfl | h2
    · exact hl
    · have hlt := hback j o ho e he h1
      have hsz := (Array.getElem?_eq_some_iff.1 ho).1
      have ho' : ops[e.on]? = some ops[e.on] := Array.getElem?_eq_getElem (by omega)
      exact ih e.on (by omega) _ ho' (hc _ _ ho' hl) i h2

theorem mask_lt {ops : Array Oper} (hback : ∀ (j : Nat) (o : Oper), ops[j]? = some o → ∀ e ∈ o.after, Region.binds .any e = true → e.on < j) : ∀ (n j : Nat), j < n → ∀ o, ops[j]? = some o → ∀ i, ((masks ops.toList []).getD j 0).testBit i = true → i < j := by
  intro n
  induction n with
  | zero => intro j h; omega
  | succ n ih =>
    intro j hj o ho i hb
    obtain ⟨e, he, h1, h2⟩ := masks_bit ops.toList [] j o (by rw [Array.getElem?_toList]; exact ho) i (by simpa using hb)
    have hlt := hback j o ho e he h1
    rcases h2 with rfl | h2
    · exact hlt
    · have hsz := (Array.getElem?_eq_some_iff.1 ho).1
      have := ih e.on (by omega) _ (Array.getElem?_eq_getElem (by omega)) i h2
      omega
theorem drawOk_spec {ops : Array Oper} (h : drawOk ops = true) :
    Region.noSelect ops = true ∧ (∀ (j : Nat) (o : Oper), ops[j]? = some o → ∀ e ∈ o.after, Region.binds .any e = true → e.on < j) ∧
    ∀ (i j : Nat) (x y : Oper), ops[i]? = some x → ops[j]? = some y → i < j → ((masks ops.toList []).getD j 0).testBit i = true ∨ x.apart ops y = true := by
  unfold drawOk at h
  simp only [Bool.and_eq_true, List.all_eq_true, List.mem_range] at h
  obtain ⟨⟨h1, h2⟩, h3⟩ := h
  refine ⟨h1, fun j o ho e he hb => ?_, fun i j x y hx hy hij => ?_⟩
  · have := h3 j (Array.getElem?_eq_some_iff.1 ho).1
    rw [ho] at this
    simp only at this
    have := Array.all_eq_true_iff_forall_mem.1 this e he
    rw [hb] at this
    simpa using this
  · have := h2 j (Array.getElem?_eq_some_iff.1 hy).1 i hij
    unfold pairOk at this
    rw [hx, hy] at this
    simpa only [Bool.or_eq_true] using this
theorem allB_iff {n : Nat} {p : Nat → Bool} : allB n p = true ↔ ∀ i, i < n → p i = true := by simp [allB]
theorem allB_false {n : Nat} {p : Nat → Bool} {i : Nat} (hi : i < n) (h : p i = false) : allB n p = false := by
  cases e : allB n p with
  | false => rfl
  | true => rw [allB_iff.1 e i hi] at h; cases h
theorem loose_app {o : Oper} (h : isLoose o = true) : isApp o = false := by
  unfold isLoose at h
  unfold isApp
  cases ho : o.op <;> rw [ho] at h <;> first | rfl | (cases h; done)
theorem fixed2_comm {ms : List Nat} {i j : Nat} : fixed2 ms i j = fixed2 ms j i := by
  unfold fixed2
  rw [show (j == i) = (i == j) from Bool.beq_comm, Bool.or_assoc, Bool.or_assoc, Bool.or_comm ((ms.getD j 0).testBit i)]
theorem pair_of {ops : Array Oper} {ms : List Nat} {i j : Nat} {x y : Oper} (hx : ops[i]? = some x) (hy : ops[j]? = some y) (h : fixed2 ms i j = false) : Pair (modeAt ms ops i) x (modeAt ms ops j) y := by
  have hi := (Array.getElem?_eq_some_iff.1 hx).1
  have hj := (Array.getElem?_eq_some_iff.1 hy).1
  have h' : fixed2 ms j i = false := by rw [fixed2_comm]; exact h
  have mk : ∀ {i j : Nat} {x y : Oper}, ops[i]? = some x → ops[j]? = some y → j < ops.size → fixed2 ms i j = false → isMk ms ops i = true → isApp x = true ∧ isLoose y = true := fun hx hy hj h hm => by
    unfold isMk at hm
    rw [hx] at hm
    simp only [Bool.and_eq_true] at hm
    have := allB_iff.1 hm.2 _ hj
    rw [h, hy] at this
    exact ⟨hm.1, by simpa using this⟩
  have nm : ∀ {i j : Nat} {y : Oper}, ops[j]? = some y → isLoose y = true → isMk ms ops j = false := fun {i j y} hy hl => by
    unfold isMk
    rw [hy]
    simp only [loose_app hl, Bool.false_and]
  have nst : ∀ {j : Nat} {y : Oper}, ops[j]? = some y → isLoose y = true → isSt ms ops j = false := fun {j y} hy hl => by
    have h1 : isStore y = false := by
      unfold isLoose at hl
      unfold isStore
      cases ho : y.op <;> rw [ho] at hl <;> first | rfl | (cases hl; done)
    unfold isSt
    rw [hy]
    simp only [h1, Bool.false_and]
  have mst : ∀ {i j : Nat} {x y : Oper}, ops[i]? = some x → ops[j]? = some y → j < ops.size → fixed2 ms i j = false → isSt ms ops i = true → isStore x = true ∧ isPure y = true := fun hx hy hj h hm => by
    unfold isSt at hm
    rw [hx] at hm
    simp only [Bool.and_eq_true] at hm
    have := allB_iff.1 hm.2 _ hj
    rw [h, hy] at this
    exact ⟨hm.1, by simpa using this⟩
  have np : ∀ {j : Nat} {y : Oper}, ops[j]? = some y → isPure y = true → isMk ms ops j = false ∧ isSt ms ops j = false := fun {j y} hy hl => by
    have h1 : isApp y = false ∧ isStore y = false := by
      unfold isPure at hl
      unfold isApp isStore
      cases ho : y.op <;> rw [ho] at hl <;> first | exact ⟨rfl, rfl⟩ | (cases hl; done)
    unfold isMk isSt
    rw [hy]
    simp only [h1, Bool.false_and, and_self]
  unfold modeAt
  rw [allB_false hj h, allB_false hi h']
  simp only [cond_false]
  cases mi : isMk ms ops i with
  | true =>
    obtain ⟨h1, h2⟩ := mk hx hy hj h mi
    have mj := nm (i := i) hy h2
    rw [mj]
    simp only [cond_true, cond_false]
    have sj := nst hy h2
    rw [sj]
    simp only [cond_false]
    rw [allB_false (i := i) hi (by simp [h', mi])]
    exact .inr (.inl ⟨rfl, h1, rfl, h2⟩)
  | false =>
    simp only [cond_false]
    cases mj : isMk ms ops j with
    | true =>
      obtain ⟨h1, h2⟩ := mk hy hx hi h' mj
      have si := nst hx h2
      rw [si]
      simp only [cond_true, cond_false]
      rw [allB_false (i := j) hj (by simp [h, mj])]
      exact .inr (.inr (.inl ⟨rfl, h2, rfl, h1⟩))
    | false =>
      simp only [cond_false]
      cases si : isSt ms ops i with
      | true =>
        obtain ⟨h1, h2⟩ := mst hx hy hj h si
        rw [(np hy h2).2]
        simp only [cond_true, cond_false]
        rw [allB_false (i := i) hi (by simp [h', si])]
        exact .inr (.inr (.inr (.inl ⟨rfl, h1, rfl, h2⟩)))
      | false =>
        simp only [cond_false]
        cases sj : isSt ms ops j with
        | true =>
          obtain ⟨h1, h2⟩ := mst hy hx hi h' sj
          simp only [cond_true]
          rw [allB_false (i := j) hj (by simp [h, sj])]
          exact .inr (.inr (.inr (.inr ⟨rfl, h2, rfl, h1⟩)))
        | false =>
          simp only [cond_false]
          have : ∀ b : Bool, (bif b then 1 else 3) = 1 ∨ (bif b then 1 else 3) = 3 := fun b => by cases b <;> simp
          exact .inl ⟨this _, this _⟩
theorem modes_at {ops : Array Oper} {i : Nat} (hi : i < ops.size) : (modes ops).getD i 0 = modeAt (masks ops.toList []) ops i := by
  unfold modes
  simp [List.getD_eq_getElem?_getD, hi]

theorem one_real (hT : TsOk P T) (hO : OOk P O) {m : Nat} (hsite : site < 1040000) {all : List Oper} {st' : St} (hR : R F g st a w) (hf : Fresh site g st) (h : OneR T O m site all o st st') : ∃ g' a' w', R F g' st' a' w' ∧ Keeps site g g' st st' := by
  rcases h with ⟨_, h2⟩ | ⟨_, rfl⟩
  · obtain ⟨s, g', a', w', e, h5, h6⟩ := step_real hT hO hsite h2 hR hf
    injection e with e
    subst e
    exact ⟨g', a', w', h5, h6⟩
  · exact ⟨g, _, w, hR.put (v := .tup []) (u := undef) ⟨[], rfl, trivial⟩ o.dst, fun _ _ h => h, fun n _ h => by rw [tb_put]; exact h⟩

theorem opsMove (hT : TsOk P T) (hO : OOk P O) {rid i : Nat} {ops : Array Oper} {md : List Nat} {K : St → Option ρ} {r : ρ} {l2 : List (Nat × Oper)} :
    ∀ (l1 : List (Nat × Oper)) (st : St) (g : Gh) (a : Act) (w : World), Sites rid (l1 ++ (i, o) :: l2) → R F g st a w → (∀ p ∈ l1 ++ (i, o) :: l2, Fresh (64 * rid + p.1) g st) → (∀ p ∈ l1, Pair (md.getD p.1 0) p.2 (md.getD i 0) o ∧ p.2.apart ops o = true) →
      opsRun T O md rid ops.toList (l1 ++ (i, o) :: l2) st K = some r → opsRun T O md rid ops.toList ((i, o) :: (l1 ++ l2)) st K = some r
  | [], st, g, a, w, _, _, _, _, h => h
  | (j, x) :: l1, st, g, a, w, hS, hR, hf, hap, h => by
    have hx := hap (j, x) (List.mem_cons_self ..)
    have hj : j < 64 := hS.2.1 (j, x) (List.mem_cons_self ..)
    have hnd := hS.2.2
    simp only [List.cons_append, List.map_cons, List.nodup_cons] at hnd
    have hsite : ∀ p ∈ l1 ++ (i, o) :: l2, 64 * rid + p.1 ≠ 64 * rid + j ∧ 64 * rid + p.1 < 1024064 := fun p hp => by
      have h1 := hS.2.1 p (List.mem_cons_of_mem _ hp)
      have h2 := hS.1
      have h3 : p.1 ≠ j := fun e => hnd.1 (e ▸ List.mem_map.2 ⟨p, hp, rfl⟩)
      omega
    have hsj : 64 * rid + j < 1024064 := by have := hS.1; omega
    rw [List.cons_append] at h
    obtain ⟨st1, h1, h2⟩ := (opsRun_iff hO hx.1.goes.1).1 h
    obtain ⟨g1, a1, w1, hR1, hk1⟩ := one_real hT hO (by omega) hR (hf (j, x) (List.mem_cons_self ..)) h1
    have h3 := opsMove hT hO l1 st1 g1 a1 w1 (Sites.tail hS) hR1 (fun p hp => hk1.fresh (hsite p hp).1 (hsite p hp).2 hsj (hf p (List.mem_cons_of_mem _ hp))) (fun p hp => hap p (List.mem_cons_of_mem _ hp)) h2
    obtain ⟨st2, h4, h5⟩ := (opsRun_iff hO hx.1.goes.2).1 h3
    have hio : (i, o) ∈ l1 ++ (i, o) :: l2 := by simp
    obtain ⟨st1', h6, h7⟩ := one_swap (ops := ops) hO rfl hx.1 hx.2 (fun e => (hsite (i, o) hio).1 (by unfold nm at e; omega)) hR (hf (j, x) (List.mem_cons_self ..)) (hf (i, o) (List.mem_cons_of_mem _ hio)) h1 h4
    exact (opsRun_iff hO hx.1.goes.2).2 ⟨st1', h6, (opsRun_iff hO hx.1.goes.1).2 ⟨st2, h7, h5⟩⟩

theorem opsAny (hT : TsOk P T) (hO : OOk P O) {rid : Nat} {ops : Array Oper} {K : St → Option ρ} {r : ρ} (hd : drawOk ops = true)
    (hQ : ∀ st g a w, K st = some r → R F g st a w → Q .normal a w) : ∀ (n : Nat) (L : List (Nat × Oper)) (listed : Array Bool) (st : St) (g : Gh) (a : Act) (w : World), L.length = n → Sites rid L → (L.map (·.1)).Pairwise (· < ·) →
      (∀ p, p ∈ L ↔ ops[p.1]? = some p.2 ∧ listed.getD p.1 true = false) → listed.size = ops.size → Closed ops listed → R F g st a w → (∀ p ∈ L, Fresh (64 * rid + p.1) g st) →
      opsRun T O (modes ops) rid ops.toList L st K = some r → wpAny P .any ops Q n listed a w := by
  obtain ⟨hsel, hback, hpair⟩ := drawOk_spec hd
  intro n
  induction n with
  | zero =>
    intro L listed st g a w hlen hS hp hL hsz hc hR hf h
    have hL0 : L = [] := List.length_eq_zero_iff.1 hlen
    subst hL0
    refine ⟨?_, hQ st g a w h hR⟩
    rw [List.eq_nil_iff_forall_not_mem]
    intro j hj
    obtain ⟨h0, o, ho, _⟩ := mem_ready.1 hj
    have := (hL (j, o)).2 ⟨ho, h0⟩
    cases this
  | succ n ih =>
    intro L listed st g a w hlen hS hp hL hsz hc hR hf h
    refine ⟨fun hnil => ?_, fun i hi => ?_⟩
    · cases L with
      | nil => simp at hlen
      | cons p L =>
        have hp0 := (hL p).1 (List.mem_cons_self ..)
        have : p.1 ∈ Region.ready .any ops listed := by
          refine mem_ready.2 ⟨hp0.2, p.2, hp0.1, fun e he heb => ?_⟩
          have hlt := hback p.1 p.2 hp0.1 e he heb
          have hps := (Array.getElem?_eq_some_iff.1 hp0.1).1
          cases hle : listed.getD e.on false
          · exfalso
            have ho' : ops[e.on]? = some ops[e.on] := Array.getElem?_eq_getElem (by omega)
            have hm := (hL (e.on, ops[e.on])).2 ⟨ho', by
              simp only [Array.getD_eq_getD_getElem?] at hle ⊢
              rw [Array.getElem?_eq_getElem (by omega)] at hle ⊢
              exact hle⟩
            simp only [List.map_cons, List.pairwise_cons] at hp
            rcases List.mem_cons.1 hm with h1 | h1
            · have : e.on = p.1 := by rw [← h1]
              omega
            · have := hp.1 e.on (List.mem_map.2 ⟨_, h1, rfl⟩)
              omega
          · rfl
        rw [hnil] at this
        cases this
    · obtain ⟨h0, o, ho, hall⟩ := mem_ready.1 hi
      have him := (hL (i, o)).2 ⟨ho, h0⟩
      obtain ⟨l1, l2, rfl⟩ := List.append_of_mem him
      have hlt : ∀ p ∈ l1, p.1 < i := fun p hp' => by
        rw [List.map_append, List.map_cons, List.pairwise_append] at hp
        exact hp.2.2 p.1 (List.mem_map.2 ⟨p, hp', rfl⟩) i (List.mem_cons_self ..)
      have hbits : ∀ p ∈ l1, Pair ((modes ops).getD p.1 0) p.2 ((modes ops).getD i 0) o ∧ p.2.apart ops o = true := fun p hp' => by
        have hp1 := (hL p).1 (List.mem_append_left _ hp')
        have hps := (Array.getElem?_eq_some_iff.1 hp1.1).1
        have hnb : ((masks ops.toList []).getD i 0).testBit p.1 = false := by
          cases hb : ((masks ops.toList []).getD i 0).testBit p.1 with
          | false => rfl
          | true =>
            have := before_listed hback hc (i + 1) i (Nat.lt_succ_self _) o ho hall p.1 hb
            have h2 := hp1.2
            simp only [Array.getD_eq_getD_getElem?] at this h2
            rw [Array.getElem?_eq_getElem (by omega)] at this h2
            simp only [Option.getD_some] at this h2
            rw [this] at h2
            cases h2
        have hnb2 : ((masks ops.toList []).getD p.1 0).testBit i = false := by
          cases hb : ((masks ops.toList []).getD p.1 0).testBit i with
          | false => rfl
          | true => have := mask_lt hback (p.1 + 1) p.1 (Nat.lt_succ_self _) p.2 hp1.1 i hb; have := hlt p hp'; omega
        have hfx : fixed2 (masks ops.toList []) p.1 i = false := by
          have : (i == p.1) = false := by rw [beq_eq_false_iff_ne]; have := hlt p hp'; omega
          simp only [fixed2, this, hnb, hnb2, Bool.or_self]
        rw [modes_at hps, modes_at (Array.getElem?_eq_some_iff.1 ho).1]
        refine ⟨pair_of hp1.1 ho hfx, ?_⟩
        rcases hpair p.1 i p.2 o hp1.1 ho (hlt p hp') with hb | hb
        · rw [hnb] at hb; cases hb
        · exact hb
      have hmv : opsRun T O (modes ops) rid ops.toList ((i, o) :: (l1 ++ l2)) st K = some r := opsMove hT hO l1 st g a w hS hR hf hbits h
      have hperm : (l1 ++ (i, o) :: l2).Perm ((i, o) :: (l1 ++ l2)) := List.perm_middle
      have hi64 : i < 64 := hS.2.1 (i, o) him
      have hsi : 64 * rid + i < 1024064 := by have := hS.1; omega
      have hnd : i ∉ (l1 ++ l2).map (·.1) := by
        have := (hperm.map (·.1)).nodup_iff.1 hS.2.2
        simp only [List.map_cons, List.nodup_cons] at this
        exact this.1
      have hsub : ∀ p ∈ l1 ++ l2, p ∈ l1 ++ (i, o) :: l2 := fun p hp' => by
        rcases List.mem_append.1 hp' with q | q
        · exact List.mem_append_left _ q
        · exact List.mem_append_right _ (List.mem_cons_of_mem _ q)
      have hsite : ∀ p ∈ l1 ++ l2, 64 * rid + p.1 ≠ 64 * rid + i ∧ 64 * rid + p.1 < 1024064 := fun p hp' => by
        have h1 := hS.2.1 p (hsub p hp')
        have h2 := hS.1
        have h3 : p.1 ≠ i := fun e => hnd (e ▸ List.mem_map.2 ⟨p, hp', rfl⟩)
        omega
      have hS' : Sites rid (l1 ++ l2) := ⟨hS.1, fun p hp' => hS.2.1 p (hsub p hp'), by
        have := (hperm.map (·.1)).nodup_iff.1 hS.2.2
        simp only [List.map_cons, List.nodup_cons] at this
        exact this.2⟩
      have hp' : ((l1 ++ l2).map (·.1)).Pairwise (· < ·) := by
        refine hp.sublist (List.Sublist.map _ ?_)
        exact List.Sublist.append (List.Sublist.refl _) (List.sublist_cons_self ..)
      have hL' : ∀ p, p ∈ l1 ++ l2 ↔ ops[p.1]? = some p.2 ∧ (listed.setIfInBounds i true).getD p.1 true = false := fun p => by
        constructor
        · intro hp'
          have h1 := (hL p).1 (hsub p hp')
          have hne : i ≠ p.1 := fun e => hnd (e ▸ List.mem_map.2 ⟨p, hp', rfl⟩)
          exact ⟨h1.1, by rw [getD_set_ne true hne]; exact h1.2⟩
        · rintro ⟨h1, h2⟩
          have hne : i ≠ p.1 := fun e => by
            subst e
            have hps := (Array.getElem?_eq_some_iff.1 h1).1
            simp [hsz, hps] at h2
          rw [getD_set_ne true hne] at h2
          have := (hL p).2 ⟨h1, h2⟩
          rcases List.mem_append.1 this with q | q
          · exact List.mem_append_left _ q
          · rcases List.mem_cons.1 q with q | q
            · exact absurd (by rw [q]) hne
            · exact List.mem_append_right _ q
      have hc' : Closed ops (listed.setIfInBounds i true) := fun k ok hk hl e he hb => by
        by_cases hki : i = k
        · subst hki
          rw [ho] at hk
          injection hk with hk
          subst hk
          exact getD_set_true (hall e he hb)
        · rw [getD_set_ne false hki] at hl
          exact getD_set_true (hc k ok hk hl e he hb)
      have hlen' : (l1 ++ l2).length = n := by simp at hlen ⊢; omega
      have hsz' : (listed.setIfInBounds i true).size = ops.size := by simpa using hsz
      unfold wpOp
      rw [ho]
      simp only
      simp only [opsRun] at hmv
      rcases guarded_iff.1 hmv with ⟨hw, h⟩ | ⟨hw, h⟩
      · rw [wants_real rfl hR hw, if_pos rfl]
        refine .inl (step_sound hT hO (by omega) h hR (hf _ him) fun st' g' a' w' h1 h2 h3 => ?_)
        exact ih (l1 ++ l2) _ st' g' a' w' hlen' hS' hp' hL' hsz' hc' h2 (fun p hp'' => h3.fresh (hsite p hp'').1 (hsite p hp'').2 hsi (hf p (hsub p hp''))) h1
      · rw [wants_real rfl hR hw, if_neg (by simp)]
        exact ih (l1 ++ l2) _ _ g _ w hlen' hS' hp' hL' hsz' hc' (hR.put (v := .tup []) (u := undef) ⟨[], rfl, trivial⟩ o.dst) (fun p hp'' => (hf p (hsub p hp'')).put) h

theorem region_sound (hT : TsOk P T) (hO : OOk P O) (hm : P.follows .mixedOrders = true) {rid : Nat} {ops : Array Oper} {dr : Bool} {K : St → Option ρ} {r : ρ} (hsz : Nat.blt ops.size 64 = true) (hr : Nat.blt rid 16000 = true) (hd : dr = false ∨ drawOk ops = true)
    (hR : R F g st a w) (h : opsRun T O (bif dr then modes ops else []) rid ops.toList (numbered 0 ops.toList) (st.clr (ofRegion rid)) K = some r)
    (hQ : ∀ st g a w, K st = some r → R F g st a w → Q .normal a w) : (Code.region rid ops dr).wp P Q a w := by
  have hsz' : ops.size < 64 := by simpa using hsz
  have hr' : rid < 16000 := by simpa using hr
  have hS : Sites rid (numbered 0 ops.toList) := numbered_sites (by simp; omega) hr'
  have hmem : ∀ p ∈ numbered 0 ops.toList, ops[p.1]? = some p.2 := fun p hp => by
    have := (numbered_mem hp).2.2
    simpa [Array.getElem?_toList] using this
  have hR1 := hR.clr (ofRegion rid)
  have hf : ∀ p ∈ numbered 0 ops.toList, Fresh (64 * rid + p.1) (g.clr (ofRegion rid)) (st.clr (ofRegion rid)) := fun p hp => region_fresh (hS.2.1 p hp) hr'
  cases dr with
  | false =>
    refine wp_region ?_
    have := opsText hT hO hQ _ _ _ _ _ hS hmem hR1 hf h
    rw [numbered_fst] at this
    simpa [List.range_eq_range'] using this
  | true =>
    have hd := hd.resolve_left (by simp)
    refine wp_region_any hm ?_
    refine opsAny hT hO hd hQ ops.size (numbered 0 ops.toList) (Array.replicate ops.size false) _ _ a _ ?_ hS ?_ ?_ (by simp) ?_ (hR1.draw _) hf h
    · have := congrArg List.length (numbered_fst 0 ops.toList)
      simpa using this
    · rw [numbered_fst]; exact List.pairwise_lt_range'
    · intro p
      constructor
      · intro hp
        have := hmem p hp
        have hps := (Array.getElem?_eq_some_iff.1 this).1
        exact ⟨this, by simp [hps]⟩
      · rintro ⟨h1, _⟩
        have key : ∀ (l : List Oper) (n t : Nat) (o : Oper), l[t]? = some o → (n + t, o) ∈ numbered n l := by
          intro l
          induction l with
          | nil => intro n t o h; simp at h
          | cons x l ih =>
            intro n t o h
            cases t with
            | zero => simp at h; subst h; exact List.mem_cons_self ..
            | succ t =>
              have := ih (n + 1) t o (by simpa using h)
              rw [show n + 1 + t = n + (t + 1) by omega] at this
              exact List.mem_cons_of_mem _ this
        have := key ops.toList 0 p.1 p.2 (by rw [Array.getElem?_toList]; exact h1)
        simpa using this
    · intro i o ho hl
      have hps := (Array.getElem?_eq_some_iff.1 ho).1
      simp [hps] at hl
end
end Go.BV

/-
  Code.
-/
namespace Go.BV
section
variable {P : Program} {T : TypeId → TI} {O : Env} {F : Fx} {g : Gh} {st : St} {a : Act} {w : World} {Q : Exit → Act → World → Prop} {ρ : Type}

theorem keepT_get {l : List Nat} : ∀ {vs : List V} {n i : Nat} {v : V}, (keepT l n vs)[i]? = some v → vs[i]? = some v ∨ v = .u (.x .undef) ∧ ∃ u, vs[i]? = some u
  | [], n, i, v, h => by simp [keepT] at h
  | x :: vs, n, 0, v, h => by
    simp only [keepT, List.getElem?_cons_zero, Option.some.injEq] at h
    cases hc : l.contains n
    · rw [hc] at h; exact .inr ⟨h.symm, x, by simp⟩
    · rw [hc] at h; exact .inl (by simpa using h)
  | x :: vs, n, i + 1, v, h => by
    simp only [keepT, List.getElem?_cons_succ] at h
    simpa using keepT_get h
theorem keepT_len {l : List Nat} : ∀ {vs : List V} {n : Nat}, (keepT l n vs).length = vs.length
  | [], _ => rfl
  | _ :: vs, n => by simp [keepT, keepT_len]
theorem R.keepT {l : List Nat} (h : R F g st a w) : R F g { st with tmps := BV.keepT l 0 st.tmps, sus := [] } a w := by
  refine ⟨⟨by simpa [keepT_len] using h.s.size, fun i v hv => ?_, h.s.defers, h.s.tabs, h.s.tbs, h.s.mus, (fun n m c b hm => by cases hm), h.s.low⟩, h.w⟩
  rcases keepT_get hv with hv | ⟨rfl, u, hu⟩
  · exact h.s.tmps i v hv
  · obtain ⟨x, hx, _⟩ := h.s.tmps i u hu
    exact ⟨x, hx, trivial⟩
theorem act_same {t : Nat} {u : Value} (h : a.tmps[t]? = some u) : a.put (some t) u = a := by
  obtain ⟨hlt, h1⟩ := Array.getElem?_eq_some_iff.1 h
  have : a.tmps.setIfInBounds t u = a.tmps := by
    apply Array.ext_getElem?
    intro i
    rw [Array.getElem?_setIfInBounds]
    split
    · rename_i e; subst e; exact h.symm
    · rfl
  show ({ a with tmps := a.tmps.setIfInBounds t u } : Act) = a
  rw [this]
theorem get_some {t : Nat} {v : V} (h : st.get t = v) (hv : v ≠ .u (.x .undef)) : st.tmps[t]? = some v := by
  simp only [St.get, List.getD_eq_getElem?_getD] at h
  cases e : st.tmps[t]? with
  | none => rw [e] at h; exact absurd h.symm hv
  | some x => rw [e] at h; simp at h; rw [h]
theorem R.putT (h : R F g st a w) {t : Nat} {v : V} {u : Value} (hu : a.tmps[t]? = some u) (hv : VR g w v u) : R F g (st.put (some t) v) a w := by
  have := h.put hv (some t)
  rwa [act_same hu] at this
theorem R.putTab (h : R F g st a w) {n : Nat} {x : V} {t : Nat} (hx : ∃ u, a.tmps[t]? = some u ∧ VR g w x u) : R F g (st.put (some t) x) a w := by
  obtain ⟨u, h1, h2⟩ := hx
  exact h.putT h1 h2
/-- A slice under another name, all other things of these names dropped. -/
theorem R.rename (h : R F g st a w) {n n' : Nat} {p : Nat → Bool} {v : Value} {c : C} (hn : g.own n = some (v, c)) (hp : p n = true) (hp' : p n' = true) (hlow : isLow n = true → isLow n' = true) : R F ((g.clr p).setOwn n' (v, c) (g.fp n) (g.inn n)) (st.clr p) a w := by
  have h1 := h.clr p
  have hfr : Fr (g.clr p) n' := clr_fr hp'
  refine h1.newOwn hfr.own hfr.sus (h.w.own n v c hn) fun b hb => ?_
  have hk := Bk.own hn hb
  have := h.w.bk _ b hk
  rw [two_half] at this
  exact ⟨this.1, h.w.freed hk (by rw [two_half]; exact hp), this.2.2.imp id fun q => ⟨q.1, hlow q.2⟩⟩
theorem R.newNil (h : R F g st a w) {n' : Nat} {c : C} (hc : c.len = 0) : R F ((g.clr fun m => m == n').setOwn n' (.slice none 0 0, nilAs n' c) (fun _ => False) (fun _ => undef)) (st.clr fun m => m == n') a w := by
  have hfr : Fr (g.clr fun m => m == n') n' := clr_fr (by simp)
  refine (h.clr fun m => m == n').newOwn hfr.own hfr.sus (.inl ⟨rfl, ?_⟩) fun b hb => hb.elim
  unfold nilAs
  cases Nat.ble 16600000 (n' % high)
  · exact hc
  · exact rd_len.trans hc
theorem CR_nil {c : C} (h0 : c.len = 0) : CR w g.Z c.rd (.slice none 0 0) := by
  refine CR_iff.2 ⟨none, 0, by rw [rd_len, h0], by rw [rd_len, h0]; exact Nat.le_refl _, fun hp => ?_, fun ad had => by cases had⟩
  rw [rd_len, h0] at hp
  omega
theorem renT_ro {t : Nat} (h : R F g st a w) : ∃ g', R F g' (match st.get t with
    | .u (.x (.nil c)) => bif c.whole then st.put (some t) (.u (.x (.ro c.rd))) else st
    | .u (.x (.own n c)) => bif isLow n || !c.whole then st else st.sub n .ro
    | _ => st) a w := by
  split
  · rename_i c hc
    obtain ⟨u, hu, hx⟩ := h.s.tmps t _ (get_some hc (by simp))
    have hx' : u = .slice none 0 0 ∧ c.len = 0 := hx
    cases hw : c.whole
    · exact ⟨g, h⟩
    · obtain ⟨rfl, h0⟩ := hx'
      exact ⟨_, h.putT hu (show VR g w (.u (.x (.ro c.rd))) _ from CR_nil h0)⟩
  · rename_i n c hc
    cases hb : isLow n || !c.whole
    · simp only [Bool.or_eq_false_iff] at hb
      exact ⟨_, h.ro hb.1⟩
    · exact ⟨g, h⟩
  · exact ⟨g, h⟩
theorem renT_sound {t n' : Nat} (h : R F g st a w) : ∃ g', R F g' (renT st t n') a w := by
  unfold renT
  cases hro : n' == roName
  case true => exact renT_ro h
  simp only [cond_false]
  split
  · rename_i c hc
    obtain ⟨u, hu, hx⟩ := h.s.tmps t _ (get_some hc (by simp))
    have hx' : u = .slice none 0 0 ∧ c.len = 0 := hx
    cases hw : c.whole
    · exact ⟨g, h⟩
    · obtain ⟨rfl, h0⟩ := hx'
      exact ⟨_, (h.newNil (n' := n') h0).putT hu (show VR _ _ (.u (.x (.own n' _))) _ from setOwn_self)⟩
  · rename_i n c hc
    cases hn : n == n'
    · cases hl : isLow n && !isLow n'
      · simp only [cond_false]
        obtain ⟨u, hu, hx⟩ := h.s.tmps t _ (get_some hc (by simp))
        have hx' : g.own n = some (u, c) := hx
        have h2 := h.rename (n' := n') (p := fun m => m == n || m == n') hx' (by simp) (by simp) (fun q => by rw [q] at hl; simpa using hl)
        exact ⟨_, h2.putT hu (show VR _ _ (.u (.x (.own n' c))) u from setOwn_self)⟩
      · simp only [cond_false, cond_true]; exact ⟨g, h⟩
    · simp only [cond_true]; exact ⟨g, h⟩
  · exact ⟨g, h⟩
theorem XsR.set : ∀ {xs : List X} {vs : List Value} {i : Nat} {x : X} {v : Value}, XsR g w xs vs → vs[i]? = some v → XR g w x v → XsR g w (xs.set i x) vs
  | [], [], _, _, _, _, h, _ => by simp at h
  | _ :: _, _ :: _, 0, _, _, h, hv, hx => by simp at hv; subst hv; exact ⟨hx, h.2⟩
  | _ :: _, _ :: _, i + 1, _, _, h, hv, hx => ⟨h.1, XsR.set h.2 (by simpa using hv) hx⟩
  | [], _ :: _, _, _, _, h, _, _ => h.elim
  | _ :: _, [], _, _, _, h, _, _ => h.elim
def putC (st : St) (tb off n : Nat) (c : C) : St := { st with tabs := match lk st.tabs tb with | some ys => setl st.tabs tb (ys.set off (.own n c)) | none => st.tabs }
theorem putC_sound (h : R F g st a w) {tb off n : Nat} {c : C} {v : Value} (hg : ∀ b vs, g.tab tb = some (b, vs) → vs[off]? = some v) (ho : g.own n = some (v, c)) : ∃ g', R F g' (putC st tb off n c) a w := by
  unfold putC
  split
  · rename_i ys hy
    obtain ⟨b, vs, ht⟩ := h.s.tbs tb ys hy
    obtain ⟨cs, h1, h2⟩ := h.s.tabs tb b vs ht
    have : lk st.tabs tb = some cs := h1
    rw [hy] at this
    injection this with this
    subst this
    exact ⟨_, h.setTab ht (h2.set (hg b vs ht) ho) rfl rfl rfl rfl (fun _ _ => rfl) (h.w.tab tb b vs ht)⟩
  · exact ⟨g, h⟩
theorem renC_ro {tb off : Nat} (h : R F g st a w) : ∃ g', R F g' (match lk st.tabs tb with
    | some xs => (match xs[off]? with
      | some (.nil c) => bif c.whole then { st with tabs := setl st.tabs tb (xs.set off (.ro c.rd)) } else st
      | some (.own n c) => bif isLow n || !c.whole then st else st.sub n .ro
      | _ => st)
    | none => st) a w := by
  split
  · rename_i xs hxs
    obtain ⟨b, vs, ht⟩ := h.s.tbs tb xs hxs
    obtain ⟨cs, h2, h3⟩ := h.s.tabs tb b vs ht
    have : lk st.tabs tb = some cs := h2
    rw [hxs] at this
    injection this with this
    subst this
    split
    · rename_i c hc
      obtain ⟨v, hv, hx⟩ := h3.get hc
      cases hw : c.whole
      · exact ⟨g, h⟩
      · obtain ⟨rfl, h0⟩ : v = .slice none 0 0 ∧ c.len = 0 := hx
        exact ⟨_, h.setTab ht (h3.set hv (show XR g w (.ro c.rd) _ from CR_nil h0)) rfl rfl rfl rfl (fun _ _ => rfl) (h.w.tab tb b vs ht)⟩
    · rename_i n c hc
      cases hb : isLow n || !c.whole
      · simp only [Bool.or_eq_false_iff] at hb
        exact ⟨_, h.ro hb.1⟩
      · exact ⟨g, h⟩
    · exact ⟨g, h⟩
  · exact ⟨g, h⟩
theorem renC_sound {tb off n' : Nat} (h : R F g st a w) : ∃ g', R F g' (renC st tb off n') a w := by
  unfold renC
  cases hro : n' == roName
  case true => exact renC_ro h
  simp only [cond_false]
  split
  · rename_i xs hxs
    obtain ⟨b, vs, ht⟩ := h.s.tbs tb xs hxs
    obtain ⟨cs, h2, h3⟩ := h.s.tabs tb b vs ht
    have : lk st.tabs tb = some cs := h2
    rw [hxs] at this
    injection this with this
    subst this
    split
    · rename_i c hc
      obtain ⟨v, hv, hx⟩ := h3.get hc
      cases hw : c.whole
      · exact ⟨g, h⟩
      · obtain ⟨rfl, h0⟩ : v = .slice none 0 0 ∧ c.len = 0 := hx
        simp only [cond_true]
        exact putC_sound (h.newNil (n' := n') h0) (fun b' vs' h' => by
          have h' : (g.clr fun m => m == n').tab tb = some (b', vs') := h'
          have h' := (clr_tab.1 h').2
          rw [ht] at h'; injection h' with h'; injection h' with e1 e2; rw [← e2]; exact hv) setOwn_self
    · rename_i n c hc
      obtain ⟨v, hv, hx⟩ := h3.get hc
      cases hn : n == n'
      · cases hl : isLow n && !isLow n'
        · simp only [cond_false]
          have hx' : g.own n = some (v, c) := hx
          exact putC_sound (h.rename (n' := n') (p := fun m => m == n || m == n') hx' (by simp) (by simp) (fun q => by rw [q] at hl; simpa using hl)) (fun b' vs' h' => by
            have h' : (g.clr fun m => m == n || m == n').tab tb = some (b', vs') := h'
            have h' := (clr_tab.1 h').2
            rw [ht] at h'; injection h' with h'; injection h' with e1 e2; rw [← e2]; exact hv) setOwn_self
        · simp only [cond_false, cond_true]; exact ⟨g, h⟩
      · simp only [cond_true]; exact ⟨g, h⟩
    · exact ⟨g, h⟩
  · exact ⟨g, h⟩
theorem renTs_sound : ∀ {l : List (Nat × Nat)} {st : St} {g : Gh}, R F g st a w → ∃ g', R F g' (renTs l st) a w
  | [], _, g, h => ⟨g, h⟩
  | (t, n) :: l, st, g, h => by obtain ⟨g', h'⟩ := renT_sound (t := t) (n' := n) h; have := renTs_sound (l := l) h'; exact this
theorem renCs_sound : ∀ {l : List (Nat × Nat × Nat)} {st : St} {g : Gh}, R F g st a w → ∃ g', R F g' (renCs l st) a w
  | [], _, g, h => ⟨g, h⟩
  | (tb, off, n) :: l, st, g, h => by obtain ⟨g', h'⟩ := renC_sound (tb := tb) (off := off) (n' := n) h; have := renCs_sound (l := l) h'; exact this
/-- A slice waits no more. -/
theorem back_sound {n : Nat} (h : R F g st a w) : ∃ g', R F g' (st.back n) a w := by
  unfold St.back
  split
  case h_2 => exact ⟨g, h⟩
  rename_i m c t hs
  obtain ⟨v, hg, hb⟩ := h.s.sus n m c t (lk_mem hs)
  obtain ⟨ho, hl, vm, cm, hm, hk⟩ := h.w.sus n v c m hg
  have hnm : n ≠ m := fun e => by rw [e, hm] at ho; cases ho
  have hsn : ∀ k v c, g.sus k ≠ some (v, c, n) := fun k v c e => by
    obtain ⟨_, _, vm, cm, hm, _⟩ := h.w.sus k v c n e
    rw [ho] at hm; cases hm
  let q : Nat → Bool := fun i => (i / 2 == m) || i == 2 * n
  have q1 : ∀ k, q (2 * k) = false ↔ k ≠ m ∧ k ≠ n := fun k => by
    simp only [q, two_half, Bool.or_eq_false_iff, beq_eq_false_iff_ne]
    omega
  have q2 : ∀ k, q (2 * k + 1) = false ↔ k ≠ m := fun k => by
    simp only [q, two_half1, Bool.or_eq_false_iff, beq_eq_false_iff_ne]
    omega
  have q3 : q (2 * m) = true := by simp [q]
  have hnone : (g.hide q).own n = none := by
    cases e : (g.hide q).own n with
    | none => rfl
    | some x => have := (hide_own.1 e).1; rw [q1] at this; exact absurd rfl this.2
  have hsnone : (g.hide q).sus n = none := by
    cases e : (g.hide q).sus n with
    | none => rfl
    | some x => obtain ⟨v, c, j⟩ := x; have := (hide_sus.1 e).1.1; rw [q1] at this; exact absurd rfl this.2
  have hW : WG F ((g.hide q).setOwn n (v, c) (fun b => v.ownBlock = some b) fun _ => undef) w := by
    refine (h.w.hide q).newOwn hnone hsnone (hk.own.reB hk.plain fun b hb => hb) fun b hb => ?_
    have hfp : g.fp m b := by
      rcases hk.own with ⟨e, _⟩ | ⟨b', off, cap, l, e, _, _, _, e4, _⟩
      · rw [e] at hb; cases hb
      · rw [e] at hb
        injection hb with hb
        subst hb
        exact e4
    have hbk := h.w.bk _ b (.own hm hfp)
    refine ⟨hbk.1, h.w.freed (.own hm hfp) q3, ?_⟩
    rcases hl b hb with h1 | h1
    · exact .inl h1
    · exact hbk.2.2.imp id fun x => ⟨x.1, h1⟩
  have tr : Tr g w ((g.hide q).setOwn n (v, c) (fun b => v.ownBlock = some b) fun _ => undef) w fun x => X.clr (fun k => k == m) (X.back n x) := by
    refine tr_back n m hnm hsn (Stay.refl _ _) ⟨fun k x hp hk => ?_, fun k x hp hk => ?_, fun k b vs hp hk => ?_, fun k u d j hp hj hk => ?_⟩ (fun k b vs hp hk => ?_) ho fun u d j hu => ?_
    · simp only [Bool.or_eq_false_iff, beq_eq_false_iff_ne] at hp
      rw [setOwn_ne hp.2]; exact hide_own.2 ⟨(q1 k).2 hp, hk⟩
    · simp only [Bool.or_eq_false_iff, beq_eq_false_iff_ne] at hp
      rw [setOwn_inn_ne hp.2]; rfl
    · simp only [Bool.or_eq_false_iff, beq_eq_false_iff_ne] at hp
      exact ⟨vs, hide_tab.2 ⟨(q2 k).2 hp.1, hk⟩⟩
    · simp only [Bool.or_eq_false_iff, beq_eq_false_iff_ne] at hp hj
      exact hide_sus.2 ⟨⟨(q1 k).2 hp, (q1 j).2 hj⟩, hk⟩
    · exact ⟨vs, hide_tab.2 ⟨(q2 k).2 (by simpa using hp), hk⟩⟩
    · rw [hg] at hu
      injection hu with hu
      injection hu with e1 hu
      injection hu with e2 e3
      subst e1 e2
      exact setOwn_self
  have hmn : lk st.mus n = none := by
    cases e : lk st.mus n with
    | none => rfl
    | some d => have := h.s.mus n d e; rw [ho] at this; cases this
  have tcomp : ∀ l : List V, (l.map (V.mp (X.back n))).map (V.mp (X.clr fun k => k == m)) = l.map (V.mp fun x => X.clr (fun k => k == m) (X.back n x)) := fun l => by
    rw [List.map_map]
    exact List.map_congr_left fun x _ => mp_comp x
  refine ⟨(g.hide q).setOwn n (v, c) (fun b => v.ownBlock = some b) fun _ => undef, ?_, hW⟩
  have S := h.s.map tr (tabs' := ((st.tabs.map fun (n', cs) => (n', cs.map (X.back n))).filter fun (k, _) => !(k == m)).map fun (k, cs) => (k, cs.map (X.clr fun k => k == m))) (mus' := (bif t then insl st.mus n c else st.mus).filter fun (k, _) => !(k == m)) (sus' := (st.sus.filter fun (k, _) => !(k == n)).filter fun (k, j, _) => !(k == m || j == m)) ?_ ?_ ?_ ?_ ?_
  · rw [← tcomp] at S
    exact S
  · intro k b vs hk
    obtain ⟨p1, p2⟩ := hide_tab.1 hk
    obtain ⟨cs, c1, c2⟩ := h.s.tabs k b vs p2
    refine ⟨(cs.map (X.back n)).map (X.clr fun k => k == m), ?_, ?_⟩
    · rw [lk_filter (fun k => k == m) (List.map (X.clr fun k => k == m)), lk_map (List.map (X.back n))]
      have : (k == m) = false := by simpa using (q2 k).1 p1
      simp only [St.tb] at c1
      simp [this, c1]
    · rw [List.map_map]
      exact tr.xs c2
  · intro k cs hk
    rw [lk_filter (fun k => k == m) (List.map (X.clr fun k => k == m)), lk_map (List.map (X.back n))] at hk
    cases e : k == m
    · rw [e, cond_false] at hk
      obtain ⟨cs1, c1, _⟩ := Option.map_eq_some_iff.1 hk
      obtain ⟨cs0, c0, _⟩ := Option.map_eq_some_iff.1 c1
      obtain ⟨b, vs, hb'⟩ := h.s.tbs k cs0 c0
      exact ⟨b, vs, hide_tab.2 ⟨(q2 k).2 (by simpa using e), hb'⟩⟩
    · rw [e] at hk; cases hk
  · intro k d hk
    rw [lk_filter0 (fun k => k == m)] at hk
    cases e : k == m
    · rw [e, cond_false] at hk
      have hkm : k ≠ m := by simpa using e
      by_cases hkn : k = n
      · subst hkn
        cases t with
        | false => rw [cond_false, hmn] at hk; cases hk
        | true =>
          rw [cond_true, lk_insl_eq _ _ _ hmn] at hk
          injection hk with hk
          subst hk
          rw [← hb rfl]
          exact setOwn_self
      · have hk' : lk st.mus k = some d := by
          cases t with
          | false => exact hk
          | true => rw [cond_true, lk_insl_ne _ _ _ _ hkn] at hk; exact hk
        rw [setOwn_ne hkn]
        exact hide_own.2 ⟨(q1 k).2 ⟨hkm, hkn⟩, h.s.mus k d hk'⟩
    · rw [e] at hk; cases hk
  · intro k j d t' hk
    obtain ⟨r1, r2⟩ := List.mem_filter.1 hk
    obtain ⟨r3, r4⟩ := List.mem_filter.1 r1
    obtain ⟨u, h3, h4⟩ := h.s.sus k j d t' r3
    simp only [Bool.not_eq_true', Bool.or_eq_false_iff, beq_eq_false_iff_ne] at r2 r4
    have hjn : j ≠ n := fun e => hsn k u d (by rw [← e]; exact h3)
    exact ⟨u, hide_sus.2 ⟨⟨(q1 k).2 ⟨r2.1, r4⟩, (q1 j).2 ⟨r2.2, hjn⟩⟩, h3⟩, h4⟩
  · intro k b vs hk ht
    exact h.s.low k b vs hk (hide_tab.1 ht).2
theorem backs_sound : ∀ {l : List Nat} {st : St} {g : Gh}, R F g st a w → ∃ g', R F g' (backs l st) a w
  | [], _, g, h => ⟨g, h⟩
  | n :: l, st, g, h => by obtain ⟨g', h'⟩ := back_sound (n := n) h; exact backs_sound (l := l) h'
theorem gate_some {n : Nat} {x : Option ρ} {r : ρ} (h : gate n x = some r) : x = some r := by
  cases n with
  | zero => cases h
  | succ n => exact h
theorem nrm_sound {k : Keep} (h : R F g st a w) : ∃ g', R F g' (k.nrm st) a w := by
  obtain ⟨g0, h0⟩ := backs_sound (l := k.back) h
  have h1 := (h0.keepT (l := k.tmps)).clr fun n => ((backs k.back st).tabs.any fun (m, _) => m == n) && !k.tabs.contains n
  obtain ⟨g1, h2⟩ := renTs_sound (l := k.names) h1
  exact renCs_sound h2

theorem nrmAt_sound {kp : Nat → Option Keep} {i : Nat} (h : R F g st a w) : ∃ g', R F g' (nrmAt kp i st) a w := by
  unfold nrmAt
  cases kp i with
  | some k => exact nrm_sound h
  | none => exact ⟨g, h⟩

def Ex.go : Ex → Exit
  | .normal => .normal
  | .exit id => .exit id
  | .ret => .ret

theorem run_sound (hT : TsOk P T) (hO : OOk P O) (hm : P.follows .mixedOrders = true) {kp : Nat → Option Keep} {fuel : Nat} : ∀ (c : Code) {st : St} {g : Gh} {a : Act} {w : World} {K : Ex → St → Option ρ} {r : ρ} {Q : Exit → Act → World → Prop},
    run T O kp fuel c st K = some r → R F g st a w → (∀ e st' g' a' w', K e st' = some r → R F g' st' a' w' → Q e.go a' w') → c.wp P Q a w
  | .skip, st, g, a, w, K, r, Q, h, hR, hQ => wp_skip (hQ .normal st g a w h hR)
  | .label _, st, g, a, w, K, r, Q, h, hR, hQ => wp_label (hQ .normal st g a w h hR)
  | .exit id, st, g, a, w, K, r, Q, h, hR, hQ => wp_exit (hQ (.exit id) st g a w h hR)
  | .ret, st, g, a, w, K, r, Q, h, hR, hQ => wp_ret (hQ .ret st g a w h hR)
  | .region rid ops dr, st, g, a, w, K, r, Q, h, hR, hQ => by
    unfold run at h
    cases hb : Nat.blt ops.size 64 && Nat.blt rid 16000 && (!dr || drawOk ops)
    · rw [hb] at h; cases h
    · rw [hb] at h
      simp only [cond_true] at h
      simp only [Bool.and_eq_true, Bool.or_eq_true, Bool.not_eq_true'] at hb
      exact region_sound hT hO hm hb.1.1 hb.1.2 hb.2 hR h fun st' g' a' w' h1 h2 => hQ .normal st' g' a' w' h1 h2
  | .seq x y, st, g, a, w, K, r, Q, h, hR, hQ => by
    unfold run at h
    refine wp_seq (run_sound hT hO hm x h hR fun e st' g' a' w' h1 h2 => ?_)
    cases e with
    | normal =>
      obtain ⟨g1, hR1⟩ := nrmAt_sound (kp := kp) (i := 200000 + firstRid y) h2
      exact run_sound hT hO hm y (gate_some h1) hR1 hQ
    | exit id => exact hQ (.exit id) st' g' a' w' h1 h2
    | ret => exact hQ .ret st' g' a' w' h1 h2
  | .cond c x y, st, g, a, w, K, r, Q, h, hR, hQ => by
    unfold run at h
    split at h
    · rename_i b hb
      have hc : a.eval c = .bool b := by
        have := ev_ok hR.s c
        rw [hb] at this
        exact this
      cases b
      · exact wp_cond hc (run_sound hT hO hm y h hR hQ)
      · exact wp_cond hc (run_sound hT hO hm x h hR hQ)
    · cases h
  | .block id c, st, g, a, w, K, r, Q, h, hR, hQ => by
    unfold run at h
    refine wp_block (run_sound hT hO hm c h hR fun e st' g' a' w' h1 h2 => ?_)
    cases e with
    | normal => exact hQ .normal st' g' a' w' h1 h2
    | ret => exact hQ .ret st' g' a' w' h1 h2
    | exit id' =>
      have h1 : (bif id' == id then K .normal st' else K (.exit id') st') = some r := h1
      show Exit.inBlock id Q (.exit id') a' w'
      unfold Exit.inBlock
      by_cases he : id' = id
      · rw [show (id' == id) = true by simpa using he] at h1
        simp only [he, if_true]
        exact hQ .normal st' g' a' w' h1 h2
      · rw [show (id' == id) = false by simpa using he] at h1
        simp only [he, if_false]
        exact hQ (.exit id') st' g' a' w' h1 h2
  | .loop c, st, g, a, w, K, r, Q, h, hR, hQ => by
    unfold run at h
    refine wp_loop_rounds fuel ?_
    have key : ∀ (n : Nat) (st : St) (g : Gh) (a : Act) (w : World), iter (run T O kp fuel c) (nrmAt kp (firstRid c)) n st K = some r → R F g st a w → Code.rounds P c Q n a w := by
      intro n
      induction n with
      | zero => intro st g a w h; simp [iter] at h
      | succ n ih =>
        intro st g a w h hR
        simp only [iter] at h
        rw [rounds_succ]
        refine run_sound hT hO hm c h hR fun e st' g' a' w' h1 h2 => ?_
        cases e with
        | normal =>
          obtain ⟨g1, hR1⟩ := nrmAt_sound (kp := kp) (i := firstRid c) h2
          exact ih _ g1 a' w' h1 hR1
        | exit id => exact hQ (.exit id) st' g' a' w' h1 h2
        | ret => exact hQ .ret st' g' a' w' h1 h2
    obtain ⟨g1, hR1⟩ := nrmAt_sound (kp := kp) (i := firstRid c) hR
    exact key fuel _ g1 a w h hR1
  | .rangeFunc .., st, g, a, w, K, r, Q, h, hR, hQ => by unfold run at h; cases h
  | .goto _, st, g, a, w, K, r, Q, h, hR, hQ => by unfold run at h; cases h
  | .scope _, st, g, a, w, K, r, Q, h, hR, hQ => by unfold run at h; cases h
  | .refuse _, st, g, a, w, K, r, Q, h, hR, hQ => by unfold run at h; cases h
end
end Go.BV

/-
  Functions: what they begin with.
-/
namespace Go.BV
section
variable {P : Program} {T : TypeId → TI} {F : Fx} {g : Gh} {st : St} {a : Act} {w : World} {Z : Nat → Prop} {env : Nat → Option Nat}

theorem low_of {n : Nat} (h : n < 4096) : isLow n = true := by unfold isLow; simp only [Bool.or_eq_true]; exact .inl (by simpa using h)

/-! ### The names of what is handed in -/
/-- Cells, and the slices among them by their names. -/
def Named (g : Gh) (w : World) (Z : Nat → Prop) (env : Nat → Option Nat) (p : Nat) : Nat → List S → List Value → Prop
  | _, [], [] => True
  | j, .sl c :: ss, v :: vs => g.own (64 * p + j) = some (v, c) ∧ Named g w Z env p (j + 1) ss vs
  | j, s :: ss, v :: vs => DR w Z env s v ∧ Named g w Z env p (j + 1) ss vs
  | _, _, _ => False
def PF1 (g : Gh) (w : World) (Z : Nat → Prop) (env : Nat → Option Nat) (p : Nat) : Md → DU → Value → Prop
  | .val, d, v => ReadD w Z env d v
  | .ref, .ptr cs, v => ∃ b us, v = .pointer (some ⟨b, 0, none⟩) ∧ g.tab (refN p) = some (b, us) ∧ Named g w Z env p 0 cs us
  | .ref, _, _ => False
  | _, .x s, v => Named g w Z env p 0 [s] [v]
  | _, .agg cs, v => ∃ us, v = .agg us.toArray ∧ Named g w Z env p 0 cs us
  | _, .ptr _, _ => False
def PF (g : Gh) (w : World) (Z : Nat → Prop) (env : Nat → Option Nat) : Nat → List Md → List DU → List Value → Prop
  | _, [], [], [] => True
  | p, m :: ms, d :: ds, v :: vs => PF1 g w Z env p m d v ∧ PF g w Z env (p + 1) ms ds vs
  | _, _, _, _ => False
/-- More names, from one on and below another. -/
structure More (g g' : Gh) (lo hi : Nat) : Prop where
  z : g'.Z = g.Z
  own : ∀ n x, g.own n = some x → g'.own n = some x
  tab : ∀ n x, g.tab n = some x → g'.tab n = some x
  sus : g'.sus = g.sus
  ownN : ∀ n x, g'.own n = some x → g.own n = some x ∨ (lo ≤ n ∧ n < hi)
  tabN : ∀ n x, g'.tab n = some x → g.tab n = some x ∨ (lo ≤ n ∧ n < hi)
theorem More.refl {lo hi : Nat} : More g g lo hi := ⟨rfl, fun _ _ h => h, fun _ _ h => h, rfl, fun _ _ h => .inl h, fun _ _ h => .inl h⟩
theorem More.trans {g' g'' : Gh} {lo hi lo' hi' : Nat} (h : More g g' lo hi) (h' : More g' g'' lo' hi') (hl : lo ≤ lo') (hh : hi ≤ hi') (hm : lo' ≤ hi') (hhl : hi ≤ hi') : More g g'' lo hi' :=
  ⟨h'.z.trans h.z, fun n x hn => h'.own n x (h.own n x hn), fun n x hn => h'.tab n x (h.tab n x hn), h'.sus.trans h.sus, fun n x hn => by
    rcases h'.ownN n x hn with h1 | h1
    · rcases h.ownN n x h1 with h2 | h2
      · exact .inl h2
      · exact .inr (by omega)
    · exact .inr (by omega), fun n x hn => by
    rcases h'.tabN n x hn with h1 | h1
    · rcases h.tabN n x h1 with h2 | h2
      · exact .inl h2
      · exact .inr (by omega)
    · exact .inr (by omega)⟩
theorem Named.more {g' : Gh} {p : Nat} (ho : ∀ n x, g.own n = some x → g'.own n = some x) : ∀ {ss : List S} {vs : List Value} {j : Nat}, Named g w Z env p j ss vs → Named g' w Z env p j ss vs
  | [], [], _, _ => trivial
  | s :: ss, v :: vs, j, h => by
    cases s <;> first | exact ⟨ho _ _ h.1, Named.more ho h.2⟩ | exact ⟨h.1, Named.more ho h.2⟩
  | [], _ :: _, _, h => h.elim
  | s :: _, [], _, h => by cases s <;> exact h.elim
theorem PF1.more {g' : Gh} {p lo hi : Nat} {m : Md} {d : DU} {v : Value} (hm : More g g' lo hi) (h : PF1 g w Z env p m d v) : PF1 g' w Z env p m d v := by
  cases m with
  | val => exact h
  | ref => cases d with
    | ptr cs => obtain ⟨b, us, h1, h2, h3⟩ := h; exact ⟨b, us, h1, hm.tab _ _ h2, h3.more hm.own⟩
    | _ => exact h.elim
  | wr => cases d with
    | x s => exact Named.more hm.own h
    | agg cs => obtain ⟨us, h1, h2⟩ := h; exact ⟨us, h1, h2.more hm.own⟩
    | ptr => exact h.elim
  | ext => cases d with
    | x s => exact Named.more hm.own h
    | agg cs => obtain ⟨us, h1, h2⟩ := h; exact ⟨us, h1, h2.more hm.own⟩
    | ptr => exact h.elim

/-- Blocks that were handed in, and that nobody names yet. -/
def Room0 (F : Fx) (w : World) (g : Gh) (B : Nat → Prop) : Prop := ∀ b, B b → F.M b ∧ b < w.heap.size ∧ Free g b
theorem named_ok {p : Nat} : ∀ {ss : List S} {vs : List Value} {B B1 B2 : Nat → Prop} {j : Nat} {g : Gh}, MutSs w Z env ss vs B1 → Sep B B1 B2 → WG F g w → g.Z = Z → g.sus = (fun _ => none) → Room0 F w g B → (∀ n, 64 * p + j ≤ n → g.own n = none) → 64 * p + j + ss.length ≤ 4096 →
    ∃ g', WG F g' w ∧ More g g' (64 * p + j) (64 * p + j + ss.length) ∧ g'.tab = g.tab ∧ Named g' w Z env p j ss vs ∧ Room0 F w g' B2
  | [], [], B, B1, B2, j, g, hm, hB, hW, hz, hs, hr, hn, hl => ⟨g, hW, .refl, rfl, trivial, fun b hb => hr b ((hB.all b).2 (.inr hb))⟩
  | s :: ss, v :: vs, B, B1, B2, j, g, hm, hB, hW, hz, hs, hr, hn, hl => by
    obtain ⟨b1, b2, hb, hm1, hm2⟩ := hm
    simp only [List.length_cons] at hl ⊢
    have plain : DR w Z env s v → (∀ g', Named g' w Z env p (j + 1) ss vs → Named g' w Z env p j (s :: ss) (v :: vs)) → ∃ g', WG F g' w ∧ More g g' (64 * p + j) (64 * p + j + (ss.length + 1)) ∧ g'.tab = g.tab ∧ Named g' w Z env p j (s :: ss) (v :: vs) ∧ Room0 F w g' B2 := fun hd hnm => by
      obtain ⟨g2, q1, q2, q3, q4, q5⟩ := named_ok (p := p) (j := j + 1) (B := fun b => b2 b ∨ B2 b) hm2 ⟨fun _ => Iff.rfl, fun b x y => hB.dis b ((hb.all b).2 (.inr x)) y⟩ hW hz hs (fun b hb' => hr b ((hB.all b).2 (hb'.imp (fun x => (hb.all b).2 (.inr x)) id))) (fun n h => hn n (by omega)) (by omega)
      exact ⟨g2, q1, More.trans (lo := 64 * p + j) (hi := 64 * p + j) .refl q2 (by omega) (by omega) (by omega) (by omega) |> fun m => by rwa [show 64 * p + (j + 1) + ss.length = 64 * p + j + (ss.length + 1) by omega] at m, q3, hnm g2 q4, q5⟩
    cases s with
    | sl c =>
      obtain ⟨_, I, ho⟩ := hm1
      have inB : ∀ b, b1 b → B b := fun b x => (hB.all b).2 (.inl ((hb.all b).2 (.inl x)))
      have hno := hn (64 * p + j) (Nat.le_refl _)
      have h1 := hW.newOwn (n := 64 * p + j) hno (by rw [hs]) (by rw [hz]; exact ho) fun b hb' => ⟨(hr b (inB b hb')).2.1, (hr b (inB b hb')).2.2, .inr ⟨(hr b (inB b hb')).1, low_of (by omega)⟩⟩
      have hr1 : Room0 F w (g.setOwn (64 * p + j) (v, c) b1 I) fun b => b2 b ∨ B2 b := fun b hb' => by
        have q := hr b ((hB.all b).2 (hb'.imp (fun x => (hb.all b).2 (.inr x)) id))
        refine ⟨q.1, q.2.1, q.2.2.z, fun i hi => ?_⟩
        rcases setOwn_bk.1 hi with ⟨_, x⟩ | ⟨_, hi⟩
        · rcases hb' with y | y
          · exact hb.dis b x y
          · exact hB.dis b ((hb.all b).2 (.inl x)) y
        · exact q.2.2.bk i hi
      obtain ⟨g2, q1, q2, q3, q4, q5⟩ := named_ok (p := p) (j := j + 1) (B := fun b => b2 b ∨ B2 b) hm2 ⟨fun _ => Iff.rfl, fun b x y => hB.dis b ((hb.all b).2 (.inr x)) y⟩ h1 hz hs hr1 (fun n h => by rw [setOwn_ne (by omega)]; exact hn n (by omega)) (by omega)
      have m1 : More g (g.setOwn (64 * p + j) (v, c) b1 I) (64 * p + j) (64 * p + j + 1) := ⟨rfl, fun n x hx => by
        have e : n ≠ 64 * p + j := fun e => by rw [e, hno] at hx; cases hx
        rw [setOwn_ne e]; exact hx, fun _ _ h => h, rfl, fun n x hx => by
        rcases setOwn_own.1 hx with ⟨rfl, _⟩ | ⟨_, hx⟩
        · exact .inr (by omega)
        · exact .inl hx, fun _ _ h => .inl h⟩
      refine ⟨g2, q1, ?_, q3, ⟨q2.own _ _ setOwn_self, q4⟩, q5⟩
      have := m1.trans q2 (by omega) (by omega) (by omega) (by omega)
      rwa [show 64 * p + (j + 1) + ss.length = 64 * p + j + (ss.length + 1) by omega] at this
    | _ => exact plain hm1.1 fun g' h => ⟨hm1.1, h⟩
  | [], _ :: _, _, _, _, _, _, hm, _, _, _, _, _, _, _ => hm.elim
  | _ :: _, [], _, _, _, _, _, hm, _, _, _, _, _, _, _ => hm.elim
theorem initS_le : ∀ {md : List Md} {ds : List DU} {p : Nat} {x : List V × List (Nat × List X) × List (Nat × C)}, initS p md ds = some x → p + md.length ≤ 60
  | [], [], p, x, h => by
    simp only [initS] at h
    cases hp : Nat.ble p 60
    · rw [hp] at h; cases h
    · simpa using Nat.le_of_ble_eq_true hp
  | m :: md, d :: ds, p, x, h => by
    simp only [initS] at h
    split at h
    · split at h
      · rename_i h2
        have := initS_le h2
        simp only [List.length_cons]
        omega
      · cases h
    · cases h
  | [], _ :: _, _, _, h => by simp [initS] at h
  | _ :: _, [], _, _, h => by simp [initS] at h
theorem init_w : ∀ {md : List Md} {ds : List DU} {args : List Value} {p : Nat} {B : Nat → Prop} {g : Gh} {vs : List V} {ts : List (Nat × List X)} {us : List (Nat × C)}, ArgsR w Z env md ds args B → WG F g w → g.Z = Z → g.sus = (fun _ => none) → Room0 F w g B → (∀ n, 64 * p ≤ n → g.own n = none ∧ g.tab n = none) → initS p md ds = some (vs, ts, us) →
    ∃ g', WG F g' w ∧ More g g' (64 * p) 4096 ∧ PF g' w Z env p md ds args ∧ ∀ n x, g'.tab n = some x → g.tab n = some x ∨ ∃ i, md[i]? = some .ref ∧ n = refN (p + i)
  | [], [], [], p, B, g, vs, ts, us, ha, hW, hz, hs, hr, hn, h => ⟨g, hW, .refl, trivial, fun _ _ h => .inl h⟩
  | m :: md, d :: ds, v :: args, p, B, g, vs, ts, us, ha, hW, hz, hs, hr, hn, h => by
    have hle := initS_le h
    simp only [List.length_cons] at hle
    simp only [initS] at h
    split at h
    case h_2 => cases h
    rename_i v1 t1 u1 h1
    split at h
    case h_2 => cases h
    rename_i vs2 ts2 us2 h2
    -- one value
    have rest : ∀ {g1 : Gh} {B1 : Nat → Prop}, ArgsR w Z env md ds args B1 → WG F g1 w → More g g1 (64 * p) (64 * p + 64) → Room0 F w g1 B1 → PF1 g1 w Z env p m d v → (∀ n x, g1.tab n = some x → g.tab n = some x ∨ (m = .ref ∧ n = refN p)) → ∃ g', WG F g' w ∧ More g g' (64 * p) 4096 ∧ PF g' w Z env p (m :: md) (d :: ds) (v :: args) ∧ ∀ n x, g'.tab n = some x → g.tab n = some x ∨ ∃ i, (m :: md)[i]? = some .ref ∧ n = refN (p + i) := by
      intro g1 B1 q1 q2 q3 q4 q5 q6
      obtain ⟨g2, r1, r2, r3, r4⟩ := init_w (p := p + 1) q1 q2 (q3.z.trans hz) (q3.sus.trans hs) q4 (fun n hn' => by
        have h0 := hn n (by omega)
        constructor
        · cases e : g1.own n with
          | none => rfl
          | some x => rcases q3.ownN n x e with h | h
                      · rw [h0.1] at h; cases h
                      · omega
        · cases e : g1.tab n with
          | none => rfl
          | some x => rcases q3.tabN n x e with h | h
                      · rw [h0.2] at h; cases h
                      · omega) h2
      refine ⟨g2, r1, q3.trans r2 (by omega) (by omega) (by omega) (by omega), ⟨q5.more r2, r3⟩, fun n x hx => ?_⟩
      rcases r4 n x hx with h | ⟨i, h, e⟩
      · rcases q6 n x h with h | ⟨rfl, e⟩
        · exact .inl h
        · exact .inr ⟨0, rfl, e⟩
      · exact .inr ⟨i + 1, by simpa using h, by rw [e]; congr 1; omega⟩
    have wrx : ∀ {B1 B2 : Nat → Prop}, (m = .wr ∨ m = .ext) → Sep B B1 B2 → Fits m d → MutD w Z env d v B1 → ArgsR w Z env md ds args B2 → ∃ g', WG F g' w ∧ More g g' (64 * p) 4096 ∧ PF g' w Z env p (m :: md) (d :: ds) (v :: args) ∧ ∀ n x, g'.tab n = some x → g.tab n = some x ∨ ∃ i, (m :: md)[i]? = some .ref ∧ n = refN (p + i) := by
      intro B1 B2 hmm hB hf hmd ha'
      cases d with
      | ptr cs => rcases hmm with rfl | rfl <;> exact hf.elim
      | x s =>
        obtain ⟨g1, q1, q2, q3, q4, q5⟩ := named_ok (p := p) (j := 0) (ss := [s]) (vs := [v]) (B := B) (B1 := B1) (B2 := B2) ⟨B1, fun _ => False, ⟨fun b => by simp, fun _ _ h => h⟩, hmd, fun _ h => h⟩ hB hW hz hs hr (fun n h => (hn n (by omega)).1) (by simp; omega)
        refine rest ha' q1 (More.trans (lo := 64 * p) (hi := 64 * p) .refl q2 (by omega) (by omega) (by omega) (by omega) |> fun m => ⟨m.z, m.own, m.tab, m.sus, fun n x h => (m.ownN n x h).imp id fun h => by simp at h; omega, fun n x h => (m.tabN n x h).imp id fun h => by simp at h; omega⟩) q5 (by rcases hmm with rfl | rfl <;> exact q4) fun n x h => .inl (by rw [q3] at h; exact h)
      | agg cs =>
        obtain ⟨us, rfl, hms⟩ := hmd
        have hlen : cs.length < 60 := by
          rcases hmm with rfl | rfl <;>
          · simp only [initP] at h1
            cases hl : Nat.blt cs.length 60
            · rw [hl] at h1; cases h1
            · simpa using hl
        obtain ⟨g1, q1, q2, q3, q4, q5⟩ := named_ok (p := p) (j := 0) (B := B) (B1 := B1) (B2 := B2) hms hB hW hz hs hr (fun n h => (hn n (by omega)).1) (by omega)
        refine rest ha' q1 (More.trans (lo := 64 * p) (hi := 64 * p) .refl q2 (by omega) (by omega) (by omega) (by omega) |> fun m => ⟨m.z, m.own, m.tab, m.sus, fun n x h => (m.ownN n x h).imp id fun h => by omega, fun n x h => (m.tabN n x h).imp id fun h => by omega⟩) q5 (by rcases hmm with rfl | rfl <;> exact ⟨us, rfl, q4⟩) fun n x h => .inl (by rw [q3] at h; exact h)
    cases m with
    | val => exact rest ha.2 hW .refl hr ha.1 fun n x h => .inl h
    | wr => obtain ⟨B1, B2, hB, hf, hmd, ha'⟩ := ha; exact wrx (.inl rfl) hB hf hmd ha'
    | ext => obtain ⟨B1, B2, hB, hf, hmd, ha'⟩ := ha; exact wrx (.inr rfl) hB hf hmd ha'
    | ref =>
      obtain ⟨B1, B2, hB, hf, hmd, ha'⟩ := ha
      cases d with
      | x => exact hf.elim
      | agg => exact hf.elim
      | ptr cs =>
        have hlen : cs.length < 60 := by
          simp only [initP] at h1
          cases hl : Nat.blt cs.length 60
          · rw [hl] at h1; cases h1
          · simpa using hl
        obtain ⟨b, us, B', rfl, hrow, hms, hsep⟩ := hmd
        obtain ⟨g1, q1, q2, q3, q4, q5⟩ := named_ok (p := p) (j := 0) (B := B) (B1 := B') (B2 := fun x => x = b ∨ B2 x) hms ⟨fun x => by rw [hB.all, hsep.all]; exact ⟨fun h => h.elim (fun h => h.elim (fun h => .inr (.inl h)) .inl) fun h => .inr (.inr h), fun h => h.elim (fun h => .inl (.inr h)) fun h => h.elim (fun h => .inl (.inl h)) .inr⟩, fun x h1 h2 => h2.elim (fun h2 => hsep.dis x h2 h1) fun h2 => hB.dis x ((hsep.all x).2 (.inr h1)) h2⟩ hW hz hs hr (fun n h => (hn n (by omega)).1) (by omega)
        have hnt : g1.tab (refN p) = none := by rw [q3]; exact (hn _ (by unfold refN; omega)).2
        have hbr := q5 b (.inl rfl)
        have q6 := q1.newTab (n := refN p) hnt hrow hbr.2.2 (.inr ⟨hbr.1, low_of (by unfold refN; omega)⟩)
        refine rest (g1 := g1.setTab (refN p) (b, us)) ha' q6 ⟨q2.z, q2.own, fun n x h => ?_, q2.sus, fun n x h => (q2.ownN n x h).imp id fun h => by omega, fun n x h => ?_⟩ (fun x hx => ?_) ⟨b, us, rfl, setTab_tab.2 (.inl ⟨rfl, rfl⟩), Named.more (g := g1) (g' := g1.setTab (refN p) (b, us)) (fun _ _ h => h) q4⟩ fun n x h => ?_
        · have e : n ≠ refN p := fun e => by rw [e, (hn _ (by unfold refN; omega)).2] at h; cases h
          exact setTab_tab.2 (.inr ⟨e, q2.tab n x h⟩)
        · rcases setTab_tab.1 h with ⟨rfl, _⟩ | ⟨_, h⟩
          · exact .inr (by unfold refN; omega)
          · exact .inl (by rw [q3] at h; exact h)
        · have q := q5 x (.inr hx)
          refine ⟨q.1, q.2.1, q.2.2.z, fun i hi => ?_⟩
          rcases setTab_bk.1 hi with ⟨_, e⟩ | ⟨_, hi⟩
          · exact hB.dis x ((hsep.all x).2 (.inl e)) hx
          · exact q.2.2.bk i hi
        · rcases setTab_tab.1 h with ⟨rfl, _⟩ | ⟨_, h⟩
          · exact .inr ⟨rfl, rfl⟩
          · exact .inl (by rw [q3] at h; exact h)
  | [], _ :: _, _, _, _, _, _, _, _, ha, _, _, _, _, _, _ => ha.elim
  | [], [], _ :: _, _, _, _, _, _, _, ha, _, _, _, _, _, _ => ha.elim
  | m :: _, [], _, _, _, _, _, _, _, ha, _, _, _, _, _, _ => by cases m <;> exact ha.elim
  | m :: _, _ :: _, [], _, _, _, _, _, _, ha, _, _, _, _, _, _ => by cases m <;> exact ha.elim
end
end Go.BV

/-
  Functions: the state that they begin with.
-/
namespace Go.BV
section
variable {P : Program} {T : TypeId → TI} {F : Fx} {g : Gh} {st : St} {a : Act} {w : World} {Z : Nat → Prop} {env : Nat → Option Nat}

/-- Variables that are handed over have names. -/
def CapsOk (g : Gh) (env : Nat → Option Nat) (md : List Md) : Prop := ∀ p b, refAt md p = true → env p = some b → ∃ vs, g.tab (refN p) = some (b, vs)
theorem caps_ref {md : List Md} (hc : CapsOk g env md) : ∀ {ps bs : List Nat}, ps.all (refAt md) = true → ps.map env = bs.map some → capsR g (ps.map refN) bs
  | [], bs, _, h => by
    cases bs with
    | nil => exact ⟨[], rfl, rfl⟩
    | cons => simp at h
  | p :: ps, bs, hr, h => by
    simp only [List.all_cons, Bool.and_eq_true] at hr
    cases bs with
    | nil => simp at h
    | cons b bs =>
      simp only [List.map_cons] at h
      injection h with h1 h2
      obtain ⟨vs, h3⟩ := hc p b hr.1 h1
      obtain ⟨vss, h4, h5⟩ := caps_ref hc hr.2 h2
      exact ⟨vs :: vss, by simp [h3, h4], by simp [h5]⟩
theorem DR.toXi {md : List Md} (hz : g.Z = Z) (hc : CapsOk g env md) {s : S} {v : Value} (hf : s.fnOk md = true) (h : DR w Z env s v) : XR g w s.toX v := by
  subst hz
  cases s with
  | rp b cs => exact ⟨fun hb => by obtain ⟨a, h1, h2⟩ := h.1 hb; exact ⟨a, h1, h2⟩, h.2⟩
  | fnv f first ps =>
    obtain ⟨bs, fvs, h1, h2, h3⟩ := h
    exact ⟨bs, fvs, caps_ref hc hf h1, h2, h3⟩
  | _ => exact h
theorem Named.xs {md : List Md} (hz : g.Z = Z) (hc : CapsOk g env md) {p : Nat} : ∀ {ss : List S} {vs : List Value} {j : Nat}, ss.all (S.fnOk md) = true → Named g w Z env p j ss vs → XsR g w (nameM p j ss) vs
  | [], [], _, _, _ => trivial
  | s :: ss, v :: vs, j, hf, h => by
    simp only [List.all_cons, Bool.and_eq_true] at hf
    cases s <;> first | exact ⟨h.1, Named.xs hz hc hf.2 h.2⟩ | exact ⟨DR.toXi hz hc hf.1 h.1, Named.xs hz hc hf.2 h.2⟩
  | [], _ :: _, _, _, h => h.elim
  | s :: _, [], _, _, h => by cases s <;> exact h.elim
theorem DsR.xs {md : List Md} (hz : g.Z = Z) (hc : CapsOk g env md) : ∀ {ss : List S} {vs : List Value}, ss.all (S.fnOk md) = true → DsR w Z env ss vs → XsR g w (ss.map S.toX) vs
  | [], [], _, _ => trivial
  | s :: ss, v :: vs, hf, h => by
    simp only [List.all_cons, Bool.and_eq_true] at hf
    exact ⟨DR.toXi hz hc hf.1 h.1, DsR.xs hz hc hf.2 h.2⟩
  | [], _ :: _, _, h => h.elim
  | _ :: _, [], _, h => h.elim
theorem lk_app {α : Type} : ∀ (l1 l2 : List (Nat × α)) (n : Nat), lk (l1 ++ l2) n = match lk l1 n with | some x => some x | none => lk l2 n
  | [], _, _ => rfl
  | (m, x) :: l1, l2, n => by
    simp only [List.cons_append, lk]
    cases m == n
    · exact lk_app l1 l2 n
    · rfl
theorem lk_musM {p n : Nat} {c : C} : ∀ {ss : List S} {vs : List Value} {j : Nat}, Named g w Z env p j ss vs → lk (musM p j ss) n = some c → ∃ i v, n = 64 * p + j + i ∧ i < ss.length ∧ vs[i]? = some v ∧ g.own n = some (v, c) ∧ ∃ c', ss[i]? = some (.sl c')
  | [], [], j, _, h => by simp [musM, lk] at h
  | s :: ss, v :: vs, j, hn, h => by
    have up : Named g w Z env p (j + 1) ss vs → lk (musM p (j + 1) ss) n = some c → ∃ i u, n = 64 * p + j + i ∧ i < (s :: ss).length ∧ (v :: vs)[i]? = some u ∧ g.own n = some (u, c) ∧ ∃ c', (s :: ss)[i]? = some (.sl c') := fun hn h => by
      obtain ⟨i, u, h1, h2, h3, h4, h5⟩ := lk_musM hn h
      exact ⟨i + 1, u, by omega, by simp [h2], by simpa using h3, h4, by simpa using h5⟩
    cases s with
    | sl c0 =>
      simp only [musM, lk] at h
      cases e : (64 * p + j == n)
      · rw [e] at h; exact up hn.2 h
      · rw [e] at h
        injection h with h
        have e : 64 * p + j = n := by simpa using e
        subst h e
        exact ⟨0, v, rfl, by simp, rfl, hn.1, _, rfl⟩
    | _ => exact up hn.2 h
  | [], _ :: _, _, hn, _ => hn.elim
  | s :: _, [], _, hn, _ => by cases s <;> exact hn.elim

def mvOf (args : List Value) (n : Nat) : Value := ((args.getD (n / 64) undef).cells.toList).getD (n % 64) undef
def tvOf (args : List Value) (n : Nat) : Option Nat := envOf args (n / 64)
theorem Named.len {p : Nat} : ∀ {ss : List S} {vs : List Value} {j : Nat}, Named g w Z env p j ss vs → vs.length = ss.length
  | [], [], _, _ => rfl
  | s :: ss, v :: vs, j, h => by
    have : Named g w Z env p (j + 1) ss vs := by cases s <;> exact h.2
    simp [this.len]
  | [], _ :: _, _, h => h.elim
  | s :: _, [], _, h => by cases s <;> exact h.elim

/-- What the first state tells. -/
structure Init (g : Gh) (w : World) (args0 : List Value) (p : Nat) (md : List Md) (args : List Value) (vs : List V) (ts : List (Nat × List X)) (us : List (Nat × C)) : Prop where
  len : vs.length = args.length
  val : ∀ (i : Nat) x v, vs[i]? = some x → args[i]? = some v → VR g w x v
  tab : ∀ n cs, lk ts n = some cs → ∃ i, n = refN (p + i) ∧ ∃ b us', g.tab n = some (b, us') ∧ XsR g w cs us' ∧ envOf args0 (n / 64) = some b
  ref : ∀ i, md[i]? = some .ref → ∃ cs, lk ts (refN (p + i)) = some cs
  mus : ∀ n c, lk us n = some c → g.own n = some (mvOf args0 n, c)
theorem init_s {md0 : List Md} (hW : WG F g w) (hz : g.Z = Z) (hc : CapsOk g env md0) {args0 : List Value} : ∀ {md : List Md} {ds : List DU} {args : List Value} {p : Nat} {vs : List V} {ts : List (Nat × List X)} {us : List (Nat × C)}, PF g w Z env p md ds args → ds.all (DU.fnOk md0) = true → initS p md ds = some (vs, ts, us) → args0.drop p = args → Init g w args0 p md args vs ts us
  | [], [], [], p, vs, ts, us, hp, hf, h, hd => by
    simp only [initS] at h
    cases hp : Nat.ble p 60
    · rw [hp] at h; cases h
    · rw [hp] at h
      injection h with h
      injection h with h1 h2
      injection h2 with h2 h3
      subst h1 h2 h3
      exact ⟨rfl, fun i x v h => by simp at h, fun n cs h => by simp [lk] at h, fun i h => by simp at h, fun n c h => by simp [lk] at h⟩
  | m :: md, d :: ds, v :: args, p, vs, ts, us, hp, hf, h, hd => by
    have hle := initS_le h
    simp only [List.length_cons] at hle
    simp only [initS] at h
    split at h
    case h_2 => cases h
    rename_i v1 t1 u1 h1
    split at h
    case h_2 => cases h
    rename_i vs2 ts2 us2 h2
    injection h with h
    injection h with e1 e2
    injection e2 with e2 e3
    subst e1 e2 e3
    simp only [List.all_cons, Bool.and_eq_true] at hf
    have hv0 : args0[p]? = some v := by
      have : (args0.drop p)[0]? = some v := by rw [hd]; rfl
      simpa using this
    have hd' : args0.drop (p + 1) = args := by rw [← List.drop_drop, hd]; rfl
    obtain ⟨hp1, hp2⟩ := hp
    have ih := init_s hW hz hc hp2 hf.2 h2 hd'
    have hmv : ∀ i u, v.cells.toList[i]? = some u → i < 64 → mvOf args0 (64 * p + 0 + i) = u := fun i u hi hlt => by
      unfold mvOf
      rw [show (64 * p + 0 + i) / 64 = p by omega, show (64 * p + 0 + i) % 64 = i by omega]
      rw [show args0.getD p undef = v by rw [List.getD_eq_getElem?_getD, hv0]; rfl, List.getD_eq_getElem?_getD, hi]
      rfl
    -- what the first value gives
    have fin : VR g w v1 v → (∀ n cs, lk t1 n = some cs → n = refN p ∧ ∃ b us', g.tab n = some (b, us') ∧ XsR g w cs us' ∧ envOf args0 (n / 64) = some b) → (m = .ref → ∃ cs, lk t1 (refN p) = some cs) → (∀ n c, lk u1 n = some c → g.own n = some (mvOf args0 n, c)) → Init g w args0 p (m :: md) (v :: args) (v1 :: vs2) (t1 ++ ts2) (u1 ++ us2) := by
      intro q1 q2 q3 q4
      refine ⟨by simp [ih.len], fun i x u hx hu => ?_, fun n cs hn => ?_, fun i hi => ?_, fun n c hn => ?_⟩
      · cases i with
        | zero => simp at hx hu; subst hx hu; exact q1
        | succ i => exact ih.val i x u (by simpa using hx) (by simpa using hu)
      · rw [lk_app] at hn
        split at hn
        · rename_i cs' hcs
          injection hn with hn
          subst hn
          obtain ⟨e, r⟩ := q2 n _ hcs
          exact ⟨0, e, r⟩
        · obtain ⟨i, e, r⟩ := ih.tab n cs hn
          exact ⟨i + 1, by rw [e]; congr 1; omega, r⟩
      · rw [lk_app]
        split
        · exact ⟨_, rfl⟩
        · rename_i hno
          cases i with
          | zero =>
            simp at hi
            obtain ⟨cs, hcs⟩ := q3 hi
            rw [show refN (p + 0) = refN p from rfl, hcs] at hno; cases hno
          | succ i =>
            obtain ⟨cs, hcs⟩ := ih.ref i (by simpa using hi)
            exact ⟨cs, by rw [← hcs]; congr 2; omega⟩
      · rw [lk_app] at hn
        split at hn
        · rename_i c' hcs
          injection hn with hn
          subst hn
          exact q4 n _ hcs
        · exact ih.mus n c hn
    have wrx : (m = .wr ∨ m = .ext) → Init g w args0 p (m :: md) (v :: args) (v1 :: vs2) (t1 ++ ts2) (u1 ++ us2) := by
      intro hmm
      cases d with
      | ptr => rcases hmm with rfl | rfl <;> exact hp1.elim
      | x s =>
        have hp1 : Named g w Z env p 0 [s] [v] := by rcases hmm with rfl | rfl <;> exact hp1
        have e : some ((V.u (.x ((nameM p 0 [s]).headD .undef))), ([] : List (Nat × List X)), musM p 0 [s]) = some (v1, t1, u1) := by rcases hmm with rfl | rfl <;> exact h1
        injection e with e
        injection e with e1 e2
        injection e2 with e2 e3
        subst e1 e2 e3
        have hx : XsR g w (nameM p 0 [s]) [v] := hp1.xs hz hc (by simpa [DU.fnOk] using hf.1)
        refine fin ?_ (fun n cs h => by simp [lk] at h) (fun e => by subst e; rcases hmm with h | h <;> cases h) fun n c hn => ?_
        · cases s <;> exact hx.1
        · obtain ⟨i, u, r1, r2, r3, r4, c', r5⟩ := lk_musM hp1 hn
          have hi0 : i = 0 := by simp at r2; omega
          subst hi0
          simp at r3
          subst r3
          rw [r4, r1, hmv 0 v (by
            have := (hW.own n v c r4).one.2
            rw [this]; rfl) (by omega)]
      | agg cs =>
        have hpx : ∃ us, v = .agg us.toArray ∧ Named g w Z env p 0 cs us := by rcases hmm with rfl | rfl <;> exact hp1
        obtain ⟨us, rfl, hpx⟩ := hpx
        have e : (bif Nat.blt cs.length 60 then some ((V.u (.agg (nameM p 0 cs))), ([] : List (Nat × List X)), musM p 0 cs) else none) = some (v1, t1, u1) := by rcases hmm with rfl | rfl <;> exact h1
        cases hl : Nat.blt cs.length 60
        · rw [hl] at e; cases e
        rw [hl] at e
        injection e with e
        injection e with e1 e2
        injection e2 with e2 e3
        subst e1 e2 e3
        have hx := hpx.xs hz hc (md := md0) hf.1
        refine fin ⟨us, rfl, hx⟩ (fun n cs h => by simp [lk] at h) (fun e => by subst e; rcases hmm with h | h <;> cases h) fun n c hn => ?_
        obtain ⟨i, u, r1, r2, r3, r4, _⟩ := lk_musM hpx hn
        have hl : cs.length < 60 := by simpa using hl
        rw [r4, r1, hmv i u (by simpa [Value.cells] using r3) (by omega)]
    cases m with
    | val =>
      have hp1 : ReadD w Z env d v := hp1
      cases d with
      | ptr => exact hp1.elim
      | x s =>
        simp only [initP] at h1
        injection h1 with h1
        injection h1 with e1 e2
        injection e2 with e2 e3
        subst e1 e2 e3
        exact fin (DR.toXi hz hc hf.1 hp1) (fun n cs h => by simp [lk] at h) (fun e => by cases e) fun n c h => by simp [lk] at h
      | agg cs =>
        simp only [initP] at h1
        injection h1 with h1
        injection h1 with e1 e2
        injection e2 with e2 e3
        subst e1 e2 e3
        obtain ⟨us, rfl, hpx⟩ := hp1
        exact fin ⟨us, rfl, DsR.xs hz hc hf.1 hpx⟩ (fun n cs h => by simp [lk] at h) (fun e => by cases e) fun n c h => by simp [lk] at h
    | wr => exact wrx (.inl rfl)
    | ext => exact wrx (.inr rfl)
    | ref =>
      cases d with
      | x => exact hp1.elim
      | agg => exact hp1.elim
      | ptr cs =>
        obtain ⟨b, us, rfl, q1, q2⟩ := hp1
        simp only [initP] at h1
        cases hl : Nat.blt cs.length 60
        · rw [hl] at h1; cases h1
        rw [hl] at h1
        injection h1 with h1
        injection h1 with e1 e2
        injection e2 with e2 e3
        subst e1 e2 e3
        refine fin ⟨b, us, q1, rfl⟩ (fun n cs' h => ?_) (fun _ => ⟨nameM p 0 cs, by simp [lk]⟩) fun n c h => by simp [lk] at h
        simp only [lk] at h
        cases e : refN p == n
        · rw [e] at h; cases h
        · rw [e] at h
          injection h with h
          have e : refN p = n := by simpa using e
          subst h e
          refine ⟨rfl, b, us, q1, q2.xs hz hc (md := md0) hf.1, ?_⟩
          unfold envOf
          rw [show refN p / 64 = p by unfold refN; omega, hv0]
          rfl
  | [], _ :: _, _, _, _, _, _, hp, _, _, _ => hp.elim
  | [], [], _ :: _, _, _, _, _, hp, _, _, _ => hp.elim
  | _ :: _, [], _, _, _, _, _, hp, _, _, _ => hp.elim
  | _ :: _, _ :: _, [], _, _, _, _, hp, _, _, _ => hp.elim
end
end Go.BV

/-
  Functions: what they leave.
-/
namespace Go.BV
section
variable {P : Program} {T : TypeId → TI} {O : Env} {F : Fx} {g : Gh} {st : St} {a : Act} {w : World}

/-- The blocks of some names. -/
def BS (g : Gh) (l : List Nat) (b : Nat) : Prop := ∃ i ∈ l, Bk g i b
theorem BS_nil : Nob (BS g []) := fun b ⟨i, hi, _⟩ => by cases hi
theorem BS_sep (hw : WG F g w) {l1 l2 : List Nat} (h : (l1 ++ l2).Nodup) : Sep (BS g (l1 ++ l2)) (BS g l1) (BS g l2) := by
  rw [List.nodup_append] at h
  refine ⟨fun b => ⟨fun ⟨i, hi, hb⟩ => ?_, fun q => ?_⟩, fun b ⟨i, hi, hb⟩ ⟨j, hj, hb'⟩ => h.2.2 i hi j hj (hw.bkD i j b hb hb')⟩
  · rcases List.mem_append.1 hi with hi | hi
    · exact .inl ⟨i, hi, hb⟩
    · exact .inr ⟨i, hi, hb⟩
  · rcases q with ⟨i, hi, hb⟩ | ⟨i, hi, hb⟩
    · exact ⟨i, List.mem_append_left _ hi, hb⟩
    · exact ⟨i, List.mem_append_right _ hi, hb⟩
theorem BS_none {l : List Nat} (h : l = []) : Nob (BS g l) := by subst h; exact BS_nil
section out
variable {Z' : Nat → Prop} {env : Nat → Option Nat}
theorem DR.mono {w' : World} {Z Z' : Nat → Prop} (h : Stay Z w Z' w') {s : S} {v : Value} (k : DR w Z env s v) : DR w' Z' env s v := by
  cases s with
  | sl c => exact CR.mono h k
  | rs c => exact CR.mono h k
  | rp b cs => exact ⟨fun hb => by obtain ⟨a, h1, h2⟩ := k.1 hb; exact ⟨a, h1.mono h, h2⟩, k.2⟩
  | fnv f first ps => obtain ⟨bs, fvs, h1, h2, h3⟩ := k; exact ⟨bs, fvs, h1, h2.mono h, h3⟩
  | _ => exact k
/-- A cell that is given away. -/
theorem outS_ok (hR : R F g st a w) (hz : ∀ b, g.Z b → Z' b) {low ro : Bool} {df : List S0} (he : low = true → ∀ n p, posRef n = some p → ∀ b vs, g.tab n = some (b, vs) → env p = some b) {x : X} {s : S} {al rl : List Nat} {v : Value} (h : outS st.tb low ro df x = some (s, al, rl)) (hr : ∀ i ∈ rl, ∀ b, Bk g i b → Z' b) (hx : XR g w x v) :
    MutS w Z' env s v (BS g al) ∧ (low = false → ∀ i ∈ al ++ rl, isLow (i / 2) = false) ∧ (low = true → ro = false → rl = []) := by
  have hst : Stay g.Z w Z' w := fun b hb => ⟨hz b hb, rfl⟩
  have inj : ∀ {s' : S} {a' b' : List Nat}, (some (s', a', b') : Option (S × List Nat × List Nat)) = some (s, al, rl) → s' = s ∧ a' = al ∧ b' = rl := fun h => by
    injection h with h
    injection h with h1 h
    injection h with h2 h3
    exact ⟨h1, h2, h3⟩
  cases x with
  | own n c =>
    simp only [outS] at h
    have hx : g.own n = some (v, c) := hx
    cases ro with
    | true =>
      simp only [cond_true] at h
      cases hb : (c.whole && !isLow n)
      · rw [hb] at h; cases h
      · rw [hb] at h
        obtain ⟨rfl, rfl, rfl⟩ := inj h
        simp only [Bool.and_eq_true, Bool.not_eq_true'] at hb
        exact ⟨⟨CR_rd.2 ((hR.w.own n v c hx).reads hb.1 hz fun b hb' => hr (2 * n) (by simp) b (.own hx hb')), BS_nil⟩, fun _ i hi => by simp at hi; subst hi; rw [two_half]; exact hb.2, fun _ h => by cases h⟩
    | false =>
      simp only [cond_false] at h
      cases hb : (c.whole && (low || !isLow n))
      · rw [hb] at h; cases h
      · rw [hb] at h
        obtain ⟨rfl, rfl, rfl⟩ := inj h
        simp only [Bool.and_eq_true] at hb
        exact ⟨⟨hb.1, _, (hR.w.own n v c hx).mono hst (fun b hb' => ⟨2 * n, by simp, .own hx hb'⟩) fun _ _ => rfl⟩, fun hl i hi => by simp at hi; subst hi; rw [two_half]; have := hb.2; rw [hl] at this; simpa using this, fun _ _ => rfl⟩
  | bw n c i =>
    simp only [outS] at h
    obtain ⟨v', xs, ys, h1, h2, rfl, rfl⟩ := hx
    cases hl : isLow n
    · rw [hl] at h
      simp only [cond_false] at h
      obtain ⟨b0, off, cap, l, _, _, _, _, _, h5⟩ := row_at hR h1 h2
      have hrow := h5.own i ys h2 fun h => h
      cases ro with
      | true =>
        obtain ⟨rfl, rfl, rfl⟩ := inj h
        exact ⟨⟨hrow.reads fun b hb q => hr (2 * n) (by simp) b (.own h1 q.1), BS_nil⟩, fun _ i hi => by simp at hi; subst hi; rw [two_half]; exact hl, fun _ h => by cases h⟩
      | false =>
        obtain ⟨rfl, rfl, rfl⟩ := inj h
        refine ⟨⟨rfl, fun _ => undef, OW1.toOW (hrow.mono (fun b _ q => ⟨2 * n, by simp, .own h1 q.1⟩) fun _ _ _ => rfl)⟩, fun _ i hi => by simp at hi; subst hi; rw [two_half]; exact hl, fun _ _ => rfl⟩
    · rw [hl] at h; cases h
  | nil c =>
    simp only [outS] at h
    cases hb : c.whole
    · rw [hb] at h; cases h
    · rw [hb] at h
      simp only [cond_true] at h
      obtain ⟨hx1, hx2⟩ := hx
      cases ro with
      | true =>
        obtain ⟨rfl, rfl, rfl⟩ := inj h
        exact ⟨⟨CR_rd.2 (CR_iff.2 ⟨none, 0, by rw [hx2]; exact hx1, by rw [hx2]; exact Nat.le_refl _, fun h => by rw [hx2] at h; omega, fun ad h => by cases h⟩), BS_nil⟩, (fun _ i hi => by cases hi), fun _ _ => rfl⟩
      | false =>
        obtain ⟨rfl, rfl, rfl⟩ := inj h
        exact ⟨⟨hb, fun _ => undef, .inl ⟨hx1, hx2⟩⟩, (fun _ i hi => by cases hi), fun _ _ => rfl⟩
  | int k n => obtain ⟨rfl, rfl, rfl⟩ := inj h; exact ⟨⟨hx, BS_nil⟩, (fun _ i hi => by cases hi), fun _ _ => rfl⟩
  | bool b => obtain ⟨rfl, rfl, rfl⟩ := inj h; exact ⟨⟨hx, BS_nil⟩, (fun _ i hi => by cases hi), fun _ _ => rfl⟩
  | str s => obtain ⟨rfl, rfl, rfl⟩ := inj h; exact ⟨⟨hx, BS_nil⟩, (fun _ i hi => by cases hi), fun _ _ => rfl⟩
  | ro c => obtain ⟨rfl, rfl, rfl⟩ := inj h; exact ⟨⟨CR.mono hst hx, BS_nil⟩, (fun _ i hi => by cases hi), fun _ _ => rfl⟩
  | rop b cs o =>
    simp only [outS] at h
    cases ho : o == 0
    · rw [ho] at h; cases h
    · rw [ho] at h
      obtain ⟨rfl, rfl, rfl⟩ := inj h
      obtain rfl : o = 0 := by simpa using ho
      exact ⟨⟨⟨fun hb => by obtain ⟨a, h1, h2⟩ := hx.1 hb; exact ⟨a, h1.mono hst, h2⟩, hx.2⟩, BS_nil⟩, (fun _ i hi => by cases hi), fun _ _ => rfl⟩
  | nilp =>
    simp only [outS] at h
    obtain ⟨rfl, rfl, rfl⟩ := inj h
    have hx : v = .pointer none := hx
    refine ⟨?_, (fun _ i hi => by cases hi), fun _ _ => rfl⟩
    cases low
    · exact ⟨⟨fun h => (by cases h), fun _ => hx⟩, BS_nil⟩
    · exact ⟨hx, BS_nil⟩
  | ptr n o =>
    simp only [outS] at h
    cases hb : (o == 0 && !low && !isLow n)
    · rw [hb] at h; cases h
    · rw [hb] at h
      simp only [cond_true] at h
      simp only [Bool.and_eq_true, Bool.not_eq_true'] at hb
      split at h
      case h_2 => cases h
      rename_i xs hxs
      cases hl : (toks xs).any isLow
      case true => rw [hl] at h; cases h
      rw [hl] at h
      simp only [cond_false] at h
      split at h
      case h_2 => cases h
      rename_i ss hss
      obtain ⟨rfl, rfl, rfl⟩ := inj h
      obtain rfl : o = 0 := by simpa using hb.1.1
      obtain ⟨b, vs, hg, rfl⟩ := hx
      obtain ⟨ys, h2, h3⟩ := hR.s.tabs n b vs hg
      rw [hxs] at h2
      injection h2 with h2
      subst h2
      refine ⟨⟨⟨fun _ => ⟨⟨b, 0, none⟩, row_ptr (hR.w.tab n b vs hg) (hr (2 * n + 1) (by simp) b (.tab hg)) (toS0s_read hR.w hz (fun m hm x b' hx hb' => hr (2 * m) (List.mem_cons_of_mem _ (List.mem_map.2 ⟨m, hm, rfl⟩)) b' (.own hx hb')) h3 hss), rfl⟩, fun h => by cases h⟩, BS_nil⟩, fun _ i hi => ?_, fun h => by rw [hb.1.2] at h; cases h⟩
      simp only [List.nil_append, List.mem_cons, List.mem_map] at hi
      rcases hi with rfl | ⟨m, hm, rfl⟩
      · rw [two_half1]; exact hb.2
      · rw [two_half]; simpa using List.any_eq_false.1 hl m hm
  | fn f first caps =>
    simp only [outS] at h
    cases low with
    | false => cases h
    | true =>
      simp only [cond_true] at h
      split at h
      case h_2 => cases h
      rename_i ps hps
      obtain ⟨rfl, rfl, rfl⟩ := inj h
      obtain ⟨bs, fvs, h1, h2, h3⟩ := hx
      exact ⟨⟨⟨bs, fvs, poss_env (he rfl) hps h1, h2.mono hst, h3⟩, BS_nil⟩, (fun _ i hi => by cases hi), fun _ _ => rfl⟩
  | _ => cases h
theorem outSs_ok (hR : R F g st a w) (hz : ∀ b, g.Z b → Z' b) {low ro : Bool} {df : List S0} (he : low = true → ∀ n p, posRef n = some p → ∀ b vs, g.tab n = some (b, vs) → env p = some b) : ∀ {xs : List X} {ss : List S} {al rl : List Nat} {vs : List Value}, outSs st.tb low ro df xs = some (ss, al, rl) → al.Nodup → (∀ i ∈ rl, ∀ b, Bk g i b → Z' b) → XsR g w xs vs →
    MutSs w Z' env ss vs (BS g al) ∧ (low = false → ∀ i ∈ al ++ rl, isLow (i / 2) = false) ∧ (low = true → ro = false → rl = [])
  | [], ss, al, rl, [], h, _, _, _ => by
    simp only [outSs] at h
    injection h with h
    injection h with h1 h
    injection h with h2 h3
    subst h1 h2 h3
    exact ⟨BS_nil, (fun _ i hi => by cases hi), fun _ _ => rfl⟩
  | x :: xs, ss, al, rl, v :: vs, h, hnd, hr, hx => by
    simp only [outSs] at h
    split at h
    case h_2 => cases h
    rename_i s a1 b1 hs
    split at h
    case h_2 => cases h
    rename_i ss' a2 b2 hss
    injection h with h
    injection h with h1 h
    injection h with h2 h3
    subst h1 h2 h3
    have hnd' := List.nodup_append.1 hnd
    obtain ⟨p1, p2, p3⟩ := outS_ok hR hz he hs (fun i hi => hr i (List.mem_append_left _ hi)) hx.1
    obtain ⟨q1, q2, q3⟩ := outSs_ok hR hz he hss hnd'.2.1 (fun i hi => hr i (List.mem_append_right _ hi)) hx.2
    refine ⟨⟨_, _, BS_sep hR.w hnd, p1, q1⟩, fun hl i hi => ?_, fun h1 h2 => by rw [p3 h1 h2, q3 h1 h2]; rfl⟩
    simp only [List.mem_append] at hi
    rcases hi with (hi | hi) | (hi | hi)
    · exact p2 hl i (List.mem_append_left _ hi)
    · exact q2 hl i (List.mem_append_left _ hi)
    · exact p2 hl i (List.mem_append_right _ hi)
    · exact q2 hl i (List.mem_append_right _ hi)
  | [], _, _, _, _ :: _, _, _, _, hx => hx.elim
  | _ :: _, _, _, _, [], _, _, _, hx => hx.elim
theorem outDs_ok (hR : R F g st a w) (hz : ∀ b, g.Z b → Z' b) {ro : Bool} : ∀ {us : List U} {df : List (List S0)} {ds : List DU} {al rl : List Nat} {vs : List Value}, outDs st.tb ro df us = some (ds, al, rl) → al.Nodup → (∀ i ∈ rl, ∀ b, Bk g i b → Z' b) → UsR g w us vs →
    MutDs w Z' ds vs (BS g al) ∧ ∀ i ∈ al ++ rl, isLow (i / 2) = false
  | [], df, ds, al, rl, [], h, _, _, _ => by
    simp only [outDs] at h
    injection h with h
    injection h with h1 h
    injection h with h2 h3
    subst h1 h2 h3
    exact ⟨BS_nil, (fun i hi => by cases hi)⟩
  | u :: us, df, ds, al, rl, v :: vs, h, hnd, hr, hx => by
    have one : ∃ d a1 b1 ds' a2 b2, ds = d :: ds' ∧ al = a1 ++ a2 ∧ rl = b1 ++ b2 ∧ outDs st.tb ro df.tail us = some (ds', a2, b2) ∧ (a1.Nodup → (∀ i ∈ b1, ∀ b, Bk g i b → Z' b) → Fits .val d ∧ MutD w Z' (fun _ => none) d v (BS g a1) ∧ ∀ i ∈ a1 ++ b1, isLow (i / 2) = false) := by
      cases u with
      | x x =>
        simp only [outDs] at h
        split at h
        case h_2 => cases h
        rename_i s a1 b1 hs
        split at h
        case h_2 => cases h
        rename_i ds' a2 b2 hds
        injection h with h
        injection h with h1 h
        injection h with h2 h3
        refine ⟨_, a1, b1, ds', a2, b2, h1.symm, h2.symm, h3.symm, hds, fun _ hr1 => ?_⟩
        obtain ⟨p1, p2, _⟩ := outS_ok (env := fun _ => none) hR hz (fun h => by cases h) hs hr1 hx.1
        exact ⟨trivial, p1, p2 rfl⟩
      | agg xs =>
        simp only [outDs] at h
        split at h
        case h_2 => cases h
        rename_i ss a1 b1 hs
        split at h
        case h_2 => cases h
        rename_i ds' a2 b2 hds
        injection h with h
        injection h with h1 h
        injection h with h2 h3
        refine ⟨_, a1, b1, ds', a2, b2, h1.symm, h2.symm, h3.symm, hds, fun hn1 hr1 => ?_⟩
        obtain ⟨ws, hv, hxs⟩ := hx.1
        obtain ⟨p1, p2, _⟩ := outSs_ok (env := fun _ => none) hR hz (fun h => by cases h) hs hn1 hr1 hxs
        exact ⟨trivial, ⟨ws, hv, p1⟩, p2 rfl⟩
    obtain ⟨d, a1, b1, ds', a2, b2, rfl, rfl, rfl, hds, p⟩ := one
    have hnd' := List.nodup_append.1 hnd
    obtain ⟨p1, p2, p3⟩ := p hnd'.1 fun i hi => hr i (List.mem_append_left _ hi)
    obtain ⟨q1, q2⟩ := outDs_ok hR hz hds hnd'.2.1 (fun i hi => hr i (List.mem_append_right _ hi)) hx.2
    refine ⟨⟨_, _, BS_sep hR.w hnd, p1, p2, q1⟩, fun i hi => ?_⟩
    simp only [List.mem_append] at hi
    rcases hi with (hi | hi) | (hi | hi)
    · exact p3 i (List.mem_append_left _ hi)
    · exact q2 i (List.mem_append_left _ hi)
    · exact p3 i (List.mem_append_right _ hi)
    · exact q2 i (List.mem_append_right _ hi)
  | [], _, _, _, _, _ :: _, _, _, _, hx => hx.elim
  | _ :: _, _, _, _, _, [], _, _, _, hx => hx.elim

theorem same_ok {c c0 : C} (h : c.same c0 = true) : c = c0 := by
  cases c <;> cases c0 <;> simp only [C.same] at h <;> first | (cases h; done) | skip
  · simp only [Bool.and_eq_true, decide_eq_true_eq] at h; rw [h.1, h.2]
  all_goals (simp only [decide_eq_true_eq] at h; rw [h])
/-- What a parameter's slices hold now. -/
theorem updM_ok (hR : R F g st a w) (hz : ∀ b, g.Z b → Z' b) {p : Nat} {w0 : World} {Z0 : Nat → Prop} (h0 : Stay Z0 w0 Z' w) : ∀ {ss ss' : List S} {ns : List Nat} {t : Bool} {vs : List Value} {B : Nat → Prop} {j : Nat}, MutSs w0 Z0 env ss vs B → (∀ i v c, vs[i]? = some v → ss[i]? = some (.sl c) → F.mv (64 * p + j + i) = v) → updM st.mus p j ss = some (ss', ns, t) → ns.Nodup →
    MutSs w Z' env ss' vs (BS g ns) ∧ (t = true → ss' = ss) ∧ ss'.length = ss.length
  | [], ss', ns, t, [], B, j, hm, hv, h, _ => by
    simp only [updM] at h
    injection h with h
    injection h with h1 h
    injection h with h2 h3
    subst h1 h2 h3
    exact ⟨BS_nil, fun _ => rfl, rfl⟩
  | s :: ss, ss', ns, t, v :: vs, B, j, hm, hv, h, hnd => by
    obtain ⟨b1, b2, hB, hm1, hm2⟩ := hm
    have hv' : ∀ i u c, vs[i]? = some u → ss[i]? = some (.sl c) → F.mv (64 * p + (j + 1) + i) = u := fun i u c hu hs => by
      rw [show 64 * p + (j + 1) + i = 64 * p + j + (i + 1) by omega]; exact hv (i + 1) u c (by simpa using hu) (by simpa using hs)
    have plain : DR w0 Z0 env s v → (match updM st.mus p (j + 1) ss with | some (ss', ns, b) => some (s :: ss', ns, b) | none => none) = some (ss', ns, t) → (∀ (w : World) (Z : Nat → Prop) B, DR w Z env s v → Nob B → MutS w Z env s v B) → MutSs w Z' env ss' (v :: vs) (BS g ns) ∧ (t = true → ss' = s :: ss) ∧ ss'.length = (s :: ss).length := fun hd h hmk => by
      split at h
      case h_2 => cases h
      rename_i ss2 ns2 t2 h2
      injection h with h
      injection h with h1 h
      injection h with h3 h4
      subst h1 h3 h4
      obtain ⟨q1, q2, q3⟩ := updM_ok hR hz h0 hm2 hv' h2 hnd
      exact ⟨⟨fun _ => False, _, ⟨fun b => by simp, fun _ h _ => h⟩, hmk _ _ _ (hd.mono h0) (fun _ h => h), q1⟩, fun e => by rw [q2 e], by simp [q3]⟩
    cases s with
    | sl c0 =>
      simp only [updM] at h
      split at h
      case h_2 => cases h
      rename_i c hc
      cases hw : c.whole
      · rw [hw] at h; cases h
      rw [hw] at h
      simp only [cond_true] at h
      split at h
      case h_2 => cases h
      rename_i ss2 ns2 t2 h2
      injection h with h
      injection h with h1 h
      injection h with h3 h4
      subst h1 h3 h4
      have hnd' := List.nodup_cons.1 hnd
      obtain ⟨q1, q2, q3⟩ := updM_ok hR hz h0 hm2 hv' h2 hnd'.2
      have ho := hR.s.mus _ c hc
      rw [show F.mv (64 * p + j) = v from hv 0 v c0 rfl rfl] at ho
      refine ⟨⟨BS g [2 * (64 * p + j)], _, BS_sep (l1 := [2 * (64 * p + j)]) hR.w hnd, ⟨hw, _, (hR.w.own _ v c ho).mono (fun b hb => ⟨hz b hb, rfl⟩) (fun b hb => ⟨_, by simp, .own ho hb⟩) fun _ _ => rfl⟩, q1⟩, fun e => ?_, by simp [q3]⟩
      simp only [Bool.and_eq_true] at e
      rw [same_ok e.1, q2 e.2]
    | _ => exact plain hm1.1 h fun _ _ _ h1 h2 => ⟨h1, h2⟩
  | [], _, _, _, _ :: _, _, _, hm, _, _, _ => hm.elim
  | _ :: _, _, _, _, [], _, _, hm, _, _, _ => hm.elim
theorem MutSs.len {Z : Nat → Prop} : ∀ {ss : List S} {vs : List Value} {B : Nat → Prop}, MutSs w Z env ss vs B → vs.length = ss.length
  | [], [], _, _ => rfl
  | _ :: _, _ :: _, _, h => by obtain ⟨_, _, _, _, h⟩ := h; simp [h.len]
  | [], _ :: _, _, h => h.elim
  | _ :: _, [], _, h => h.elim
theorem envOf_inv {args : List Value} {p b : Nat} (h : envOf args p = some b) : args[p]? = some (.pointer (some ⟨b, 0, none⟩)) := by
  unfold envOf at h
  split at h
  · rename_i b' hb
    injection h with h
    subst h
    exact hb
  · cases h
theorem updS_ok {args0 : List Value} (hmv : F.mv = mvOf args0) (htv : F.tv = tvOf args0) (hR : R F g st a w) (hz : ∀ b, g.Z b → Z' b) {w0 : World} {Z0 : Nat → Prop} (h0 : Stay Z0 w0 Z' w) : ∀ {md : List Md} {ds upd : List DU} {ns : List Nat} {t : Bool} {args : List Value} {B : Nat → Prop} {p : Nat}, ArgsR w0 Z0 (envOf args0) md ds args B → args0.drop p = args → p + md.length ≤ 60 → (∀ d ∈ ds, ∀ cs, d = .agg cs → cs.length < 60 ∨ True) →
    updS st p md ds = some (upd, ns, t) → t = true → ns.Nodup → (∀ (i : Nat) (cs : List S), ds[i]? = some (DU.agg cs) → (md[i]? = some Md.wr ∨ md[i]? = some Md.ext) → cs.length < 60) → UpdR w Z' (envOf args0) md ds upd args (BS g ns)
  | [], [], upd, ns, t, [], B, p, ha, hd, hp, _, h, _, _, hcl => by
    simp only [updS] at h
    injection h with h
    injection h with h1 h
    injection h with h2 h3
    subst h1 h2 h3
    exact BS_nil
  | m :: md, d :: ds, upd, ns, t, v :: args, B, p, ha, hd, hp, hjunk, h, ht, hnd, hcl => by
    simp only [updS] at h
    split at h
    case h_2 => cases h
    rename_i u1 n1 t1 h1
    split at h
    case h_2 => cases h
    rename_i u2 n2 t2 h2
    injection h with h
    injection h with e1 h
    injection h with e2 e3
    subst e1 e2 e3
    simp only [Bool.and_eq_true] at ht
    have hv0 : args0[p]? = some v := by
      have : (args0.drop p)[0]? = some v := by rw [hd]; rfl
      simpa using this
    have hd' : args0.drop (p + 1) = args := by rw [← List.drop_drop, hd]; rfl
    have hcl' : ∀ (i : Nat) cs, ds[i]? = some (.agg cs) → (md[i]? = some Md.wr ∨ md[i]? = some Md.ext) → cs.length < 60 := fun i cs q1 q2 => hcl (i + 1) cs (by simpa using q1) (by simpa using q2)
    simp only [List.length_cons] at hp
    have hnd' := List.nodup_append.1 hnd
    have rest : ∀ {B1 : Nat → Prop}, ArgsR w0 Z0 (envOf args0) md ds args B1 → UpdR w Z' (envOf args0) md ds u2 args (BS g n2) := fun q => updS_ok hmv htv hR hz h0 q hd' (by omega) (fun _ _ _ _ => .inr trivial) h2 ht.2 hnd'.2.1 hcl'
    have hmvp : ∀ (us : List Value), v.cells.toList = us → ∀ i u, us[i]? = some u → i < 64 → F.mv (64 * p + 0 + i) = u := fun us e i u hi hlt => by
      rw [hmv]
      unfold mvOf
      rw [show (64 * p + 0 + i) / 64 = p by omega, show (64 * p + 0 + i) % 64 = i by omega]
      rw [show args0.getD p undef = v by rw [List.getD_eq_getElem?_getD, hv0]; rfl, e, List.getD_eq_getElem?_getD, hi]
      rfl
    -- what is told of a value
    have wrx : ∀ {B1 : Nat → Prop}, (m = .wr ∨ m = .ext) → Fits m d → MutD w0 Z0 (envOf args0) d v B1 → ∀ {ss' : List S} {t' : Bool}, (match d with | .x s => updM st.mus p 0 [s] = some (ss', n1, t') | .agg cs => updM st.mus p 0 cs = some (ss', n1, t') | .ptr _ => False) →
        (match d with | .x s => ∃ s', ss' = [s'] ∧ MutS w Z' (envOf args0) s' v (BS g n1) ∧ (t' = true → s' = s) | .agg cs => MutD w Z' (envOf args0) (.agg ss') v (BS g n1) ∧ (t' = true → ss' = cs) | .ptr _ => False) := by
      intro B1 hmm hf hmd ss' t' hu
      cases d with
      | ptr => exact hu
      | x s =>
        have hmd : MutS w0 Z0 (envOf args0) s v B1 := hmd
        obtain ⟨q1, q2, q3⟩ := updM_ok (env := envOf args0) (p := p) (j := 0) (ss := [s]) (vs := [v]) (B := B1) hR hz h0 ⟨B1, fun _ => False, ⟨fun b => by simp, fun _ _ h => h⟩, hmd, fun _ h => h⟩ (fun i u c hi hs => by
          have hi0 : i = 0 := by have := (List.getElem?_eq_some_iff.1 hi).1; simp at this; omega
          subst hi0
          simp at hi hs
          subst hi hs
          refine hmvp [v] ?_ 0 v rfl (by omega)
          obtain ⟨_, I, ho⟩ := hmd
          rw [ho.one.2]) hu hnd'.1
        match ss', q1, q2, q3 with
        | [s'], q1, q2, _ =>
          obtain ⟨c1, c2, hc, hc1, hc2⟩ := q1
          refine ⟨s', rfl, ?_, fun e => by have := q2 e; injection this⟩
          have e : c1 = BS g n1 := by funext b; exact propext ⟨fun h => (hc.all b).2 (.inl h), fun h => ((hc.all b).1 h).resolve_right (hc2 b)⟩
          rw [← e]; exact hc1
        | [], q1, _, q3 => simp at q3
        | _ :: _ :: _, q1, _, q3 => simp at q3
      | agg cs =>
        obtain ⟨us, rfl, hms⟩ := hmd
        have hlen' : cs.length < 60 := hcl 0 cs rfl (by rcases hmm with rfl | rfl <;> simp)
        obtain ⟨q1, q2, _⟩ := updM_ok (env := envOf args0) (p := p) (j := 0) hR hz h0 hms (fun i u c hi _ => hmvp us (by simp [Value.cells]) i u hi (by have := (List.getElem?_eq_some_iff.1 hi).1; have := hms.len; omega)) hu hnd'.1
        exact ⟨⟨us, rfl, q1⟩, q2⟩
    cases m with
    | val =>
      obtain ⟨_, ha'⟩ := ha
      simp only [updP] at h1
      injection h1 with h1
      injection h1 with e1 h1
      injection h1 with e2 e3
      subst e1 e2
      have := rest ha'
      cases u2 <;> exact this
    | wr =>
      obtain ⟨B1, B2, hB, hf, hmd, ha'⟩ := ha
      cases d with
      | ptr => exact hf.elim
      | x s =>
        simp only [updP] at h1
        split at h1
        case h_2 => cases h1
        rename_i s' ns' t' h3
        injection h1 with h1
        injection h1 with e1 h1
        injection h1 with e2 e3
        subst e1 e2
        obtain ⟨s2, e, q1, _⟩ := wrx (.inl rfl) hf hmd h3
        injection e with e
        subst e
        exact ⟨_, _, BS_sep hR.w hnd, trivial, q1, rest ha'⟩
      | agg cs =>
        simp only [updP] at h1
        split at h1
        case h_2 => cases h1
        rename_i cs' ns' t' h3
        injection h1 with h1
        injection h1 with e1 h1
        injection h1 with e2 e3
        subst e1 e2
        exact ⟨_, _, BS_sep hR.w hnd, trivial, (wrx (.inl rfl) hf hmd h3).1, rest ha'⟩
    | ext =>
      obtain ⟨B1, B2, hB, hf, hmd, ha'⟩ := ha
      cases d with
      | ptr => exact hf.elim
      | x s =>
        simp only [updP] at h1
        split at h1
        case h_2 => cases h1
        rename_i ss' ns' t' h3
        injection h1 with h1
        injection h1 with e1 h1
        injection h1 with e2 e3
        subst e1 e2 e3
        obtain ⟨s2, e, q1, q2⟩ := wrx (.inr rfl) hf hmd h3
        have hq := q2 ht.1
        subst hq
        have hres : UpdR w Z' (envOf args0) (.ext :: md) (.x s2 :: ds) u2 (v :: args) (BS g (ns' ++ n2)) := by
          have := rest ha'
          cases u2 <;> exact ⟨_, _, BS_sep hR.w hnd, q1, this⟩
        exact hres
      | agg cs =>
        simp only [updP] at h1
        split at h1
        case h_2 => cases h1
        rename_i cs' ns' t' h3
        injection h1 with h1
        injection h1 with e1 h1
        injection h1 with e2 e3
        subst e1 e2 e3
        obtain ⟨q1, q2⟩ := wrx (.inr rfl) hf hmd h3
        have hq := q2 ht.1
        subst hq
        have := rest ha'
        cases u2 <;> exact ⟨_, _, BS_sep hR.w hnd, q1, this⟩
    | ref =>
      obtain ⟨B1, B2, hB, hf, hmd, ha'⟩ := ha
      cases d with
      | x => exact hf.elim
      | agg => exact hf.elim
      | ptr cs =>
        simp only [updP] at h1
        split at h1
        case h_2 => cases h1
        rename_i xs hxs
        split at h1
        case h_2 => cases h1
        rename_i ss ns' rl hss
        injection h1 with h1
        injection h1 with e1 h1
        injection h1 with e2 e3
        subst e1 e2
        obtain ⟨b, us, hg⟩ := hR.s.tbs _ xs hxs
        have hb := hR.s.low (refN p) b us (by unfold refN; omega) hg
        rw [htv] at hb
        unfold tvOf at hb
        rw [show refN p / 64 = p by unfold refN; omega] at hb
        have hv1 := envOf_inv hb
        rw [hv0] at hv1
        injection hv1 with hv1
        subst hv1
        obtain ⟨cs', h5, h6⟩ := hR.s.tabs _ b us hg
        rw [hxs] at h5
        injection h5 with h5
        subst h5
        have hnd2 := List.nodup_cons.1 hnd'.1
        have hrl : rl = [] := by
          have key : ∀ {x : X} {s : S} {al rl : List Nat}, outS st.tb true false [] x = some (s, al, rl) → rl = [] := fun {x s al rl} h => by
            cases x <;> simp only [outS] at h <;> first | (cases h; done) | skip
            all_goals
              first
              | (injection h with h; injection h with _ h; injection h with _ h; exact h.symm)
              | (split at h <;> first | (cases h; done) | (injection h with h; injection h with _ h; injection h with _ h; exact h.symm))
              | skip
            case own n c => simp only [cond_false, Bool.true_or, Bool.and_true] at h; cases hw : c.whole <;> rw [hw] at h <;> first | (cases h; done) | (injection h with h; injection h with _ h; injection h with _ h; exact h.symm)
            case bw n c i => simp only [cond_false] at h; cases hw : isLow n <;> rw [hw] at h <;> first | (cases h; done) | (injection h with h; injection h with _ h; injection h with _ h; exact h.symm)
            case nil c => simp only [cond_false] at h; cases hw : c.whole <;> rw [hw] at h <;> first | (cases h; done) | (injection h with h; injection h with _ h; injection h with _ h; exact h.symm)
            case ptr n o => simp at h
            case rop b cs o => cases hw : o == 0 <;> rw [hw] at h <;> first | (cases h; done) | (injection h with h; injection h with _ h; injection h with _ h; exact h.symm)
          have keys : ∀ {xs : List X} {ss : List S} {al rl : List Nat}, outSs st.tb true false [] xs = some (ss, al, rl) → rl = [] := by
            intro xs
            induction xs with
            | nil => intro ss al rl h; simp only [outSs] at h; injection h with h; injection h with _ h; injection h with _ h; exact h.symm
            | cons x xs ih =>
              intro ss al rl h
              simp only [outSs] at h
              split at h
              case h_2 => cases h
              rename_i h3
              split at h
              case h_2 => cases h
              rename_i h4
              injection h with h
              injection h with _ h
              injection h with _ h
              rw [← h, key h3, ih h4]
              rfl
          exact keys hss
        have h7 := (outSs_ok (env := envOf args0) hR hz (fun _ n q hpos b' vs' hg' => by
          unfold posRef at hpos
          cases hc : (Nat.blt n 4096 && n % 64 == 63)
          · rw [hc] at hpos; cases hpos
          · rw [hc] at hpos
            injection hpos with hpos
            simp only [Bool.and_eq_true] at hc
            have hlt : n < 4096 := by simpa using hc.1
            have := hR.s.low n b' vs' hlt hg'
            rw [htv] at this
            unfold tvOf at this
            rw [← hpos]
            exact this) hss hnd2.2 (fun i hi => by rw [hrl] at hi; cases hi) h6).1
        exact ⟨_, _, BS_sep hR.w hnd, trivial, ⟨b, us, BS g ns', rfl, hR.w.tab _ b us hg, h7, ⟨fun x => ⟨fun ⟨i, hi, hbk⟩ => by
          rcases List.mem_cons.1 hi with rfl | hi
          · rcases hbk with ⟨n, _, e, _⟩ | ⟨n, vs', e, ht'⟩
            · omega
            · obtain rfl : n = refN p := by omega
              rw [hg] at ht'
              injection ht' with ht'
              injection ht' with ht' _
              exact .inl ht'.symm
          · exact .inr ⟨i, hi, hbk⟩, fun h => by
          rcases h with h | ⟨i, hi, hbk⟩
          · subst h; exact ⟨_, List.mem_cons_self .., .tab hg⟩
          · exact ⟨i, List.mem_cons_of_mem _ hi, hbk⟩⟩, fun x hx ⟨i, hi, hbk⟩ => by
          subst hx
          have := hR.w.bkD _ _ x hbk (.tab hg)
          rw [this] at hi
          exact hnd2.1 hi⟩⟩, rest ha'⟩
  | [], _ :: _, _, _, _, _, _, _, ha, _, _, _, _, _, _, _ => ha.elim
  | [], [], _, _, _, _ :: _, _, _, ha, _, _, _, _, _, _, _ => ha.elim
  | m :: _, [], _, _, _, _, _, _, ha, _, _, _, _, _, _, _ => by cases m <;> exact ha.elim
  | m :: _, _ :: _, _, _, _, [], _, _, ha, _, _, _, _, _, _, _ => by cases m <;> exact ha.elim
end out

/-- One result. -/
def resOne (tmps : Array Value) : ResultVar → Sem Value
  | .tmp t => pure (tmps.getD t undef)
  | .cell a t => do loadVar t (← asAddr (tmps.getD a undef))
theorem resU_ok (hT : TsOk P T) (hR : R F g st a w) : ∀ {rs : List ResultVar} {us : List U}, resU T st rs = some us → ∃ vs, (rs.mapM (resOne a.tmps)).run P w = .ok vs w ∧ UsR g w us vs
  | [], us, h => by simp only [resU] at h; injection h with h; subst h; exact ⟨[], by simp, trivial⟩
  | .tmp t :: rs, us, h => by
    simp only [resU] at h
    split at h
    · rename_i u hu
      split at h
      · rename_i us' hus
        injection h with h
        subst h
        obtain ⟨vs, h1, h2⟩ := resU_ok hT hR hus
        have := ev_ok hR.s (.tmp t)
        rw [show ev st (.tmp t) = .u u from hu] at this
        exact ⟨a.eval (.tmp t) :: vs, by simp [resOne, h1, List.mapM_cons, Act.eval], this, h2⟩
      · cases h
    · cases h
  | .cell t ty :: rs, us, h => by
    simp only [resU] at h
    split at h
    · rename_i x hx
      cases hb : Nat.blt 0 (T ty).size
      · rw [hb] at h; cases h
      · rw [hb] at h
        simp only [cond_true] at h
        split at h
        · rename_i u hu
          split at h
          · rename_i us' hus
            injection h with h
            subst h
            obtain ⟨vs, h1, h2⟩ := resU_ok hT hR hus
            have hxr := ev_ok hR.s (.tmp t)
            rw [show ev st (.tmp t) = .u (.x x) from hx] at hxr
            obtain ⟨b, v, h3, h4, h5⟩ := loadX_ok hR hT (known hT (blt_ok hR hb)) (show XR g w x (a.eval (.tmp t)) from hxr) hu
            refine ⟨v :: vs, ?_, h5, h2⟩
            have h3' : a.tmps.getD t undef = .pointer (some b) := h3
            simp only [List.mapM_cons, resOne, h3']
            simp [asAddr, h4, h1]
          · cases h
        · cases h
    · cases h
end
end Go.BV

/-
  Functions: what is run is what is called.
-/
namespace Go.BV
section
variable {P : Program} {T : TypeId → TI} {O : Env} {F : Fx} {g : Gh} {st : St} {a : Act} {w : World}

theorem results_ok (hT : TsOk P T) (hR : R F g st a w) {fn : Func} {us : List U} (h : resU T st fn.results.toList = some us) : ∃ vs, (results fn a.tmps).run P w = .ok (resVal vs) w ∧ UsR g w us vs := by
  obtain ⟨vs, h1, h2⟩ := resU_ok hT hR h
  refine ⟨vs, ?_, h2⟩
  have he : results fn a.tmps = (do let vs ← fn.results.mapM (resOne a.tmps); pure (if h : vs.size = 1 then vs[0] else .tuple vs)) := by
    unfold results
    congr 2
  rw [he, Array.mapM_eq_mapM_toList]
  simp only [bind_pure_comp, Sem.run_bind, Sem.run_pure]
  have : (List.toArray <$> List.mapM (resOne a.tmps) fn.results.toList).run P w = .ok vs.toArray w := by
    rw [← bind_pure_comp]
    simp [h1]
  rw [← bind_pure_comp, Sem.run_bind, this]
  simp only [Result.andThen_ok, Sem.run_pure]
  congr 1
  cases vs with
  | nil => rfl
  | cons v vs => cases vs with
    | nil => rfl
    | cons u vs => simp [resVal]

theorem initS_agg : ∀ {md : List Md} {ds : List DU} {p : Nat} {x : List V × List (Nat × List X) × List (Nat × C)}, initS p md ds = some x → ∀ (i : Nat) (cs : List S), ds[i]? = some (DU.agg cs) → (md[i]? = some Md.wr ∨ md[i]? = some Md.ext) → cs.length < 60
  | [], [], p, x, h, i, cs, hi, _ => by simp at hi
  | m :: md, d :: ds, p, x, h, i, cs, hi, hm => by
    simp only [initS] at h
    split at h
    case h_2 => cases h
    rename_i h1
    split at h
    case h_2 => cases h
    rename_i h2
    cases i with
    | zero =>
      simp at hi hm
      subst hi
      have key : (bif Nat.blt cs.length 60 then some (V.u (.agg (nameM p 0 cs)), ([] : List (Nat × List X)), musM p 0 cs) else none) ≠ none := by
        rcases hm with rfl | rfl <;> (intro e; rw [show initP p _ (DU.agg cs) = _ from rfl] at h1; simp only [initP] at h1; rw [e] at h1; cases h1)
      cases hl : Nat.blt cs.length 60
      · rw [hl] at key; exact absurd rfl key
      · simpa using hl
    | succ i => exact initS_agg h2 i cs (by simpa using hi) (by simpa using hm)
  | [], _ :: _, _, _, h, _, _, _, _ => by simp [initS] at h
  | _ :: _, [], _, _, h, _, _, _, _ => by simp [initS] at h
theorem PF_ref {Z : Nat → Prop} {env : Nat → Option Nat} : ∀ {md : List Md} {ds : List DU} {args : List Value} {p i : Nat}, PF g w Z env p md ds args → md[i]? = some .ref → ∃ b us, args[i]? = some (.pointer (some ⟨b, 0, none⟩)) ∧ g.tab (refN (p + i)) = some (b, us)
  | [], _, _, _, _, _, h => by simp at h
  | m :: md, d :: ds, v :: args, p, 0, hp, h => by
    simp at h
    subst h
    have hp := hp.1
    cases d with
    | ptr cs => obtain ⟨b, us, rfl, h1, _⟩ := hp; exact ⟨b, us, rfl, h1⟩
    | _ => exact hp.elim
  | m :: md, d :: ds, v :: args, p, i + 1, hp, h => by
    obtain ⟨b, us, h1, h2⟩ := PF_ref (i := i) hp.2 (by simpa using h)
    exact ⟨b, us, by simpa using h1, by rw [show p + (i + 1) = p + 1 + i by omega]; exact h2⟩
  | _ :: _, [], _, _, _, hp, _ => hp.elim
  | _ :: _, _ :: _, [], _, _, hp, _ => hp.elim

theorem meets_run (hT : TsOk P T) (hO : OOk P O) (hm : P.follows .mixedOrders = true) {f : FuncId} {fn : Func} {kp : Nat → Option Keep} {md : List Md} {na : Nat} {weak : Bool} {df : List (List S0)} {ntmps : Nat} {rs : List ResultVar} {body : Code}
    (hf : P.funcs[f]? = some fn) (hb : fn.body = some body) (hn : fn.ntmps = ntmps) (hr : fn.results.toList = rs) :
    Meets P f md na fun ds out => ∃ fuel, runFn T O kp fuel md na weak df ntmps rs body ds some = some out := by
  intro w Z args ds B out hZ hB ha ⟨fuel, h⟩
  subst hr hn
  unfold runFn at h
  split at h
  case h_2 => cases h
  rename_i vs tabs mus hi
  cases hfk : ds.all (DU.fnOk md)
  case false => rw [hfk] at h; cases h
  rw [hfk] at h
  simp only [Bool.not_true, cond_false] at h
  have hle := initS_le hi
  have hcl := initS_agg hi
  let F : Fx := { w0 := w, M := B, Z0 := Z, mv := mvOf args, tv := tvOf args, Mlt := hB }
  let g0 : Gh := { own := fun _ => none, tab := fun _ => none, Z := Z, fp := fun _ _ => False, inn := fun _ _ => undef, sus := fun _ => none }
  have nobk : ∀ i b, ¬ Bk g0 i b := fun i b hb => by
    rcases hb with ⟨n, x, _, h, _⟩ | ⟨n, us, _, h⟩ <;> cases h
  have hW0 : WG F g0 w := ⟨rfl, rfl, rfl, Nat.le_refl _, fun _ _ _ => rfl, fun b hb => ⟨(hZ b hb).1, (hZ b hb).2, .inl hb⟩, fun b hb => hb, (fun n v c hn => by cases hn), (fun n b vs hn => by cases hn), fun i b hb => (nobk i b hb).elim, fun i j b hb _ => (nobk i b hb).elim, (fun n v c m hn => by cases hn)⟩
  obtain ⟨g1, hW1, hM1, hPF, htabs⟩ := init_w (F := F) (p := 0) ha hW0 rfl rfl (fun b hb => ⟨hb, hB b hb, ⟨fun hz => (hZ b hz).2 hb, fun i => nobk i b⟩⟩) (fun n _ => ⟨rfl, rfl⟩) hi
  have hcaps : CapsOk g1 (envOf args) md := fun p b hp hb => by
    have hp' : md[p]? = some .ref := by
      unfold refAt at hp
      split at hp
      · assumption
      · cases hp
    obtain ⟨b', us, h1, h2⟩ := PF_ref hPF hp'
    have := envOf_inv hb
    rw [h1] at this
    injection this with this
    injection this with this
    injection this with this
    injection this with this
    subst this
    exact ⟨us, by rw [Nat.zero_add] at h2; exact h2⟩
  have hI := init_s (args0 := args) hW1 hM1.z hcaps hPF hfk hi rfl
  have htab : ∀ n b us, g1.tab n = some (b, us) → ∃ cs, lk tabs n = some cs ∧ XsR g1 w cs us ∧ envOf args (n / 64) = some b := fun n b us hn => by
    rcases htabs n _ hn with h1 | ⟨i, h1, rfl⟩
    · cases h1
    · obtain ⟨cs, hcs⟩ := hI.ref i h1
      obtain ⟨_, _, b', us', h3, h4, h5⟩ := hI.tab _ _ hcs
      rw [hn] at h3
      injection h3 with h3
      injection h3 with e1 e2
      subst e1 e2
      exact ⟨cs, hcs, h4, h5⟩
  let a0 : Act := { tmps := (args.take na).toArray ++ Array.replicate (fn.ntmps - (args.take na).toArray.size) undef, defers := [] }
  have hlen : (vs.take na).length = (args.take na).length := by simp [hI.len]
  have hR1 : R F g1 { tmps := vs.take na ++ List.replicate (fn.ntmps - (vs.take na).length) (V.u (.x .undef)), tabs := tabs, mus := mus, sus := [] } a0 w := by
    refine ⟨⟨?_, fun i x hx => ?_, rfl, fun n b us hn => ?_, fun n cs hn => ?_, hI.mus, (fun n m c b hn => by cases hn), fun n b us _ hn => ?_⟩, hW1⟩
    · simp only [List.length_append, List.length_replicate, a0, Array.size_append, Array.size_replicate, List.size_toArray, hlen]
    · by_cases hlt : i < (vs.take na).length
      · simp only at hx
        rw [List.getElem?_append_left hlt] at hx
        have hv : (args.take na)[i]? = some (args.take na)[i] := List.getElem?_eq_getElem (by omega)
        refine ⟨(args.take na)[i]'(by omega), ?_, ?_⟩
        · show ((args.take na).toArray ++ Array.replicate (fn.ntmps - (args.take na).toArray.size) undef)[i]? = _
          rw [Array.getElem?_append_left (by simp only [List.size_toArray]; omega)]
          simpa using hv
        · have hlt' : i < na := by simp at hlt; omega
          rw [List.getElem?_take_of_lt hlt'] at hx hv
          exact hI.val i x _ hx hv
      · simp only at hx
        rw [List.getElem?_append_right (by omega), List.getElem?_replicate] at hx
        split at hx
        · rename_i h3
          injection hx with hx
          subst hx
          have hsz : i < a0.tmps.size := by
            simp only [a0, Array.size_append, Array.size_replicate, List.size_toArray]
            omega
          exact ⟨a0.tmps[i], Array.getElem?_eq_getElem hsz, trivial⟩
        · cases hx
    · obtain ⟨cs, h1, h2, _⟩ := htab n b us hn
      exact ⟨cs, h1, h2⟩
    · obtain ⟨_, _, b, us, h1, _⟩ := hI.tab n cs hn
      exact ⟨b, us, h1⟩
    · obtain ⟨_, _, _, h3⟩ := htab n b us hn
      exact h3
  refine calls_of_wp hf hb (run_sound hT hO hm body h hR1 fun e st0 g0' a' w' h1 hR0 => ?_)
  have fin : ∀ (hfin : finish T md weak df fn.results.toList ds st0 some = some out), a'.defers = [] ∧ ∃ v, (results fn a'.tmps).run P w' = .ok v w' ∧ ∃ v' rs BR BU, Ending.returned v = .returned v' ∧ Post w Z md ds args B out v' w' rs BR BU := by
    intro hfin
    refine ⟨hR0.s.defers, ?_⟩
    unfold finish at hfin
    simp only at hfin
    obtain ⟨g', hR'⟩ := backs_sound (l := st0.sus.map (·.1)) hR0
    generalize backs (st0.sus.map (·.1)) st0 = st' at hR' hfin
    split at hfin
    case h_2 => cases hfin
    rename_i us hus
    obtain ⟨rv, hrun, hur⟩ := results_ok hT hR' hus
    refine ⟨_, hrun, resVal rv, rv, ?_⟩
    have hw := hR'.w
    split at hfin
    case h_2 => cases hfin
    rename_i upd ns t hupd
    split at hfin
    case h_2 => cases hfin
    rename_i res al rl hres
    cases hb : (nodupB (al ++ ns) && rl.all (fun n => !(al ++ ns).contains n) && t)
    case false => rw [hb] at hfin; cases hfin
    rw [hb] at hfin
    injection hfin with hfin
    subst hfin
    simp only [Bool.and_eq_true] at hb
    obtain ⟨⟨hb1, hb2⟩, hb3⟩ := hb
    have hnd := nodupB_ok hb1
    have hnd' := List.nodup_append.1 hnd
    have hlow := (outDs_ok (Z' := fun _ => True) hR' (fun _ _ => trivial) hres hnd'.1 (fun _ _ _ _ => trivial) hur).2
    have hz : ∀ b, g'.Z b → Zn Z w w' (BS g' al) (BS g' ns) b := fun b hb => by
      obtain ⟨q1, q2, q3⟩ := hw.Zok b hb
      rcases q3 with q3 | q3
      · exact .inl q3
      · exact .inr ⟨q3, q1, fun ⟨i, _, hi⟩ => (hw.bk i b hi).2.1 hb, fun ⟨i, _, hi⟩ => (hw.bk i b hi).2.1 hb⟩
    have h0 : Stay Z w (Zn Z w w' (BS g' al) (BS g' ns)) w' := fun b hb => ⟨.inl hb, hw.frame b (hZ b hb).1 (hZ b hb).2⟩
    have hfrz : ∀ i ∈ rl, ∀ b, Bk g' i b → Zn Z w w' (BS g' al) (BS g' ns) b := fun i hi b hbk => by
      have q := hw.bk i b hbk
      have hl := hlow i (List.mem_append_right _ hi)
      have hni : i ∉ al ++ ns := by
        have := List.all_eq_true.1 hb2 i hi
        simpa using this
      have q3 : w.heap.size ≤ b := by
        rcases q.2.2 with h | h
        · exact h
        · rw [hl] at h; cases h.2
      exact .inr ⟨q3, q.1, fun ⟨j, hj, hbj⟩ => hni (by rw [hw.bkD i j b hbk hbj]; exact List.mem_append_left _ hj), fun ⟨j, hj, hbj⟩ => hni (by rw [hw.bkD i j b hbk hbj]; exact List.mem_append_right _ hj)⟩
    have hups := updS_ok (F := F) (args0 := args) rfl rfl hR' hz h0 (p := 0) ha rfl (by omega) (fun _ _ _ _ => .inr trivial) hupd hb3 hnd'.2.1 hcl
    have hout := (outDs_ok hR' hz hres hnd'.1 hfrz hur).1
    refine ⟨BS g' al, BS g' ns, rfl, hw.os, hw.tape, hw.output, hw.size, hw.frame, rfl, hout, fun b ⟨i, hi, hbk⟩ => ?_, hups, fun b ⟨i, hi, hbk⟩ => ?_, fun b ⟨i, hi, hbk⟩ ⟨j, hj, hbj⟩ => hnd'.2.2 i hi j hj (hw.bkD i j b hbk hbj)⟩
    · have q := hw.bk i b hbk
      refine ⟨?_, q.1⟩
      rcases q.2.2 with h | h
      · exact h
      · rw [hlow i (List.mem_append_left _ hi)] at h; cases h.2
    · have q := hw.bk i b hbk
      exact ⟨q.2.2.elim .inr fun h => .inl h.1, q.1⟩
  cases e with
  | normal => exact fin h1
  | ret => exact fin h1
  | exit id => cases h1
end
end Go.BV

/-
  What follows of a run does not change the run; more fuel does no harm; tables of functions and types.
-/
namespace Go.BV
section
variable {ρ σ : Type} {T : TypeId → TI} {O : Env}

theorem bifF {α β : Type} {F : α → β} (c : Bool) {a b : β} {a' b' : α} (h1 : a = F a') (h2 : b = F b') : cond c a b = F (cond c a' b') := by cases c <;> assumption
theorem appendP_bind {site : Nat} {dst : Option Tmp} {st : St} {x y : V} {K : St → Option ρ} {K' : St → Option σ} {f : σ → Option ρ} (h : ∀ s, K s = (K' s).bind f) : appendP O site dst st x y K = (appendP O site dst st x y K').bind f := by
  unfold appendP
  repeat' first
    | rfl
    | exact h _
    | refine bindc _ ?_ ?_
    | refine bindi ?_ ?_
    | split
theorem appendC_bind {site : Nat} {dst : Option Tmp} {st : St} {x y : V} {K : St → Option ρ} {K' : St → Option σ} {f : σ → Option ρ} (h : ∀ s, K s = (K' s).bind f) : appendC O site dst st x y K = (appendC O site dst st x y K').bind f := by
  unfold appendC
  repeat' first
    | rfl
    | exact h _
    | exact appendP_bind h
    | refine bindc _ ?_ ?_
    | refine bindi ?_ ?_
    | split
theorem callF_bind (hO : ∀ f o, O.fn f = some o → Nat1 o) {o : Ora} {g : FuncId} (ho : O.fn g = some o) {site na : Nat} {dst : Option Tmp} {vs : List V} {st : St} {K : St → Option ρ} {K' : St → Option σ} {f : σ → Option ρ} (h : ∀ s, K s = (K' s).bind f) : callF o site dst na vs st K = (callF o site dst na vs st K').bind f := by
  unfold callF
  refine bindc _ ?_ rfl
  split
  · refine G_bind (hO _ _ ho) fun r => ?_
    dsimp only
    repeat' first
      | rfl
      | exact h _
      | refine bindc _ ?_ ?_
      | split
  · rfl
theorem callB_bind (hO : ∀ f o, O.fn f = some o → Nat1 o) {o : Ora} {g : FuncId} (ho : O.fn g = some o) {site na n i : Nat} {dst : Option Tmp} {vs : List V} {st : St} {K : St → Option ρ} {K' : St → Option σ} {f : σ → Option ρ} (h : ∀ s, K s = (K' s).bind f) : callB o site dst na vs n i st K = (callB o site dst na vs n i st K').bind f := by
  unfold callB
  refine bindc _ ?_ rfl
  split
  · refine G_bind (hO _ _ ho) fun r => ?_
    repeat' first
      | rfl
      | exact h _
      | refine bindc _ ?_ ?_
      | split
  · rfl
theorem callW_bind (hO : ∀ f o, O.fn f = some o → Nat1 o) {o : Ora} {g : FuncId} (ho : O.fn g = some o) {site na : Nat} {dst : Option Tmp} {vs : List V} {st : St} {K : St → Option ρ} {K' : St → Option σ} {f : σ → Option ρ} (h : ∀ s, K s = (K' s).bind f) : callW o site dst na vs st K = (callW o site dst na vs st K').bind f := by
  unfold callW
  split
  · exact callB_bind hO ho h
  · exact callF_bind hO ho h
theorem storeX_bind {st : St} {a : X} {u : U} {K : St → Option ρ} {K' : St → Option σ} {f : σ → Option ρ} (h : ∀ s, K s = (K' s).bind f) : storeX st a u K = (storeX st a u K').bind f := by
  unfold storeX
  repeat' first
    | rfl
    | exact h _
    | refine bindc _ ?_ ?_
    | refine bindi ?_ ?_
    | split
theorem cv_bind (hO : ∀ f o, O.fn f = some o → Nat1 o) {site : Nat} {op : Op} {e : Operand → V} {tb : Nat → Option (List X)} {K : V → Option (List X) → Option ρ} {K' : V → Option (List X) → Option σ} {f : σ → Option ρ} (h : ∀ v x, K v x = (K' v x).bind f) : cv T O site op e tb K = (cv T O site op e tb K').bind f := by
  rw [cv_nat hO, cv_nat (ρ := σ) hO]
  cases cvD T O site op e tb
  · rfl
  · exact h _ _
theorem wild_bind (hO : ∀ f o, O.fn f = some o → Nat1 o) {site : Nat} {o : Oper} {st : St} {K : St → Option ρ} {K' : St → Option σ} {f : σ → Option ρ} (h : ∀ s, K s = (K' s).bind f) : wild T O site o st K = (wild T O site o st K').map fun r => r.bind f := by
  unfold wild
  split
  · simp only [Option.map_some, Option.some.injEq]
    split
    · refine bindc _ (storeX_bind fun s => h _) rfl
    · rfl
  · simp only [Option.map_some, Option.some.injEq]
    split
    · exact h _
    · rfl
  · split
    · refine bifF (F := Option.map fun r : Option σ => r.bind f) _ ?_ rfl
      simp only [Option.map_some, Option.some.injEq]
      exact bindc _ rfl (h _)
    · rfl
  · split
    · refine bifF (F := Option.map fun r : Option σ => r.bind f) _ rfl ?_
      simp only [Option.map_some, Option.some.injEq]
      exact bindc _ (h _) rfl
    · rfl
  · split
    · simp only [Option.map_some, Option.some.injEq]
      split
      · exact bound_bind fun r s => bindc _ (h _) (bindc _ rfl (h _))
      · rfl
    · rfl
  · split
    · split
      · rename_i hora
        refine bifF (F := Option.map fun r : Option σ => r.bind f) _ rfl ?_
        simp only [Option.map_some, Option.some.injEq]
        exact callW_bind hO hora h
      · rfl
    · rfl
  · split
    · simp only [Option.map_some, Option.some.injEq]
      split
      · refine bindc _ ?_ rfl
        split
        · exact appendC_bind h
        · rfl
      · rfl
    · rfl
  · rfl

theorem step_bind (hO : ∀ f o, O.fn f = some o → Nat1 o) {m site : Nat} {o : Oper} {st : St} {K : St → Option ρ} {K' : St → Option σ} {f : σ → Option ρ} (h : ∀ s, K s = (K' s).bind f) : step T O m site o st K = (step T O m site o st K').bind f := by
  unfold step
  rw [wild_bind hO h]
  cases wild T O site o st K' with
  | none => exact bindc _ rfl (cv_bind hO fun v x => h _)
  | some r =>
    simp only [Option.map_some]
    cases (m == 1 || m == 3 || (m == 4 && !ptrStore o st)) <;> rfl
theorem guarded_bind {all : List Oper} {o : Oper} {st : St} {y n : St → Option ρ} {y' n' : St → Option σ} {f : σ → Option ρ} (hy : ∀ s, y s = (y' s).bind f) (hn : ∀ s, n s = (n' s).bind f) : guarded all o st y n = (guarded all o st y' n').bind f := by
  unfold guarded
  repeat' first
    | rfl
    | exact hy _
    | exact hn _
    | refine bindc _ ?_ ?_
    | split
theorem opsRun_bind (hO : ∀ f o, O.fn f = some o → Nat1 o) {md : List Nat} {rid : Nat} {all : List Oper} {K : St → Option ρ} {K' : St → Option σ} {f : σ → Option ρ} (h : ∀ s, K s = (K' s).bind f) : ∀ (L : List (Nat × Oper)) (st : St), opsRun T O md rid all L st K = (opsRun T O md rid all L st K').bind f
  | [], st => h st
  | (i, o) :: L, st => by
    simp only [opsRun]
    exact guarded_bind (fun s => step_bind hO fun s' => opsRun_bind hO h L s') (fun s => opsRun_bind hO h L _)
theorem iter_bind {body : St → (Ex → St → Option ρ) → Option ρ} {body' : St → (Ex → St → Option σ) → Option σ} {nrm : St → St} {f : σ → Option ρ} (hb : ∀ st (K : Ex → St → Option ρ) (K' : Ex → St → Option σ), (∀ e s, K e s = (K' e s).bind f) → body st K = (body' st K').bind f) {K : Ex → St → Option ρ} {K' : Ex → St → Option σ} (h : ∀ e s, K e s = (K' e s).bind f) :
    ∀ (n : Nat) (st : St), iter body nrm n st K = (iter body' nrm n st K').bind f
  | 0, st => rfl
  | n + 1, st => by
    simp only [iter]
    refine hb _ _ _ fun e s => ?_
    cases e with
    | normal => exact iter_bind hb h n _
    | exit id => exact h _ _
    | ret => exact h _ _
theorem gate_bind {n : Nat} {x : Option ρ} {y : Option σ} {f : σ → Option ρ} (h : x = y.bind f) : gate n x = (gate n y).bind f := by
  cases n with
  | zero => rfl
  | succ n => exact h
theorem gate_one {x : Option ρ} : gate 1 x = x := rfl
theorem gate_mono {n : Nat} {x y : Option ρ} {r : ρ} (h : x = some r → y = some r) (k : gate n x = some r) : gate n y = some r := by
  cases n with
  | zero => cases k
  | succ n => exact h k
theorem run_bind (hO : ∀ f o, O.fn f = some o → Nat1 o) {kp : Nat → Option Keep} {fuel : Nat} {f : σ → Option ρ} : ∀ (c : Code) (st : St) (K : Ex → St → Option ρ) (K' : Ex → St → Option σ), (∀ e s, K e s = (K' e s).bind f) → run T O kp fuel c st K = (run T O kp fuel c st K').bind f
  | .skip, st, K, K', h => h _ _
  | .label _, st, K, K', h => h _ _
  | .exit _, st, K, K', h => h _ _
  | .ret, st, K, K', h => h _ _
  | .region rid ops dr, st, K, K', h => by
    unfold run
    exact bindc _ (opsRun_bind hO (fun s => h _ s) _ _) rfl
  | .seq a b, st, K, K', h => by
    unfold run
    refine run_bind hO a _ _ _ fun e s => ?_
    cases e with
    | normal => exact gate_bind (run_bind hO b _ _ _ h)
    | exit id => exact h _ _
    | ret => exact h _ _
  | .cond c x y, st, K, K', h => by
    unfold run
    split
    · exact bindc _ (run_bind hO x _ _ _ h) (run_bind hO y _ _ _ h)
    · rfl
  | .block id c, st, K, K', h => by
    unfold run
    refine run_bind hO c _ _ _ fun e s => ?_
    cases e with
    | normal => exact h _ _
    | exit id' => exact bindc _ (h _ _) (h _ _)
    | ret => exact h _ _
  | .loop c, st, K, K', h => by
    unfold run
    exact iter_bind (fun st K K' h => run_bind hO c st K K' h) h _ _
  | .rangeFunc .., st, K, K', h => by unfold run; rfl
  | .goto _, st, K, K', h => by unfold run; rfl
  | .scope _, st, K, K', h => by unfold run; rfl
  | .refuse _, st, K, K', h => by unfold run; rfl

/-! ### Fuel -/
theorem iter_mono {body body2 : St → (Ex → St → Option ρ) → Option ρ} {nrm : St → St} {r : ρ} (hb : ∀ st (K K2 : Ex → St → Option ρ), (∀ e s, K e s = some r → K2 e s = some r) → body st K = some r → body2 st K2 = some r) {K K2 : Ex → St → Option ρ} (h : ∀ e s, K e s = some r → K2 e s = some r) :
    ∀ (n m : Nat) (st : St), n ≤ m → iter body nrm n st K = some r → iter body2 nrm m st K2 = some r
  | 0, m, st, hm, hh => by simp [iter] at hh
  | n + 1, 0, st, hm, hh => by omega
  | n + 1, m + 1, st, hm, hh => by
    simp only [iter] at hh ⊢
    refine hb _ _ _ (fun e s he => ?_) hh
    cases e with
    | normal => exact iter_mono hb h n m _ (by omega) he
    | exit id => exact h _ _ he
    | ret => exact h _ _ he
theorem run_mono (hO : ∀ f o, O.fn f = some o → Nat1 o) {kp : Nat → Option Keep} {n m : Nat} (hm : n ≤ m) {r : ρ} : ∀ (c : Code) (st : St) (K K2 : Ex → St → Option ρ), (∀ e s, K e s = some r → K2 e s = some r) → run T O kp n c st K = some r → run T O kp m c st K2 = some r
  | .skip, st, K, K', h, hh => h _ _ hh
  | .label _, st, K, K', h, hh => h _ _ hh
  | .exit _, st, K, K', h, hh => h _ _ hh
  | .ret, st, K, K', h, hh => h _ _ hh
  | .region rid ops dr, st, K, K', h, hh => by
    unfold run at hh ⊢
    cases hb : (Nat.blt ops.size 64 && Nat.blt rid 16000 && (!dr || drawOk ops))
    · rw [hb] at hh; cases hh
    · rw [hb] at hh
      simp only [cond_true] at hh ⊢
      have hk := opsRun_bind (T := T) (md := bif dr then modes ops else []) (rid := rid) (all := ops.toList) (σ := St) hO (K := fun s => K .normal s) (K' := some) (f := fun s => K .normal s) (fun s => rfl) (numbered 0 ops.toList) (st.clr (ofRegion rid))
      have hk' := opsRun_bind (T := T) (md := bif dr then modes ops else []) (rid := rid) (all := ops.toList) (σ := St) hO (K := fun s => K' .normal s) (K' := some) (f := fun s => K' .normal s) (fun s => rfl) (numbered 0 ops.toList) (st.clr (ofRegion rid))
      rw [hk] at hh
      rw [hk']
      obtain ⟨s, h1, h2⟩ := Option.bind_eq_some_iff.1 hh
      exact Option.bind_eq_some_iff.2 ⟨s, h1, h _ _ h2⟩
  | .seq a b, st, K, K', h, hh => by
    unfold run at hh ⊢
    refine run_mono hO hm a _ _ _ (fun e s he => ?_) hh
    cases e with
    | normal => exact gate_mono (fun he => run_mono hO hm b _ _ _ h he) he
    | exit id => exact h _ _ he
    | ret => exact h _ _ he
  | .cond c x y, st, K, K', h, hh => by
    unfold run at hh ⊢
    split at hh
    · rename_i b hb
      cases b
      · exact run_mono hO hm y _ _ _ h hh
      · exact run_mono hO hm x _ _ _ h hh
    · cases hh
  | .block id c, st, K, K', h, hh => by
    unfold run at hh ⊢
    refine run_mono hO hm c _ _ _ (fun e s he => ?_) hh
    cases e with
    | normal => exact h _ _ he
    | ret => exact h _ _ he
    | exit id' =>
      have he : (bif id' == id then K .normal s else K (.exit id') s) = some r := he
      show (bif id' == id then K' .normal s else K' (.exit id') s) = some r
      cases hb : id' == id
      · rw [hb] at he; exact h _ _ he
      · rw [hb] at he; exact h _ _ he
  | .loop c, st, K, K', h, hh => by
    unfold run at hh ⊢
    exact iter_mono (fun st K K2 h hh => run_mono hO hm c st K K2 h hh) h _ _ _ hm hh
  | .rangeFunc .., st, K, K', h, hh => by unfold run at hh; cases hh
  | .goto _, st, K, K', h, hh => by unfold run at hh; cases hh
  | .scope _, st, K, K', h, hh => by unfold run at hh; cases hh
  | .refuse _, st, K, K', h, hh => by unfold run at hh; cases hh

theorem finish_bind {md : List Md} {weak : Bool} {df : List (List S0)} {rs : List ResultVar} {ds : List DU} {st : St} {K : Out → Option ρ} {K' : Out → Option σ} {f : σ → Option ρ} (h : ∀ o, K o = (K' o).bind f) : finish T md weak df rs ds st K = (finish T md weak df rs ds st K').bind f := by
  unfold finish
  dsimp only
  repeat' first
    | rfl
    | exact h _
    | refine bindc _ ?_ ?_
    | split
theorem runFn_bind (hO : ∀ f o, O.fn f = some o → Nat1 o) {kp : Nat → Option Keep} {fuel : Nat} {md : List Md} {na : Nat} {weak : Bool} {df : List (List S0)} {nt : Nat} {rs : List ResultVar} {body : Code} {ds : List DU} {K : Out → Option ρ} {K' : Out → Option σ} {f : σ → Option ρ} (h : ∀ o, K o = (K' o).bind f) : runFn T O kp fuel md na weak df nt rs body ds K = (runFn T O kp fuel md na weak df nt rs body ds K').bind f := by
  unfold runFn
  split
  · refine bindc _ rfl (run_bind hO body _ _ _ fun e s => ?_)
    cases e with
    | exit id => rfl
    | normal => exact finish_bind h
    | ret => exact finish_bind h
  · rfl
theorem runFn_mono (hO : ∀ f o, O.fn f = some o → Nat1 o) {kp : Nat → Option Keep} {n m : Nat} (hm : n ≤ m) {md : List Md} {na : Nat} {weak : Bool} {df : List (List S0)} {nt : Nat} {rs : List ResultVar} {body : Code} {ds : List DU} {K : Out → Option ρ} {r : ρ} (h : runFn T O kp n md na weak df nt rs body ds K = some r) : runFn T O kp m md na weak df nt rs body ds K = some r := by
  unfold runFn at h ⊢
  split at h
  · cases hb : !(ds.all (DU.fnOk md))
    · rw [hb] at h
      simp only [cond_false] at h ⊢
      exact run_mono hO hm body _ _ _ (fun e s he => he) h
    · rw [hb] at h; cases h
  · cases h

/-! ### The value of a run -/
open Classical in
noncomputable def val {α : Type} (f : Nat → Option α) : Option α := if h : ∃ n r, f n = some r then f (Classical.choose h) else none
theorem val_some {α : Type} {f : Nat → Option α} {r : α} (h : val f = some r) : ∃ n, f n = some r := by
  unfold val at h
  split at h
  · exact ⟨_, h⟩
  · cases h
theorem val_of {α : Type} {f : Nat → Option α} (hm : ∀ n m r, n ≤ m → f n = some r → f m = some r) {n : Nat} {r : α} (h : f n = some r) : val f = some r := by
  unfold val
  have hex : ∃ n r, f n = some r := ⟨n, r, h⟩
  rw [dif_pos hex]
  obtain ⟨r', hr'⟩ := Classical.choose_spec hex
  have h1 := hm _ (max n (Classical.choose hex)) _ (Nat.le_max_right _ _) hr'
  have h2 := hm _ (max n (Classical.choose hex)) _ (Nat.le_max_left _ _) h
  rw [h1] at h2
  rw [hr', h2]

/-! ### Tables -/
structure MeetsO (P : Program) (f : FuncId) (o : Ora) : Prop where
  nat : Nat1 o
  meets : ∃ spec, Meets P f o.md o.na spec ∧ ∀ ds out, o.G ds some = some out → spec ds out
  fn : ∃ fn : Func, P.funcs[f]? = some fn ∧ fn.body.isNone = false ∧ (fn.name == "runtime.NumGoroutine") = false
theorem ook_list {P : Program} {l : List (FuncId × Ora)} {fk : Nat → Bool} (h : ∀ p ∈ l, MeetsO P p.1 p.2) : OOk P ⟨lk l, fk⟩ :=
  ⟨fun f o ho => (h _ (lk_mem ho)).nat, fun f o ho => (h _ (lk_mem ho)).meets, fun f o ho => (h _ (lk_mem ho)).fn⟩
theorem nat_list {l : List (FuncId × Ora)} (h : ∀ p ∈ l, Nat1 p.2) : ∀ f o, lk l f = some o → Nat1 o := fun _ _ ho => h _ (lk_mem ho)
def tlk (l : List (TypeId × TI)) (t : TypeId) : TI := (lk l t).getD ⟨.other, 0, []⟩
theorem tsok_list {P : Program} {l : List (TypeId × TI)} (h : ∀ p ∈ l, p.2.u ≠ .other ∧ TOk P p.1 p.2) : TsOk P (tlk l) := by
  refine ⟨fun t ht => ?_, fun t ht => ?_⟩
  · unfold tlk at *
    cases e : lk l t with
    | none => rw [e] at ht; exact absurd rfl ht
    | some i => exact (h _ (lk_mem e)).2
  · unfold tlk at *
    cases e : lk l t with
    | none => exact ⟨rfl, rfl⟩
    | some i =>
      rw [e] at ht
      exact absurd ht (h _ (lk_mem e)).1
end
end Go.BV

/-
  What a program's types are; parts of code; helpers for the printed texts.
-/
namespace Go.BV
section
variable {P : Program}

theorem info_size {t : TypeId} {n : Nat} (h : (P.info? t).map TypeInfo.size = some n) : ∃ inf, P.info? t = some inf ∧ inf.size = n := by
  cases e : P.info? t with
  | none => rw [e] at h; cases h
  | some i => rw [e] at h; injection h with h; exact ⟨i, rfl, h⟩
theorem tok_mk {t : TypeId} {u : TU} {n : Nat} {zero : List X} {z : Value} (h1 : (P.info? t).map TypeInfo.size = some n) (h2 : (P.info? t).bind TypeInfo.zero = some z) (h3 : ∀ g w, XsR g w zero z.cells.toList) (h4 : DescOk P t u) : TOk P t ⟨u, n, zero⟩ := by
  refine ⟨?_, h4⟩
  cases e : P.info? t with
  | none => rw [e] at h1; cases h1
  | some i =>
    rw [e] at h1 h2
    injection h1 with h1
    exact ⟨i, z, rfl, h1, h2, h3⟩
theorem zero_ints {k : IntKind} (w : World) (Z : Nat → Prop) (n i : Nat) (h : i < n) : SR w Z (((C.ints k []).zeros n).get i) (.int k 0) := by
  simp [C.zeros, C.get, SR, List.getD_eq_getElem?_getD, List.getElem?_replicate, h]
theorem zero_bools (w : World) (Z : Nat → Prop) (n i : Nat) (h : i < n) : SR w Z (((C.bools []).zeros n).get i) (.bool false) := by
  simp [C.zeros, C.get, SR, List.getD_eq_getElem?_getD, List.getElem?_replicate, h]
theorem zero_strs (w : World) (Z : Nat → Prop) (n i : Nat) (h : i < n) : SR w Z (((C.strs []).zeros n).get i) (.string .empty) := by
  simp [C.zeros, C.get, SR, List.getD_eq_getElem?_getD, List.getElem?_replicate, h]
theorem zero_rows (w : World) (Z : Nat → Prop) (n i : Nat) (h : i < n) : SR w Z (((C.rows []).zeros n).get i) (.slice none 0 0) := by
  have : ((C.rows []).zeros n).get i = .sl (.ints .i64 []) := by simp [C.zeros, C.get, List.getD_eq_getElem?_getD, List.getElem?_replicate, h]
  rw [this]
  exact ⟨none, 0, rfl, Nat.le_refl _, fun h => absurd h (by simp), fun ad h => by cases h⟩
theorem zero_orows (w : World) (Z : Nat → Prop) (n i : Nat) (h : i < n) : SR w Z (((C.orows []).zeros n).get i) (.slice none 0 0) := by
  have : ((C.orows []).zeros n).get i = .sl (.ints .i64 []) := by simp [C.zeros, C.get, List.getD_eq_getElem?_getD, List.getElem?_replicate, h]
  rw [this]
  exact ⟨none, 0, rfl, Nat.le_refl _, fun h => absurd h (by simp), fun ad h => by cases h⟩
theorem desc_slice {t e : TypeId} {c : C} {d : TypeDesc} {ze : Value} {b : Nat} (h1 : P.underlying t = some (.slice e)) (h2 : match c with | .ints k _ => P.underlying e = some (.int k) | _ => True) (h3 : P.underlying e = some d) (h3' : aggB d = false)
    (h4 : (P.info? e).map TypeInfo.size = some 1) (h5 : (P.info? e).map TypeInfo.bytes = some b) (hb : b ≤ 64) (h6 : (P.info? e).bind TypeInfo.zero = some ze) (h7 : ze.cells = #[ze]) (h7' : c.plain = true ∨ ze = .slice none 0 0) (h8 : ∀ w Z n i, i < n → SR w Z ((c.zeros n).get i) ze) : DescOk P t (.slice c) := by
  cases hi : P.info? e with
  | none => rw [hi] at h4; cases h4
  | some i =>
    rw [hi] at h4 h5 h6
    injection h4 with h4
    injection h5 with h5
    exact ⟨e, i, ze, h1, h2, ⟨d, h3, h3'⟩, hi, h4, by rw [h5]; exact hb, h6, h7, h7', h8⟩
def FldOk (P : Program) : List Field → List (Nat × Nat × Bool) → Prop
  | [], [] => True
  | f :: fs, (o, s, a) :: r => f.offset = o ∧ (P.info? f.type).map TypeInfo.size = some s ∧ (s == 0) = false ∧ (∃ d, P.underlying f.type = some d ∧ a = aggB d) ∧ FldOk P fs r
  | _, _ => False
theorem fld_get : ∀ {fs : List Field} {l : List (Nat × Nat × Bool)}, FldOk P fs l → fs.length = l.length ∧ ∀ (i off size : Nat) (ag : Bool), l[i]? = some (off, size, ag) → ∃ f inf d, fs[i]? = some f ∧ f.offset = off ∧ P.info? f.type = some inf ∧ inf.size = size ∧ size ≠ 0 ∧ P.underlying f.type = some d ∧ ag = aggB d
  | [], [], _ => ⟨rfl, fun i _ _ _ h => by simp at h⟩
  | f :: fs, (o, s, a) :: l, h => by
    obtain ⟨h1, h2, h3, ⟨d, h4, h5⟩, h6⟩ := h
    obtain ⟨q1, q2⟩ := fld_get h6
    refine ⟨by simp [q1], fun i off size ag hi => ?_⟩
    cases i with
    | zero =>
      simp at hi
      obtain ⟨rfl, rfl, rfl⟩ := hi
      obtain ⟨inf, h7, h8⟩ := info_size h2
      exact ⟨f, inf, d, rfl, h1, h7, h8, by simpa using h3, h4, h5⟩
    | succ i => exact q2 i off size ag (by simpa using hi)
  | [], _ :: _, h => h.elim
  | _ :: _, [], h => h.elim
theorem desc_struct {t : TypeId} {fields : Array Field} {l : List (Nat × Nat × Bool)} (h1 : P.underlying t = some (.struct fields)) (h2 : FldOk P fields.toList l) : DescOk P t (.struct l) := by
  obtain ⟨q1, q2⟩ := fld_get h2
  refine ⟨fields, h1, by simpa using q1, fun i off size ag hi => ?_⟩
  obtain ⟨f, inf, d, h3, h4⟩ := q2 i off size ag hi
  exact ⟨f, inf, d, by simpa using h3, h4⟩
end

def cS1 : Code → Code
  | .seq a _ => a
  | c => c
def cS2 : Code → Code
  | .seq _ b => b
  | c => c
def cB : Code → Code
  | .block _ c => c
  | c => c
def cL : Code → Code
  | .loop c => c
  | c => c
def cT : Code → Code
  | .cond _ a _ => a
  | c => c
def cE : Code → Code
  | .cond _ _ b => b
  | c => c
abbrev uu : V := .u (.x .undef)
end Go.BV

/-
  Arguments read as data are what the evaluator's functions are told; the law's row.
-/
namespace Go.BV
open Go.ChangeShapes Go.WideShapes Go.RowKit
section
variable {H : Type} {enc : TypeId × Value → H} {P : Program} {w : World} {base : Nat} {spare : Nat → Bool} {held : Bool} {env : Nat → Option Nat}

def InK (k : IntKind) (n : Int) : Prop := k.min ≤ n ∧ n ≤ k.max
theorem inK {k : IntKind} {n : Int} (h : (Lit.int k n).wf = true) : InK k n := by simpa [Lit.wf, InK] using h
def Old (w : World) (b : Nat) : Prop := b < w.heap.size
theorem SsR.nil' {Z : Nat → Prop} {cs : List Value} {o : Nat} (h : cs.length ≤ o) : SsR w Z [] (cs.drop o) := by rw [List.drop_eq_nil_of_le h]; trivial
theorem SsR.app {Z : Nat → Prop} : ∀ {a b : List S0} {u v : List Value}, SsR w Z a u → SsR w Z b v → SsR w Z (a ++ b) (u ++ v)
  | [], _, [], _, _, h => h
  | _ :: _, _, _ :: _, _, h, k => ⟨h.1, SsR.app h.2 k⟩
  | [], _, _ :: _, _, h, _ => h.elim
  | _ :: _, _, [], _, h, _ => h.elim
theorem SsR.glue {Z : Nat → Prop} {a b : List S0} {cs : List Value} {o n : Nat} (h : SsR w Z a ((cs.drop o).take n)) (k : SsR w Z b (cs.drop (o + n))) : SsR w Z (a ++ b) (cs.drop o) := by
  have := h.app k
  rwa [← List.drop_drop, List.take_append_drop] at this
theorem rd_int {t : TypeId} {k : IntKind} (ht : P.underlying t = some (.int k)) {fuel : Nat} {cs : List Value} {x : DataW H × List MemPlace} (h : DataW.trod enc P w base spare held fuel t cs = some x) : ∃ n, SsR w (Old w) [.int k n] cs ∧ InK k n := by
  obtain ⟨n, rfl, _, hw⟩ := DataW.trod_int ht h
  exact ⟨n, ⟨rfl, trivial⟩, inK hw⟩
theorem rd_bool {t : TypeId} (ht : P.underlying t = some .bool) {fuel : Nat} {cs : List Value} {x : DataW H × List MemPlace} (h : DataW.trod enc P w base spare held fuel t cs = some x) : ∃ n, SsR w (Old w) [.bool n] cs := by
  obtain ⟨n, rfl, _⟩ := DataW.trod_bool ht h
  exact ⟨n, rfl, trivial⟩
theorem rd_str {t : TypeId} (ht : P.underlying t = some .string) {fuel : Nat} {cs : List Value} {x : DataW H × List MemPlace} (h : DataW.trod enc P w base spare held fuel t cs = some x) : ∃ s : ByteArray, SsR w (Old w) [.str s] cs ∧ s.size ≤ maxLen := by
  obtain ⟨s, rfl, _, hs⟩ := DataW.trod_string ht h
  exact ⟨s, ⟨rfl, trivial⟩, hs⟩
theorem rd_ints {t e : TypeId} {k : IntKind} (ht : P.underlying t = some (.slice e)) (he : P.underlying e = some (.int k)) (hc : P.cellsOf e = 1) {fuel : Nat} {cs : List Value} {x : DataW H × List MemPlace} (h : DataW.trod enc P w base spare held fuel t cs = some x) :
    ∃ l : List Int, SsR w (Old w) [.sl (.ints k l)] cs ∧ (∀ z ∈ l, InK k z) ∧ l.length ≤ maxLen := by
  rcases DataW.trod_slice ht h with ⟨rfl, _⟩ | ⟨a, len, cap, elems, rest, n, _, rfl, _, _, hlc, hcap, hlen, hel, _⟩
  · exact ⟨[], ⟨⟨none, 0, rfl, Nat.le_refl _, fun h => absurd h (by simp), fun ad h => by cases h⟩, trivial⟩, fun z hz => (by cases hz), Nat.zero_le _⟩
  · have key : ∀ i, i < len → ∃ z, w.cell? (a.add i) = some (.int k z) ∧ InK k z := by
      intro i hi
      have h1 := hel i hi
      have h2 : elems[i]? = some elems[i] := List.getElem?_eq_getElem (by omega)
      rw [h2, hc, Nat.mul_one] at h1
      obtain ⟨cs', h3, h4⟩ := Option.bind_eq_some_iff.1 h1
      obtain ⟨z, rfl, _, hw⟩ := DataW.trod_int he h4
      obtain ⟨_, _, h5⟩ := World.cells?_some h3
      have := h5 0 (by omega)
      rw [show (a.add i).add 0 = a.add i by simp [Addr.add]] at this
      exact ⟨z, this, inK hw⟩
    let f : Nat → Int := fun i => if h : i < len then Classical.choose (key i h) else 0
    have hf : ∀ i, i < len → w.cell? (a.add i) = some (.int k (f i)) ∧ InK k (f i) := fun i hi => by
      have := Classical.choose_spec (key i hi)
      simpa [f, hi] using this
    refine ⟨(List.range len).map f, ⟨⟨some a, cap, ?_, ?_, fun hpos => ⟨a, rfl, ?_, ?_⟩, fun ad had i hi => ?_⟩, trivial⟩, fun z hz => ?_, ?_⟩
    · simp
    · simpa using hlc
    · have h0 := (hf 0 (by simpa using hpos)).1
      rw [show a.add 0 = a by simp [Addr.add]] at h0
      exact World.cell?_spot h0
    · have h0 := (hf 0 (by simpa using hpos)).1
      rw [show a.add 0 = a by simp [Addr.add]] at h0
      unfold World.cell? at h0
      show a.block < w.heap.size
      rcases Nat.lt_or_ge a.block w.heap.size with q | q
      · exact q
      · rw [Array.getElem?_eq_none q] at h0
        cases h0
    · injection had with had
      subst had
      have hi' : i < len := by simpa using hi
      exact ⟨_, (hf i hi').1, by simp [List.getD_eq_getElem?_getD, hi']⟩
    · obtain ⟨i, hi, rfl⟩ := List.mem_map.1 hz
      exact (hf i (by simpa using hi)).2
    · simp; omega

theorem ra_int {t : TypeId} {k : IntKind} (ht : P.underlying t = some (.int k)) {r : Reach} {b0 : Nat} {v : Value} {d : DataW H} {ps : List MemPlace} (hval : Value.okWide P w r b0 t v) (h : DataW.Trod enc P w base spare held t v d ps) : ∃ n, ReadD w (Old w) env (.x (.int k n)) v ∧ InK k n := by
  obtain ⟨m, rfl⟩ := okWide_int ht hval
  obtain ⟨fuel, hf⟩ := h
  obtain ⟨n, hs, hk⟩ := rd_int ht hf
  exact ⟨n, hs.1, hk⟩
theorem ra_str {t : TypeId} (ht : P.underlying t = some .string) {r : Reach} {b0 : Nat} {v : Value} {d : DataW H} {ps : List MemPlace} (hval : Value.okWide P w r b0 t v) (h : DataW.Trod enc P w base spare held t v d ps) : ∃ s : ByteArray, ReadD w (Old w) env (.x (.str s)) v ∧ s.size ≤ maxLen := by
  obtain ⟨m, rfl⟩ := okWide_string ht hval
  obtain ⟨fuel, hf⟩ := h
  obtain ⟨n, hs, hk⟩ := rd_str ht hf
  exact ⟨n, hs.1, hk⟩
theorem ra_ints {t e : TypeId} {k : IntKind} (ht : P.underlying t = some (.slice e)) (he : P.underlying e = some (.int k)) (hc : P.cellsOf e = 1) {r : Reach} {b0 : Nat} {v : Value} {d : DataW H} {ps : List MemPlace} (hval : Value.okWide P w r b0 t v) (h : DataW.Trod enc P w base spare held t v d ps) :
    ∃ l : List Int, ReadD w (Old w) env (.x (.sl (.ints k l))) v ∧ (∀ z ∈ l, InK k z) ∧ l.length ≤ maxLen := by
  obtain ⟨a, len, cap, rfl⟩ := okWide_slice ht hval
  obtain ⟨fuel, hf⟩ := h
  obtain ⟨l, hs, hk⟩ := rd_ints ht he hc hf
  exact ⟨l, hs.1, hk⟩
theorem arg_at {fn : Func} {r : Reach} {b0 : Nat} {args : List Value} (h : ∀ (j : Nat) t v, fn.params[j]? = some t → args.toArray[j]? = some v → Value.okWide P w r b0 t v) {j : Nat} {t : TypeId} {v : Value} (h1 : fn.params[j]? = some t) (h2 : args[j]? = some v) : Value.okWide P w r b0 t v := h j t v h1 (by simpa using h2)
theorem fld_some {α : Type} {n : Nat} {xs : List α} {i : Nat} {o : Option α} (h : o = xs[i]?) (hn : xs.length = n) (hi : i < n) : ∃ y, o = some y := ⟨xs[i]'(by omega), h.trans (List.getElem?_eq_getElem _)⟩
/-! ### The law's row -/
theorem calls_law {f : FuncId} {o : Ora} (hm : MeetsO P f o) {args : List Value} {dus : List DU} (hna : args.length ≤ o.na) (hr : ArgsR w (Old w) (envOf args) o.md dus args fun _ => False) (hG : o.G dus some = some ⟨[.x (.bool true)], []⟩) :
    Calls P f args.toArray w fun e w' => e = .returned (.bool true) ∧ Go.RowKit.Below w.heap.size w w' := by
  obtain ⟨spec, h1, h2⟩ := hm.meets
  have h3 := h1 w (Old w) args dus (fun _ => False) _ (fun b hb => ⟨hb, fun h => h⟩) (fun b h => h.elim) hr (h2 _ _ hG)
  rw [List.take_of_length_le hna] at h3
  refine h3.mono ?_
  rintro e w' ⟨v, rs, BR, BU, rfl, hp⟩
  refine ⟨?_, ⟨hp.os, hp.tape, hp.output, hp.size, fun b hb => hp.frame b hb fun h => h⟩⟩
  rw [hp.val]
  have := hp.res
  cases rs with
  | nil => exact this.elim
  | cons r rs => cases rs with
    | nil =>
      obtain ⟨b1, b2, _, _, h, _⟩ := this
      have h : r = .bool true := h.1
      rw [h]; rfl
    | cons => obtain ⟨_, _, _, _, _, h⟩ := this; exact h.elim
theorem trodAll_keep (hl : laidOutB P = true) {W W' : World} (hb : Go.RowKit.Below W.heap.size W W') : ∀ {ts : List TypeId} {vs : List Value} {ds : List (DataW H)} {p : List MemPlace}, (∀ t ∈ ts, P.readableRec t = true ∧ t < P.types.size) → (∀ x ∈ p, x.block < W.heap.size) →
    DataW.TrodAll enc P W 0 (fun _ => true) true ts vs ds p → DataW.TrodAll enc P W' 0 (fun b => decide (b < W.heap.size)) true ts vs ds p
  | [], [], [], p, _, _, h => h
  | t :: ts, v :: vs, d :: ds, p, hr, hlt, h => by
    obtain ⟨q1, q2, h1, h2, rfl⟩ := h
    have ht := hr t (List.mem_cons_self ..)
    exact ⟨q1, q2, Go.RowKit.Below.trod hl ht.1 ht.2 h1 hb (fun x hx => hlt x (List.mem_append_left _ hx)), trodAll_keep hl hb (fun t' h' => hr t' (List.mem_cons_of_mem _ h')) (fun x hx => hlt x (List.mem_append_right _ hx)) h2, rfl⟩
  | [], _ :: _, _, _, _, _, h => h.elim
  | [], [], _ :: _, _, _, _, h => h.elim
  | _ :: _, [], _, _, _, _, h => h.elim
  | _ :: _, _ :: _, [], _, _, _, h => h.elim
theorem trodAll_len : ∀ {ts : List TypeId} {vs : List Value} {ds : List (DataW H)} {p : List MemPlace}, DataW.TrodAll enc P w base spare held ts vs ds p → ds.length = ts.length
  | [], [], [], _, _ => rfl
  | _ :: _, _ :: _, _ :: _, _, h => by obtain ⟨_, _, _, h, _⟩ := h; simp [trodAll_len h]
  | [], _ :: _, _, _, h => h.elim
  | [], [], _ :: _, _, h => h.elim
  | _ :: _, [], _, _, h => h.elim
  | _ :: _, _ :: _, [], _, h => h.elim
theorem law_post {fn : Func} {s : ChangeSpec} {t : TypeId} {W W' : World} {args : Array Value} {ds gs : List (DataW H)} {before : List MemPlace} (hv : s.vars = []) (hs : ∀ (ds : List (DataW H)), ds.length = fn.params.size → s.fn H ds = ⟨[.lit (.bool true)], ds, []⟩)
    (hr : fn.resultTypes = #[t]) (ht : P.underlying t = some .bool) (hl : laidOutB P = true) (hrec : ∀ t ∈ fn.params.toList, P.readableRec t = true ∧ t < P.types.size)
    (hW : DataW.Whole enc P fn.params.toList s.vars false W args.toList ds gs before) (hb : Go.RowKit.Below W.heap.size W W') : s.post enc P fn false true false false W args (.bool true) W' := by
  have hlt := hW.lt
  have hW' := hW
  obtain ⟨p, q, hA, hV, rfl, _, _⟩ := hW
  rw [hv] at hV
  obtain ⟨rfl, rfl⟩ := trodVars_none hV
  have hlen : (ds ++ []).length = fn.params.size := by simpa using trodAll_len hA
  refine ⟨ds, [], _, [], p, [], hW', ?_, ?_, ?_, hb.frame _, fun h => by cases h⟩
  · rw [hs _ hlen, hr]
    exact ⟨[], [], shut_bool ht true, rfl, rfl⟩
  · rw [hs _ hlen]
    simp only [List.append_nil]
    exact trodAll_keep hl hb hrec (fun x hx => hlt x (by simp [hx])) hA
  · rw [hs _ hlen, hv]
    rfl
theorem law_lifted {C : Checked} {os : Os} {f : FuncId} {fn : Func} {s : ChangeSpec} {conds : List PathCond} {t : TypeId} {o : Ora} (own : ownKnob C.prog.godebug = none) (started : os.Started) (noInit : C.prog.inits.idxOf? f = none) (hfn : C.prog.funcs[f]? = some fn)
    (witness : ∃ (w : World) (tape : Tape) (i : Input), w.os = os ∧ (w.forCall tape i).Shaped C.prog ∧ i.vars = [] ∧ Input.okWide C.prog (w.forCall tape i) .any w.heap.size f i ∧
      s.pre6 enc C.prog fn conds false (w.forCall tape i).memory i.args ∧ ({} : Assume).holds C.prog (lone (Frame.enter C.prog f i.args .normal) [] (w.forCall tape i)))
    (hv : s.vars = []) (hs : ∀ (ds : List (DataW H)), ds.length = fn.params.size → s.fn H ds = ⟨[.lit (.bool true)], ds, []⟩)
    (hr : fn.resultTypes = #[t]) (ht : C.prog.underlying t = some .bool) (hl : laidOutB C.prog = true) (hrec : ∀ t ∈ fn.params.toList, C.prog.readableRec t = true ∧ t < C.prog.types.size) (hm : MeetsO C.prog f o)
    (hG : ∀ (W : World) (base : Nat) (args : Array Value) (ds : List (DataW H)) (p : List MemPlace), (∀ (j : Nat) t v, fn.params[j]? = some t → args[j]? = some v → Value.okWide C.prog W .any base t v) → DataW.TrodAll enc C.prog W 0 (fun _ => true) true fn.params.toList args.toList ds p → ∃ dus, args.toList.length ≤ o.na ∧ ArgsR W (Old W) (envOf args.toList) o.md dus args.toList (fun _ => False) ∧ o.G dus some = some ⟨[.x (.bool true)], []⟩) :
    ReturnsInHanded {} C os f .any (s.pre6 enc C.prog fn conds false) (s.post enc C.prog fn false true false false) := by
  refine returnsInHanded_of_change own started noInit hfn witness ?_
  intro W base args ds gs before hval hW _ _
  have hW2 := hW
  obtain ⟨p, q, hA, _⟩ := hW
  obtain ⟨dus, h0, h1, h2⟩ := hG W base args ds p hval hA
  have h3 := calls_law hm h0 h1 h2
  rw [Array.toArray_toList] at h3
  exact h3.mono fun e W' ⟨he, hb⟩ => ⟨_, he, law_post hv hs hr ht hl hrec hW2 hb⟩
end
end Go.BV

/-
  Plain helpers: numbers that fit, loops that test, loops that build.
-/
namespace Go.BV
theorem w64 {n : Int} (h0 : -9223372036854775808 ≤ n) (h1 : n ≤ 9223372036854775807) : IntKind.i64.wrap n = n := by
  simp only [IntKind.wrap, IntKind.bits, IntKind.signed, Bool.true_and]
  split
  · rename_i h
    have h : n % 2 ^ 64 ≥ 2 ^ (64 - 1) := by simpa using h
    omega
  · rename_i h
    have h : ¬ n % 2 ^ 64 ≥ 2 ^ (64 - 1) := by simpa using h
    omega
theorem in64 {n : Int} : InK .i64 n ↔ -9223372036854775808 ≤ n ∧ n ≤ 9223372036854775807 := by
  simp [InK, IntKind.min, IntKind.max, IntKind.signed, IntKind.bits]
/-- A loop that tests, with a state that it carries. -/
theorem chkS {σ β : Type} {F : Nat → Nat → σ → Option β} {len : Nat} {ok : Nat → Prop} {good : β} {bad : Nat → β} {Inv : Nat → σ → Prop}
    (hstep : ∀ n i s, i < len → Inv i s → (ok i ∧ ∃ s', Inv (i + 1) s' ∧ F (n + 1) i s = F n (i + 1) s') ∨ (¬ ok i ∧ F (n + 1) i s = some (bad i))) (hend : ∀ n s, Inv len s → F (n + 1) len s = some good) :
    ∀ (k i : Nat) (s : σ) (n : Nat), i + k = len → k < n → Inv i s → ((∀ j, i ≤ j → j < len → ok j) ∧ F n i s = some good) ∨ (∃ j, i ≤ j ∧ j < len ∧ ¬ ok j ∧ (∀ j', i ≤ j' → j' < j → ok j') ∧ F n i s = some (bad j))
  | 0, i, s, 0, _, h, _ => by omega
  | 0, i, s, n + 1, h, _, hi => by
    have : i = len := by omega
    subst this
    exact .inl ⟨fun j h1 h2 => by omega, hend n s hi⟩
  | k + 1, i, s, 0, _, h, _ => by omega
  | k + 1, i, s, n + 1, h, hk, hi => by
    rcases hstep n i s (by omega) hi with ⟨h1, s', h2, h3⟩ | ⟨h1, h2⟩
    · rcases chkS hstep hend k (i + 1) s' n (by omega) (by omega) h2 with ⟨h4, h5⟩ | ⟨j, h4, h5, h6, h7, h8⟩
      · refine .inl ⟨fun j q1 q2 => ?_, h3.trans h5⟩
        rcases Nat.eq_or_lt_of_le q1 with rfl | q
        · exact h1
        · exact h4 j q q2
      · refine .inr ⟨j, by omega, h5, h6, fun j' q1 q2 => ?_, h3.trans h8⟩
        rcases Nat.eq_or_lt_of_le q1 with rfl | q
        · exact h1
        · exact h7 j' q q2
    · exact .inr ⟨i, Nat.le_refl _, by omega, h1, fun j' q1 q2 => by omega, h2⟩
/-- The same without a state. -/
theorem chk {β : Type} {F : Nat → Nat → Option β} {len : Nat} {ok : Nat → Prop} {good : β} {bad : Nat → β}
    (hstep : ∀ n i, i < len → (ok i ∧ F (n + 1) i = F n (i + 1)) ∨ (¬ ok i ∧ F (n + 1) i = some (bad i))) (hend : ∀ n, F (n + 1) len = some good) :
    ((∀ j, j < len → ok j) ∧ F (len + 1) 0 = some good) ∨ (∃ j, j < len ∧ ¬ ok j ∧ (∀ j', j' < j → ok j') ∧ F (len + 1) 0 = some (bad j)) := by
  rcases chkS (σ := Unit) (F := fun n i _ => F n i) (Inv := fun _ _ => True) (fun n i s h _ => (hstep n i h).imp (fun h => ⟨h.1, (), trivial, h.2⟩) id) (fun n _ _ => hend n) len 0 () (len + 1) (by omega) (by omega) trivial with ⟨h1, h2⟩ | ⟨j, _, h1, h2, h3, h4⟩
  · exact .inl ⟨fun j h => h1 j (Nat.zero_le _) h, h2⟩
  · exact .inr ⟨j, h1, h2, fun j' h => h3 j' (Nat.zero_le _) h, h4⟩
/-- A loop that builds. -/
theorem bld {σ β : Type} {F : Nat → Nat → σ → Option β} {len : Nat} {out : σ → β} {Inv : Nat → σ → Prop}
    (hstep : ∀ n i s, i < len → Inv i s → ∃ s', Inv (i + 1) s' ∧ F (n + 1) i s = F n (i + 1) s') (hend : ∀ n s, Inv len s → F (n + 1) len s = some (out s)) :
    ∀ (k i : Nat) (s : σ) (n : Nat), i + k = len → k < n → Inv i s → ∃ s', Inv len s' ∧ F n i s = some (out s')
  | 0, i, s, 0, _, h, _ => by omega
  | 0, i, s, n + 1, h, _, hi => by
    have : i = len := by omega
    subst this
    exact ⟨s, hi, hend n s hi⟩
  | k + 1, i, s, 0, _, h, _ => by omega
  | k + 1, i, s, n + 1, h, hk, hi => by
    obtain ⟨s', h2, h3⟩ := hstep n i s (by omega) hi
    obtain ⟨s2, h4, h5⟩ := bld hstep hend k (i + 1) s' n (by omega) (by omega) h2
    exact ⟨s2, h4, h3.trans h5⟩
theorem getD_lt {α : Type} {l : List α} {i : Nat} {d : α} (h : i < l.length) : l.getD i d = l[i] := by simp [List.getD_eq_getElem?_getD, h]
theorem getD_set {α : Type} {s : List α} {j k : Nat} {x d : α} : (s.set j x).getD k d = if j = k ∧ j < s.length then x else s.getD k d := by
  rw [List.getD_eq_getElem?_getD, List.getD_eq_getElem?_getD, List.getElem?_set]
  by_cases h1 : j = k
  · subst h1
    by_cases h2 : j < s.length
    · simp [h2]
    · simp [h2]
  · simp [h1]
theorem getD_mem {l : List Int} {i : Nat} (h : i < l.length) : l.getD i 0 ∈ l := by rw [getD_lt h]; exact List.getElem_mem h
theorem mem_getD {l : List Int} {x : Int} : x ∈ l ↔ ∃ i, i < l.length ∧ l.getD i 0 = x := by
  constructor
  · intro h
    obtain ⟨i, hi, e⟩ := List.getElem_of_mem h
    exact ⟨i, hi, by rw [getD_lt hi]; exact e⟩
  · rintro ⟨i, hi, rfl⟩
    exact getD_mem hi
end Go.BV

/-
  Functions of the library that are met by contracts.
-/
namespace Go.BV
section
variable {P : Program}

/-- A row of one's own, of a library's contract. -/
theorem own_of {w' : World} {base n : Nat} {e : TypeId} {v : Value} {l : List Int} {Z : Nat → Prop} (h : w'.ownsRow base e 1 v n (l.map (Value.int .i64))) (hn : n = l.length) : OW w' Z v (.ints .i64 l) (fun b => v.ownBlock = some b) fun _ => undef := by
  subst hn
  obtain ⟨_, ⟨rfl, h0⟩ | ⟨g, cap, cur, rfl, _, h1, h2, _, h3, h4⟩⟩ := h
  · exact .inl ⟨rfl, h0⟩
  · refine .inr ⟨g, 0, cap, cur.toList, rfl, row_of_heap h1, by simp [h3], h2, rfl, fun i hi => ?_⟩
    have hi : i < l.length := hi
    refine ⟨.int .i64 (l.getD i 0), ?_, rfl⟩
    have h5 : (cur.toList.take (l.length * 1))[i]? = some (.int .i64 (l.getD i 0)) := by
      rw [h4]
      simp [List.getD_eq_getElem?_getD, hi]
    rw [List.getElem?_take_of_lt (by omega)] at h5
    rw [Nat.zero_add]
    exact h5
def cloneS (l : List Int) : Option (List Int) := if l.length ≤ 1099511627776 then some l else none
def cloneG {ρ : Type} : List DU → (Out → Option ρ) → Option ρ
  | [.x (.sl (.ints .i64 l))], K => (cloneS l).bind fun r => K ⟨[.x (.sl (.ints .i64 r))], []⟩
  | _, _ => none
def cloneO : Ora := ⟨[.val], 1, false, cloneG⟩
theorem clone_meets {f : FuncId} {fn : Func} {t : TypeId} (hf : P.funcs[f]? = some fn) (hb : fn.body.isNone = false) (hm : (fn.name == "runtime.NumGoroutine") = false)
    (h1 : ∀ (b off n c : Nat) (zs : List Int) (w : World), n ≤ zs.length → n * 8 ≤ 140737488355328 → (∀ j, j < zs.length → w.cell? ⟨b, off + j, none⟩ = some (.int .i64 (zs.getD j 0))) →
      Calls P f #[.slice (some ⟨b, off, none⟩) n c] w fun e w' => ∃ v', e = .returned v' ∧ w'.ownsRow w.heap.size t 1 v' n ((zs.take n).map (Value.int .i64)) ∧ v' ≠ .slice none 0 0 ∧ Go.RowKit.Below w.heap.size w w')
    (h2 : ∀ (n c : Nat) (w : World), Calls P f #[.slice none n c] w fun e w' => e = .returned (.slice none 0 0) ∧ w' = w)
    (h3 : ∀ (a : Addr) (c : Nat) (w : World), Calls P f #[.slice (some a) 0 c] w fun e w' => ∃ v', e = .returned v' ∧ w'.ownsRow w.heap.size t 1 v' 0 [] ∧ v' ≠ .slice none 0 0 ∧ Go.RowKit.Below w.heap.size w w') : MeetsO P f cloneO := by
  refine ⟨fun ρ ds K => ?_, ⟨fun ds out => ∃ l : List Int, ds = [.x (.sl (.ints .i64 l))] ∧ l.length ≤ 1099511627776 ∧ out = ⟨[.x (.sl (.ints .i64 l))], []⟩, fun w Z args ds B out hZ hB ha hs => ?_, fun ds out h => ?_⟩, ⟨fn, hf, hb, hm⟩⟩
  · show cloneG ds K = (cloneG ds some).bind K
    unfold cloneG
    split
    · rename_i l
      generalize cloneS _ = q
      cases q <;> rfl
    · rfl
  · obtain ⟨l, rfl, hl, rfl⟩ := hs
    match args, ha with
    | [v], ⟨hv, hnob⟩ =>
      have hv : CR w Z (.ints .i64 l) v := hv
      obtain ⟨a, cap, rfl, q1, q2, q3⟩ := hv
      have own : ∀ (v' : Value) (w' : World), w'.ownsRow w.heap.size t 1 v' l.length (l.map (Value.int .i64)) → Go.RowKit.Below w.heap.size w w' → ∃ u rs BR BU, Ending.returned v' = .returned u ∧ Post w Z [.val] [.x (.sl (.ints .i64 l))] [.slice a l.length cap] B ⟨[.x (.sl (.ints .i64 l))], []⟩ u w' rs BR BU := fun v' w' ho hbel => by
        refine ⟨v', [v'], fun b => v'.ownBlock = some b, fun _ => False, rfl, hbel.os, hbel.tape, hbel.output, hbel.size, fun b hb _ => hbel.block b hb, rfl, ⟨_, fun _ => False, ⟨fun b => by simp, fun _ _ h => h⟩, trivial, ⟨rfl, _, own_of ho rfl⟩, fun _ h => h⟩, fun b hb => ho.lt b hb, fun _ h => h, fun b h => h.elim, fun _ _ h => h⟩
      cases a with
      | none =>
        have h0 : l.length = 0 := by
          rcases Nat.eq_zero_or_pos l.length with h | h
          · exact h
          · obtain ⟨_, e, _⟩ := q2 h; cases e
        refine (h2 l.length cap w).mono ?_
        rintro e w' ⟨rfl, rfl⟩
        exact own _ _ ⟨by simp, .inl ⟨rfl, h0⟩⟩ (Go.RowKit.Below.refl _ _)
      | some ad =>
        rcases Nat.eq_zero_or_pos l.length with h0 | h0
        · rw [show (Value.slice (some ad) l.length cap) = .slice (some ad) 0 cap by rw [h0]]
          refine (h3 ad cap w).mono ?_
          rintro e w' ⟨v', rfl, ho, _, hbel⟩
          have hl0 : l = [] := List.length_eq_zero_iff.1 h0
          have := own v' w' (by rw [hl0]; exact ho) hbel
          rw [h0] at this
          exact this
        · obtain ⟨ad', e, hs, hz⟩ := q2 h0
          injection e with e
          subst e
          obtain ⟨b, off, sp⟩ := ad
          have hs : sp = none := hs
          subst hs
          refine (h1 b off l.length cap l w (Nat.le_refl _) (by omega) fun j hj => ?_).mono ?_
          · obtain ⟨u, hu, rfl⟩ := q3 _ rfl j hj
            rw [add_none] at hu
            exact hu
          · rintro e w' ⟨v', rfl, ho, _, hbel⟩
            rw [List.take_length] at ho
            exact own v' w' ho hbel
    | [], ha => exact ha.elim
    | _ :: _ :: _, ⟨_, ha⟩ => exact ha.elim
  · replace h : cloneG ds some = some out := h
    unfold cloneG at h
    split at h
    · rename_i l
      unfold cloneS at h
      split at h
      · rename_i hl
        injection h with h
        exact ⟨l, rfl, hl, h.symm⟩
      · cases h
    · cases h
end
end Go.BV

/-
  The library's sort of numbers, met by its contract.
-/
namespace Go.BV
section
variable {P : Program}
open Go.Sort

def sortL (l : List Int) : List Int := l.mergeSort fun x y => decide (x ≤ y)
theorem sortL_len (l : List Int) : (sortL l).length = l.length := by simp [sortL]
def sortS (l : List Int) : Option (List Int) := if l.length ≤ 1099511627776 then some (sortL l) else none
def sortG {ρ : Type} : List DU → (Out → Option ρ) → Option ρ
  | [.x (.sl (.ints .i64 l))], K => (sortS l).bind fun r => K ⟨[], [.x (.sl (.ints .i64 r))]⟩
  | _, _ => none
def sortO : Ora := ⟨[.wr], 1, false, sortG⟩
theorem sort_meets {f : FuncId} {fn : Func} (hf : P.funcs[f]? = some fn) (hb : fn.body.isNone = false) (hm : (fn.name == "runtime.NumGoroutine") = false)
    (h1 : ∀ (blk off cap : Nat) (zs : List Int) (w : World), Holds (Value.int .i64) w blk off zs.toArray → blk < w.heap.size → zs.length < 4611686018427387904 →
      Calls P f #[.slice (some ⟨blk, off, none⟩) zs.length cap] w fun e w' => e = .returned (.tuple #[]) ∧ ∃ n os, w' = grow (putRow (Value.int .i64) (Go.Sort.ahead w n) blk off (zs.mergeSort fun x y => decide (x ≤ y)).toArray) os)
    (h2 : ∀ (p : Option Addr) (cap : Nat) (w : World), Calls P f #[.slice p 0 cap] w fun e w' => e = .returned (.tuple #[]) ∧ w' = w) : MeetsO P f sortO := by
  refine ⟨fun ρ ds K => ?_, ⟨fun ds out => ∃ l : List Int, ds = [.x (.sl (.ints .i64 l))] ∧ l.length ≤ 1099511627776 ∧ out = ⟨[], [.x (.sl (.ints .i64 (sortL l)))]⟩, fun w Z args ds B out hZ hB ha hs => ?_, fun ds out h => ?_⟩, ⟨fn, hf, hb, hm⟩⟩
  · show sortG ds K = (sortG ds some).bind K
    unfold sortG
    split
    · rename_i l
      generalize sortS _ = q
      cases q <;> rfl
    · rfl
  · obtain ⟨l, rfl, hl, rfl⟩ := hs
    match args, ha with
    | [v], ⟨B1, B2, hsep, _, ⟨_, I, hv⟩, hnob⟩ =>
      have hv : OW w Z v (.ints .i64 l) B1 I := hv
      rcases hv with ⟨rfl, h0⟩ | ⟨b, off, cap, r, rfl, q1, q2, q3, q4, q5⟩
      · have hl0 : l = [] := List.length_eq_zero_iff.1 h0
        subst hl0
        refine (h2 none 0 w).mono ?_
        rintro e w' ⟨rfl, rfl⟩
        refine ⟨_, [], fun _ => False, B1, rfl, rfl, rfl, rfl, Nat.le_refl _, fun _ _ _ => rfl, rfl, fun b h => h.elim, fun b h => h.elim, ?_, fun b hb => ⟨.inl ((hsep.all b).2 (.inl hb)), hB b ((hsep.all b).2 (.inl hb))⟩, fun _ h _ => h⟩
        refine ⟨B1, fun _ => False, ⟨fun b => by simp, fun _ _ h => h⟩, trivial, ⟨rfl, I, .inl ⟨rfl, by simp [sortL, C.len]⟩⟩, fun _ h => h⟩
      · have q2 : off + cap ≤ r.length := q2
        have q3 : l.length ≤ cap := q3
        have q5 : ∀ i, i < l.length → ∃ u, r[off + i]? = some u ∧ u = .int .i64 (l.getD i 0) := q5
        have hbl := row_lt q1
        have hH : Holds (Value.int .i64) w b off l.toArray := fun j hj => by
          have hj : j < l.length := by simpa using hj
          obtain ⟨u, hu, rfl⟩ := q5 j hj
          refine ⟨?_, row_frozen q1 _⟩
          rw [row_cell q1, hu]
          simp [List.getD_eq_getElem?_getD, hj]
        refine (h1 b off cap l w hH hbl (by omega)).mono ?_
        rintro e w' ⟨rfl, n, os, rfl⟩
        obtain ⟨ty, hheap⟩ := row_heap q1
        let arr : Array Value := putCells (Value.int .i64) off (sortL l).toArray r.toArray
        have hrow : row (grow (putRow (Value.int .i64) (Go.Sort.ahead w n) b off (sortL l).toArray) os) b = some arr.toList := by
          refine row_of_heap (e := ty) ?_
          rw [heap_grow_old _ _ (by simpa using hbl)]
          show (w.heap.modify b _)[b]? = _
          rw [Array.getElem?_modify, if_pos rfl, hheap]
          rfl
        have hfr : ∀ b', b' < w.heap.size → b' ≠ b → (grow (putRow (Value.int .i64) (Go.Sort.ahead w n) b off (sortL l).toArray) os).heap[b']? = w.heap[b']? := fun b' hb' hne => by
          rw [heap_grow_old _ _ (by simpa using hb')]
          show (w.heap.modify b _)[b']? = _
          rw [Array.getElem?_modify, if_neg (fun e => hne e.symm)]
        have hsz : w.heap.size ≤ (grow (putRow (Value.int .i64) (Go.Sort.ahead w n) b off (sortL l).toArray) os).heap.size := by simp
        refine ⟨_, [], fun _ => False, B1, rfl, rfl, rfl, rfl, hsz, fun b' hb' hnb => hfr b' hb' (fun e => hnb (by rw [e]; exact (hsep.all b).2 (.inl q4))), rfl, fun b h => h.elim, fun b h => h.elim, ?_, fun b' hb' => ⟨.inl ((hsep.all b').2 (.inl hb')), Nat.lt_of_lt_of_le (hB b' ((hsep.all b').2 (.inl hb'))) hsz⟩, fun _ h _ => h⟩
        refine ⟨B1, fun _ => False, ⟨fun b => by simp, fun _ _ h => h⟩, trivial, ⟨rfl, I, .inr ⟨b, off, cap, arr.toList, by simp [C.len, sortL], hrow, ?_, ?_, q4, ?_⟩⟩, fun _ h => h⟩
        · simpa [arr, putCells] using q2
        · simpa [C.len, sortL] using q3
        · intro i hi
          have hi : i < (sortL l).length := hi
          have hi' : i < l.length := by rwa [sortL_len] at hi
          have hr : off + i < r.length := by omega
          refine ⟨_, ?_, rfl⟩
          simp only [arr, putCells, Array.getElem?_toList, Array.getElem?_mapIdx, List.getElem?_toArray, List.getElem?_eq_getElem hr, Option.map_some, List.size_toArray]
          rw [if_pos ⟨by omega, by omega⟩, show off + i - off = i by omega]
          simp [C.get, List.getD_eq_getElem?_getD, hi]
    | [], ha => exact ha.elim
    | _ :: _ :: _, ⟨_, _, _, _, _, ha⟩ => exact ha.elim
  · replace h : sortG ds some = some out := h
    unfold sortG at h
    split at h
    · rename_i l
      unfold sortS at h
      split at h
      · rename_i hl
        injection h with h
        exact ⟨l, rfl, hl, h.symm⟩
      · cases h
    · cases h
end
end Go.BV


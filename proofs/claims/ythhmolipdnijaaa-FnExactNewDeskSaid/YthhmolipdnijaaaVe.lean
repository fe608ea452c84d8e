/- Contracts of what has no text, and small ways with contracts. -/
import Derived.Test.YthhmolipdnijaaaVd
import Derived.Laws.Sem
import Derived.Laws.Externs
set_option linter.unusedVariables false
set_option linter.unusedSimpArgs false
set_option linter.unnecessarySimpa false
namespace Go.V
open Go.RowKit

section heads
variable {P : Program} {Γ : Tab} {N : Nat} {w0 : Base} {w : World} {E : Env} {H : Heap} {φ : Nat → Value} {a : Act}

/-- Memory that a callee hands back closed: it holds for any world that the caller goes on with. -/
theorem OkOp.call {d : Option Tmp} {f : Operand} {args : Array Operand} {tys : Array TypeId} {ty : TypeId} {pos : String} {af : Array Edge} {gd : Option (Nat × Bool)} {g : FuncId} {caps : List AV} {r : AV}
    (hc : callee E f = some (g, caps)) (h : Con P g ((args.toList.map fun x => view H 6 (avOf E x)) ++ caps.map (view H 6)) r []) : OkOp P E H ⟨d, .call ⟨.value f, args, tys⟩, ty, pos, af, gd⟩ r := by
  intro w0 w φ a hs hx
  have hf := hx f (by simp [Op.operands, Call.operands])
  rw [callee_spec hc] at hf
  simp only [Rel] at hf
  obtain ⟨us, h1, h2⟩ := hf
  refine calls_does h1 ((h w _ hs.keepAll ?_).mono ?_)
  · exact RelL.append (views_args hs _ fun x hx' => hx x (by simp [Op.operands, Call.operands] at hx' ⊢; exact .inr hx')) (views_rel hs 6 _ _ h2)
  · rintro v w' ⟨φr, hr, hv⟩
    have hb : Below w.heap.size w w' := ⟨hr.below.os, hr.below.tape, hr.below.output, hr.below.size, hr.below.block⟩
    have hsz := hs.below.size
    have F1 : ∀ b, Gr (Base.all w) φr [] b → Fr φ H b := fun b hg i hi hbk => by
      have := hs.block_lt hi hbk
      have h0 : w.heap.size ≤ b := hg.1
      omega
    exact ⟨hb, Rel.keep (Nat.le_refl _) (fun b hg _ => ⟨rfl, F1 b hg⟩) (fun b hg _ => ⟨rfl, w0.new b (Nat.le_trans hsz hg.1), F1 b hg⟩)
      ⟨fun _ h => (by cases h), fun _ _ _ _ h => (by cases h), fun _ _ h => (by cases h)⟩ _ _ hv⟩

theorem vhead_sound (hΓ : TabOK P Γ) {o : Oper} {K : AV → Prop} (h : vhead P Γ o E H K) : ∃ av, K av ∧ OkOp P E H o av := by
  obtain ⟨d, op, ty, pos, af, gd⟩ := o
  unfold vhead at h
  simp only at h
  split at h
  · rename_i f args tys
    cases hcc : callee E f with
    | none => rw [hcc] at h; exact h.elim
    | some p =>
      obtain ⟨g, caps⟩ := p
      rw [hcc] at h
      obtain ⟨r, h1, h2⟩ := h
      exact ⟨r, h2, OkOp.call hcc h1⟩
  · exact aop_sound hΓ (o := ⟨d, op, ty, pos, af, gd⟩) h

def Imp (H : Heap) (A B : Env) : Prop := ∀ (w : World) (F G : Nat → Prop) (φ : Nat → Value) (s : Nat) (u : Value), Rel w F G φ H (eget A s) u → Rel w F G φ H (eget B s) u

theorem Imp.cons {A B : Env} (h : Imp H A B) (d : Nat) (av : AV) : Imp H ((d, av) :: A) ((d, av) :: B) := by
  intro w F G φ s u hr
  rw [eget_cons] at hr ⊢
  split
  · rename_i e; rw [if_pos e] at hr; exact hr
  · rename_i e; rw [if_neg e] at hr; exact h _ _ _ _ _ _ hr

theorem Imp.refine {A B : Env} (h : Imp H A B) {s : Nat} {b : Bool} (hs : eget B s = .val (.bool b)) : Imp H A ((s, bif b then .tt else .ff) :: B) := by
  intro w F G φ t u hr
  have := h _ _ _ _ _ _ hr
  rw [eget_cons]
  split
  · rename_i e; subst e
    rw [hs] at this
    simp only [Rel] at this
    subst this
    cases b <;> simp only [cond_true, cond_false, Rel]
  · exact this

/-- What an operation that only reads comes to, in whatever world of the kind, with what it looks at. -/
structure HOk (P : Program) (N : Nat) (all : List Oper) (q : Bool) (o : Oper) (E : Env) (H : Heap) (d : Nat) (av : AV) : Prop where
  dst : o.dst = some d
  lt : d < N
  ok : ∀ (w0 : Base) (w : World) (φ : Nat → Value) (a : Act), Sim w0 w φ H → (∀ s ∈ o.looksAt all.toArray, Rel w (Fr φ H) (Gr w0 φ H) φ H (eget E s) (a.tmps.getD s undef)) →
    (Region.wanted o (yielded all.toArray a.tmps) = true → DoesV P o a w (fun v w' => Below w.heap.size w w' ∧ Rel w' (Fr φ H) (Gr w0 φ H) φ H av v)) ∧
    (Region.wanted o (yielded all.toArray a.tmps) = false → av = .val undef) ∧
    (q = true → o.guard = none ∧ ∃ v, (∀ w', (execOp a.eval o).run P w' = .ok (.value v) w') ∧ Rel w (Fr φ H) (Gr w0 φ H) φ H av v)

/-- What is quiet comes to one value in every world. -/
theorem vquiet_sound {o : Oper} {E : Env} {K : AV → Prop} (h : vquiet o E K) : ∃ av, K av ∧ ∀ (w0 : Base) (w : World) (φ : Nat → Value) (a : Act),
    (∀ x, x ∈ o.op.operands → Rel w (Fr φ H) (Gr w0 φ H) φ H (avOf E x) (a.eval x)) → ∃ v, (∀ w', (execOp a.eval o).run P w' = .ok (.value v) w') ∧ Rel w (Fr φ H) (Gr w0 φ H) φ H av v := by
  obtain ⟨d, op, ty, pos, af, gd⟩ := o
  unfold vquiet at h
  simp only at h
  split at h
  · rename_i x
    rw [force_eq] at h
    exact ⟨_, h, fun w0 w φ a hx => ⟨a.eval x, fun w' => rfl, hx x (by simp [Op.operands])⟩⟩
  · rename_i x
    rw [force_eq] at h
    exact ⟨_, h, fun w0 w φ a hx => ⟨a.eval x, fun w' => rfl, hx x (by simp [Op.operands])⟩⟩
  · rename_i op T x y T'
    split at h
    case h_2 => exact h.elim
    rename_i k a k' b e1 e2
    obtain ⟨n, hK, hrun⟩ := abinI_run (P := P) (T := T) h
    refine ⟨_, hK, fun w0 w φ act hx => ⟨n, fun w' => ?_, by simp only [Rel]⟩⟩
    have hx1 := hx x (by simp [Op.operands]); have hy1 := hx y (by simp [Op.operands])
    rw [e1] at hx1; rw [e2] at hy1; simp only [Rel] at hx1 hy1
    exact run_binop (by rw [hx1, hy1]; exact guard_int ..) (by rw [hx1, hy1]; exact hrun w')
  · exact h.elim

theorem operands_rel {all : List Oper} {o : Oper} (h : ∀ s ∈ o.looksAt all.toArray, Rel w (Fr φ H) (Gr w0 φ H) φ H (eget E s) (a.tmps.getD s undef)) (x : Operand) (hx : x ∈ o.op.operands) :
    Rel w (Fr φ H) (Gr w0 φ H) φ H (avOf E x) (a.eval x) := by
  cases x with
  | tmp t => exact h t (List.mem_append_left _ (List.mem_filterMap.2 ⟨.tmp t, by simpa using hx, rfl⟩))
  | const v => exact avC_rel v
  | global g => simp only [avOf, Rel]
  | func f => simp only [avOf, Rel]; exact ⟨[], rfl, rfl⟩

theorem vheads_spec (hΓ : TabOK P Γ) {all : List Oper} {qs : List Nat} {K : Env → Prop} : ∀ (l : List Oper) (i : Nat) (E Ep : Env), Imp H Ep E → vheads P Γ N all qs l i E H K →
    ∃ (L : List (Nat × AV)) (E' : Env), K E' ∧ L.length = l.length ∧ Imp H (L.reverse ++ Ep) E' ∧
      ∀ (k : Nat) (o : Oper), l[k]? = some o → ∃ d av, L[k]? = some (d, av) ∧ HOk P N all (nmem qs (i + k)) o ((L.take k).reverse ++ Ep) H d av
  | [], i, E, Ep, hi, h => ⟨[], E, h, rfl, hi, fun k o hk => by simp at hk⟩
  | o :: rest, i, E, Ep, hi, h => by
    have fin : ∀ (E1 : Env) (av : AV), Imp H Ep E1 → (match o.dst with
        | some d => bif Nat.blt d N then vheads P Γ N all qs rest (i + 1) ((d, av) :: E1) H K else False
        | none => False) → (∀ d, o.dst = some d → d < N → HOk P N all (nmem qs i) o Ep H d av) →
        ∃ (L : List (Nat × AV)) (E' : Env), K E' ∧ L.length = (o :: rest).length ∧ Imp H (L.reverse ++ Ep) E' ∧
          ∀ (k : Nat) (p : Oper), (o :: rest)[k]? = some p → ∃ d av, L[k]? = some (d, av) ∧ HOk P N all (nmem qs (i + k)) p ((L.take k).reverse ++ Ep) H d av := by
      intro E1 av h1 h2 h3
      cases hd : o.dst with
      | none => rw [hd] at h2; exact h2.elim
      | some d =>
        rw [hd] at h2
        cases hb : Nat.blt d N
        · simp only [hb, cond_false] at h2
        · simp only [hb, cond_true] at h2
          obtain ⟨L, E', k1, k2, k3, k4⟩ := vheads_spec hΓ rest (i + 1) _ ((d, av) :: Ep) (h1.cons d av) h2
          refine ⟨(d, av) :: L, E', k1, by simp [k2], by simpa using k3, fun k p hk => ?_⟩
          cases k with
          | zero =>
            simp only [List.getElem?_cons_zero, Option.some.injEq] at hk
            subst hk
            exact ⟨d, av, rfl, h3 d hd (blt_lt hb)⟩
          | succ k =>
            obtain ⟨d', av', g1, g2⟩ := k4 k p (by simpa using hk)
            rw [show i + 1 + k = i + (k + 1) by omega] at g2
            exact ⟨d', av', by simpa using g1, by simpa using g2⟩
    have sub : ∀ {E1 : Env}, Imp H Ep E1 → ∀ {w0 : Base} {w : World} {φ : Nat → Value} {a : Act}, (∀ s ∈ o.looksAt all.toArray, Rel w (Fr φ H) (Gr w0 φ H) φ H (eget Ep s) (a.tmps.getD s undef)) →
        ∀ s ∈ o.looksAt all.toArray, Rel w (Fr φ H) (Gr w0 φ H) φ H (eget E1 s) (a.tmps.getD s undef) := fun h1 _ _ _ _ h2 s hs => h1 _ _ _ _ _ _ (h2 s hs)
    unfold vheads at h
    simp only at h
    split at h
    · rename_i hg
      have hwf : ∀ {a : Act}, Region.wanted o (yielded all.toArray a.tmps) = true := by intro a; simp only [Region.wanted, hg]
      cases hq : nmem qs i
      · rw [hq, cond_false] at h
        obtain ⟨av, h1, h2⟩ := vhead_sound hΓ h
        refine fin E av hi h1 fun d hd hlt => ⟨hd, hlt, fun w0 w φ a hs hx => ⟨fun _ => h2 w0 w φ a hs (operands_rel (sub hi hx)), fun hw => ?_, fun hq' => ?_⟩⟩
        · rw [hwf] at hw; cases hw
        · rw [hq] at hq'; cases hq'
      · rw [hq, cond_true] at h
        obtain ⟨av, h1, h2⟩ := vquiet_sound (P := P) (H := H) h
        refine fin E av hi h1 fun d hd hlt => ⟨hd, hlt, fun w0 w φ a hs hx => ?_⟩
        obtain ⟨v, e1, e2⟩ := h2 w0 w φ a (operands_rel (sub hi hx))
        exact ⟨fun _ => DoesV.value (e1 w) ⟨Below.refl _ _, e2⟩, fun hw => (by rw [hwf] at hw; cases hw), fun _ => ⟨hg, v, e1, e2⟩⟩
    · rename_i j want hg
      cases hq : nmem qs i
      case true => rw [hq, cond_true] at h; exact h.elim
      rw [hq, cond_false] at h
      have noq : ∀ {X : Prop}, nmem qs i = true → X := fun hq' => by rw [hq] at hq'; cases hq'
      split at h
      · exact h.elim
      · rename_i s hs
        have hin : s ∈ o.looksAt all.toArray := by
          have hb : (all[j]?).bind (·.dst) = some s := hs
          simp [Oper.looksAt, hg, hb]
        have key : ∀ (t : Bool) (E1 : Env), Imp H Ep E1 → (∀ (w : World) (F G : Nat → Prop) (φ : Nat → Value) (u : Value), Rel w F G φ H (eget Ep s) u → u = .bool t) →
            ((t = want ∧ vhead P Γ o E1 H fun av => match o.dst with
              | some d => bif Nat.blt d N then vheads P Γ N all qs rest (i + 1) ((d, av) :: E1) H K else False
              | none => False) ∨ (t ≠ want ∧ (match o.dst with
              | some d => bif Nat.blt d N then vheads P Γ N all qs rest (i + 1) ((d, .val undef) :: E1) H K else False
              | none => False))) →
            ∃ (L : List (Nat × AV)) (E' : Env), K E' ∧ L.length = (o :: rest).length ∧ Imp H (L.reverse ++ Ep) E' ∧
              ∀ (k : Nat) (p : Oper), (o :: rest)[k]? = some p → ∃ d av, L[k]? = some (d, av) ∧ HOk P N all (nmem qs (i + k)) p ((L.take k).reverse ++ Ep) H d av := by
          intro t E1 h1 ht h2
          have hw : ∀ {w0 : Base} {w : World} {φ : Nat → Value} {a : Act}, (∀ s ∈ o.looksAt all.toArray, Rel w (Fr φ H) (Gr w0 φ H) φ H (eget Ep s) (a.tmps.getD s undef)) →
              Region.wanted o (yielded all.toArray a.tmps) = (t == want) := fun hx => wanted_of hg hs (ht _ _ _ _ _ (hx s hin))
          rcases h2 with ⟨rfl, h2⟩ | ⟨h3, h2⟩
          · obtain ⟨av, k1, k2⟩ := vhead_sound hΓ h2
            refine fin E1 av h1 k1 fun d hd hlt => ⟨hd, hlt, fun w0 w φ a hs hx => ⟨fun _ => k2 w0 w φ a hs (operands_rel (sub h1 hx)), fun hwf => ?_, noq⟩⟩
            rw [hw hx] at hwf
            simp at hwf
          · refine fin E1 (.val undef) h1 h2 fun d hd hlt => ⟨hd, hlt, fun w0 w φ a hs hx => ⟨fun hwt => ?_, fun _ => rfl, noq⟩⟩
            rw [hw hx] at hwt
            simp at hwt
            exact absurd hwt h3
        split at h
        · rename_i e
          exact key true E hi (fun w F G φ u hu => by have := hi _ _ _ _ _ _ hu; rw [e] at this; simpa only [Rel] using this)
            (by cases want <;> first | exact .inl ⟨rfl, h⟩ | exact .inr ⟨by simp, h⟩)
        · rename_i e
          exact key false E hi (fun w F G φ u hu => by have := hi _ _ _ _ _ _ hu; rw [e] at this; simpa only [Rel] using this)
            (by cases want <;> first | exact .inl ⟨rfl, h⟩ | exact .inr ⟨by simp, h⟩)
        · rename_i b e
          have hb : ∀ (w : World) (F G : Nat → Prop) (φ : Nat → Value) (u : Value), Rel w F G φ H (eget Ep s) u → u = .bool b := fun w F G φ u hu => by
            have := hi _ _ _ _ _ _ hu; rw [e] at this; simpa only [Rel] using this
          cases b
          · have h := h.2 rfl
            exact key false _ (hi.refine e) hb (by cases want <;> first | exact .inl ⟨rfl, h⟩ | exact .inr ⟨by simp, h⟩)
          · have h := h.1 rfl
            exact key true _ (hi.refine e) hb (by cases want <;> first | exact .inl ⟨rfl, h⟩ | exact .inr ⟨by simp, h⟩)
        · rename_i cs e
          have hw : ∀ {w0 : Base} {w : World} {φ : Nat → Value} {a : Act}, (∀ s ∈ o.looksAt all.toArray, Rel w (Fr φ H) (Gr w0 φ H) φ H (eget Ep s) (a.tmps.getD s undef)) →
              Region.wanted o (yielded all.toArray a.tmps) = false := fun hx => unwanted_of hg hs (by
            have := hi _ _ _ _ _ _ (hx s hin); rw [e] at this; simpa only [Rel] using this)
          refine fin E (.val undef) hi h fun d hd hlt => ⟨hd, hlt, fun w0 w φ a hs hx => ⟨fun hwt => ?_, fun _ => rfl, noq⟩⟩
          rw [hw hx] at hwt
          cases hwt
        · exact h.elim
end heads

/-! ### The orders -/

def unl (n : Nat) (listed : Array Bool) : Nat := (List.range n).countP fun i => !listed.getD i true

theorem unl_set {listed : Array Bool} {i : Nat} (hs : i < listed.size) (hl : listed.getD i true = false) : ∀ n, i < n → unl n (listed.setIfInBounds i true) + 1 = unl n listed
  | 0, h => by omega
  | n + 1, h => by
    have same : ∀ m, m ≤ i → unl m (listed.setIfInBounds i true) = unl m listed := fun m hm => by
      unfold unl
      exact List.countP_congr fun j hj => by
        have := List.mem_range.1 hj
        rw [getD_set_ne true (by omega)]
    unfold unl
    rw [List.range_succ, List.countP_append, List.countP_append]
    by_cases e : i = n
    · subst e
      have h1 := same i (Nat.le_refl _)
      unfold unl at h1
      rw [h1]
      have h2 : (listed.setIfInBounds i true).getD i true = true := by simp [hs]
      simp only [List.countP_cons, List.countP_nil, h2, hl]
      simp
    · have ih := unl_set hs hl n (by omega)
      unfold unl at ih
      have h2 : (listed.setIfInBounds i true).getD n true = listed.getD n true := getD_set_ne true e
      simp only [List.countP_cons, List.countP_nil, h2]
      omega

theorem unl_zero {listed : Array Bool} : ∀ {n : Nat}, unl n listed = 0 → ∀ i, i < n → listed.getD i true = true := fun {n} h i hi => by
  have := List.countP_eq_zero.1 h i (List.mem_range.2 hi)
  simpa using this

theorem unl_pos {listed : Array Bool} {n : Nat} (h : unl n listed ≠ 0) : ∃ i, i < n ∧ listed.getD i true = false ∧ ∀ j, j < i → listed.getD j true = true := by
  have h1 : ∃ i, i < n ∧ listed.getD i true = false := by
    have := List.countP_pos_iff.1 (Nat.pos_of_ne_zero h)
    obtain ⟨i, h2, h3⟩ := this
    exact ⟨i, List.mem_range.1 h2, by simpa using h3⟩
  have least : ∀ m, (∃ i, i < m ∧ i < n ∧ listed.getD i true = false) → ∃ i, i < n ∧ listed.getD i true = false ∧ ∀ j, j < i → listed.getD j true = true := by
    intro m
    induction m with
    | zero => rintro ⟨i, h, _⟩; omega
    | succ m ih =>
      rintro ⟨i, h1, h2, h3⟩
      by_cases hm : ∃ i, i < m ∧ i < n ∧ listed.getD i true = false
      · exact ih hm
      · refine ⟨i, h2, h3, fun j hj => ?_⟩
        cases e : listed.getD j true with
        | true => rfl
        | false => exact absurd ⟨j, by omega, by omega, e⟩ hm
  obtain ⟨i, h2, h3⟩ := h1
  exact least n ⟨i, h2, h2, h3⟩

theorem eget_append : ∀ (A B : Env) (s : Nat), (∀ p ∈ A, p.1 ≠ s) → eget (A ++ B) s = eget B s
  | [], _, _, _ => rfl
  | (t, a) :: A, B, s, h => by
    rw [List.cons_append, eget_cons, if_neg (h (t, a) (by simp))]
    exact eget_append A B s fun p hp => h p (by simp [hp])

theorem eget_found : ∀ (A B : Env) (s : Nat) (av : AV), (s, av) ∈ A → (∀ av', (s, av') ∈ A → av' = av) → eget (A ++ B) s = av
  | [], _, _, _, h, _ => by simp at h
  | (t, a) :: A, B, s, av, h, hu => by
    rw [List.cons_append, eget_cons]
    by_cases e : t = s
    · subst e
      rw [if_pos rfl]
      exact hu a (by simp)
    · rw [if_neg e]
      refine eget_found A B s av ?_ fun av' h' => hu av' (by simp [h'])
      simp only [List.mem_cons, Prod.mk.injEq] at h
      rcases h with ⟨rfl, _⟩ | h
      · exact absurd rfl e
      · exact h

/-- What the check of the order says. -/
structure DOk (ops : List Oper) (n : Nat) (qs : List Nat) : Prop where
  back : ∀ (i : Nat) (o : Oper), ops[i]? = some o → ∀ e ∈ o.after, Region.binds .any e = true → e.on < i
  apart : ∀ (i j : Nat) (o p : Oper) (d : Tmp), i < n → ops[i]? = some o → ops[j]? = some p → j ≠ i → p.dst = some d → p.dst ≠ o.dst ∧ (d ∈ o.looksAt ops.toArray → if j < i then waitsB o j = true else waitsB p i = true)
  self : ∀ (i : Nat) (o : Oper) (d : Tmp), i < n → ops[i]? = some o → o.dst = some d → d ∉ o.looksAt ops.toArray
  tail : n = ops.length ∨ (n < ops.length ∧ (∀ i, i < n → nmem qs i = true ∨ ∃ j, j ≤ n ∧ i < j ∧ Region.waitsFor .any ops.toArray j i = true) ∧ Region.chainB .any ops.toArray n = true)
  seq : Region.seqB .any ops.toArray (ops.length - n) n (Array.replicate n true ++ Array.replicate (ops.length - n) false) = true
  nosel : Region.noSelect ops.toArray = true
  quiet : qfree ops.toArray n qs (Array.replicate ops.length false) = true

theorem dB_spec {ops : List Oper} {n : Nat} {qs : List Nat} (h : dB ops.toArray n qs = true) : DOk ops n qs := by
  unfold dB at h
  simp only [Bool.and_eq_true, List.size_toArray] at h
  obtain ⟨⟨⟨⟨h1, h2⟩, h3⟩, h4⟩, h5⟩ := h
  have at_ : ∀ (i : Nat) (o : Oper), ops[i]? = some o → _ := fun i o ho => by
    have hi : i < ops.length := by
      rcases Nat.lt_or_ge i ops.length with h | h
      · exact h
      · rw [List.getElem?_eq_none h] at ho; cases ho
    have := List.all_eq_true.1 h1 i (List.mem_range.2 hi)
    have ho' : (ops.toArray)[i]? = some o := by simpa using ho
    simp only [ho', Bool.and_eq_true] at this
    exact this
  refine ⟨fun i o ho e he hb => ?_, fun i j o p d hi ho hp hj hd => ?_, fun i o d hi ho hd => ?_, ?_, h3, h4, h5⟩
  · have := (Array.all_eq_true_iff_forall_mem.1 (at_ i o ho).1) e he
    simp only [hb, Bool.not_true, Bool.false_or, decide_eq_true_eq] at this
    exact this
  · have := (at_ i o ho).2
    simp only [Bool.or_eq_true, decide_eq_true_eq, Bool.and_eq_true] at this
    rcases this with h | ⟨h, _⟩
    · omega
    · have hjl : j < ops.length := by
        rcases Nat.lt_or_ge j ops.length with h | h
        · exact h
        · rw [List.getElem?_eq_none h] at hp; cases hp
      have h4 := List.all_eq_true.1 h j (List.mem_range.2 hjl)
      have hp' : (ops.toArray)[j]? = some p := by simpa using hp
      have hji : (j == i) = false := by simpa using hj
      simp only [hp', hd, hji, Bool.false_or, Bool.and_eq_true, bne_iff_ne] at h4
      refine ⟨by rw [hd]; exact h4.1, fun hin => ?_⟩
      have h5 := h4.2
      simp only [Bool.or_eq_true, Bool.not_eq_true', List.contains_eq_mem, decide_eq_false_iff_not] at h5
      rcases h5 with h5 | h5
      · exact absurd hin h5
      · by_cases hc : j < i
        · rw [if_pos hc] at h5 ⊢; exact h5
        · rw [if_neg hc] at h5 ⊢; exact h5
  · have := (at_ i o ho).2
    simp only [Bool.or_eq_true, decide_eq_true_eq, Bool.and_eq_true] at this
    rcases this with h | ⟨_, h⟩
    · omega
    · rw [hd] at h
      simpa using h
  · simp only [Bool.or_eq_true, beq_iff_eq, Bool.and_eq_true, decide_eq_true_eq] at h2
    rcases h2 with h | ⟨⟨h, h'⟩, h''⟩
    · exact .inl h
    · refine .inr ⟨h, fun i hi => ?_, h''⟩
      have := List.all_eq_true.1 h' i (List.mem_range.2 hi)
      simp only [Bool.or_eq_true, List.any_eq_true, List.mem_range, Bool.and_eq_true, decide_eq_true_eq] at this
      rcases this with h | ⟨j, h1, h2, h3⟩
      · exact .inl h
      · exact .inr ⟨j, by omega, h2, h3⟩

theorem waitsB_spec {o : Oper} {i : Nat} (h : waitsB o i = true) : ∃ e ∈ o.after, Region.binds .any e = true ∧ e.on = i := by
  unfold waitsB at h
  obtain ⟨e, he, hb⟩ := Array.any_eq_true'.1 h
  simp only [Bool.and_eq_true, beq_iff_eq] at hb
  exact ⟨e, he, hb.1, hb.2⟩

structure DInv (P : Program) (N : Nat) (w0 : Base) (ops : List Oper) (n : Nat) (E : Env) (H : Heap) (φ : Nat → Value) (L : List (Nat × AV)) (listed : Array Bool) (a : Act) (w : World) : Prop where
  head : HeadInv .any ops.toArray n listed
  sim : Sim w0 w φ H
  defers : a.defers = []
  size : a.tmps.size = N
  gh : RelL w (Fr φ H) (Gr w0 φ H) φ H w0.ga w0.gv
  new : ∀ (k d : Nat) (av : AV), L[k]? = some (d, av) → listed.getD k false = true → Rel w (Fr φ H) (Gr w0 φ H) φ H av (a.tmps.getD d undef)
  old : ∀ s, (∀ (k : Nat) (av : AV), L[k]? = some (s, av) → listed.getD k false = false) → Rel w (Fr φ H) (Gr w0 φ H) φ H (eget E s) (a.tmps.getD s undef)

section orders
variable {P : Program} {N : Nat} {w0 : Base} {w : World} {E : Env} {H : Heap} {φ : Nat → Value} {a : Act} {ops : List Oper} {n : Nat} {qs : List Nat} {L : List (Nat × AV)} {Q : Exit → Act → World → Prop}

abbrev HOks (P : Program) (N : Nat) (ops : List Oper) (n : Nat) (qs : List Nat) (E : Env) (H : Heap) (L : List (Nat × AV)) : Prop :=
  ∀ (k : Nat) (o : Oper), k < n → ops[k]? = some o → ∃ d av, L[k]? = some (d, av) ∧ HOk P N ops (nmem qs k) o ((L.take k).reverse ++ E) H d av

theorem opOf (hn : n ≤ ops.length) : ∀ k, k < n → ∃ o, ops[k]? = some o := fun k hk => ⟨_, List.getElem?_eq_getElem (by omega)⟩

theorem uniqL (hn : n ≤ ops.length) (hB : DOk ops n qs) (hL : L.length = n) (hok : HOks P N ops n qs E H L) : ∀ (j k d : Nat) (av av' : AV), L[j]? = some (d, av) → L[k]? = some (d, av') → j = k := by
  intro j k d av av' hj hk
  have hjn : j < n := by rw [← hL]; exact (List.getElem?_eq_some_iff.1 hj).1
  have hkn : k < n := by rw [← hL]; exact (List.getElem?_eq_some_iff.1 hk).1
  obtain ⟨oj, hoj⟩ := opOf hn j hjn
  obtain ⟨ok, hok'⟩ := opOf hn k hkn
  obtain ⟨d1, av1, e1, h1⟩ := hok j oj hjn hoj
  obtain ⟨d2, av2, e2, h2⟩ := hok k ok hkn hok'
  rw [hj] at e1; cases e1
  rw [hk] at e2; cases e2
  by_cases e : j = k
  · exact e
  · have := (hB.apart k j ok oj d hkn hok' hoj e h1.dst).1
    rw [h1.dst, h2.dst] at this
    exact absurd rfl this

theorem listedB {ops : List Oper} {listed : Array Bool} {i : Nat} (hs : listed.size = ops.length) (hi : i < ops.length) : listed.getD i true = true ↔ listed.getD i false = true := by
  have : i < listed.size := by omega
  simp [this]

/-- What an operation that is ready looks at is as the walk has it. -/
theorem DInv.look (hn : n ≤ ops.length) (hB : DOk ops n qs) (hL : L.length = n) (hok : HOks P N ops n qs E H L) {listed : Array Bool} (inv : DInv P N w0 ops n E H φ L listed a w)
    {i : Nat} {o : Oper} (hin : i < n) (ho : ops[i]? = some o) (hi : i ∈ Region.ready .any ops.toArray listed) :
    ∀ s ∈ o.looksAt ops.toArray, Rel w (Fr φ H) (Gr w0 φ H) φ H (eget ((L.take i).reverse ++ E) s) (a.tmps.getD s undef) := by
  obtain ⟨hun, o', ho', hall⟩ := mem_ready.1 hi
  have : o' = o := by
    have : ops[i]? = some o' := by simpa using ho'
    rw [ho] at this; cases this; rfl
  subst this
  have hnot : listed.getD i false = false := getD_both hun
  have uniq := uniqL hn hB hL hok
  intro s hs
  by_cases hj : ∃ (j : Nat) (av' : AV), j < i ∧ L[j]? = some (s, av')
  · obtain ⟨j, av', hji, hj⟩ := hj
    have hjn : j < n := by omega
    obtain ⟨p, hp⟩ := opOf hn j hjn
    obtain ⟨d2, av2, e2, h2⟩ := hok j p hjn hp
    rw [hj] at e2; cases e2
    have hw := (hB.apart i j o' p s hin ho hp (by omega) h2.dst).2 hs
    rw [if_pos hji] at hw
    obtain ⟨e, he, hb, hon⟩ := waitsB_spec hw
    have hlj := hall e he hb
    rw [hon] at hlj
    rw [eget_found _ E s av' (by
        rw [List.mem_reverse]
        exact List.mem_of_getElem? (i := j) (by rw [List.getElem?_take_of_lt hji]; exact hj)) (fun av'' h' => by
      rw [List.mem_reverse] at h'
      obtain ⟨k', hk'⟩ := List.mem_iff_getElem?.1 h'
      have hk2 : L[k']? = some (s, av'') := by
        rw [List.getElem?_take] at hk'
        split at hk'
        · exact hk'
        · cases hk'
      have := uniq j k' s av' av'' hj hk2
      subst this
      rw [hj] at hk2; cases hk2; rfl)]
    exact inv.new j s av' hj hlj
  · rw [eget_append _ _ _ fun p hp he => by
      rw [List.mem_reverse] at hp
      obtain ⟨k, hk⟩ := List.mem_iff_getElem?.1 hp
      rw [List.getElem?_take] at hk
      split at hk
      · rename_i hki; exact hj ⟨k, p.2, hki, by rw [hk, ← he]⟩
      · cases hk]
    refine inv.old s fun k av' hk => ?_
    have hkn : k < n := by rw [← hL]; exact (List.getElem?_eq_some_iff.1 hk).1
    obtain ⟨p, hp⟩ := opOf hn k hkn
    obtain ⟨d2, av2, e2, h2⟩ := hok k p hkn hp
    rw [hk] at e2; cases e2
    have hki : ¬ k < i := fun h => hj ⟨k, av', h, hk⟩
    by_cases hke : k = i
    · subst hke; exact hnot
    · have hw := (hB.apart i k o' p s hin ho hp hke h2.dst).2 hs
      rw [if_neg hki] at hw
      obtain ⟨e, he, hb, hon⟩ := waitsB_spec hw
      cases hl : listed.getD k false with
      | false => rfl
      | true =>
        have := inv.head.closed k p (by simpa using hp) hl e he hb
        rw [hon, hnot] at this
        cases this

theorem DInv.step (hn : n ≤ ops.length) (hB : DOk ops n qs) (hL : L.length = n) (hok : HOks P N ops n qs E H L) {listed : Array Bool} (inv : DInv P N w0 ops n E H φ L listed a w)
    {i d : Nat} {o : Oper} {av : AV} {q : Bool} {A : Env} (hin : i < n) (hi : i ∈ Region.ready .any ops.toArray listed) (hLi : L[i]? = some (d, av)) (hO : HOk P N ops q o A H d av)
    {v : Value} {w' : World} (hb : Below w.heap.size w w') (hv : Rel w' (Fr φ H) (Gr w0 φ H) φ H av v) : DInv P N w0 ops n E H φ L (listed.setIfInBounds i true) (a.put o.dst v) w' := by
  have hsz : listed.size = ops.length := by simpa using inv.head.size
  have uniq := uniqL hn hB hL hok
  have hd : d < a.tmps.size := by rw [inv.size]; exact hO.lt
  refine ⟨inv.head.set hi hin, inv.sim.ext hb, ?_, ?_, RelL.keep hb.size (keeps_below _ hb) (keeps_below _ hb) (HKeeps.refl _ _) _ _ inv.gh, ?_, ?_⟩
  · rw [hO.dst]; exact inv.defers
  · rw [hO.dst]; simp [Act.put, inv.size]
  · intro k d' av' hk hl
    rw [hO.dst]
    simp only [Act.put]
    rw [getD_set _ _ _ _ _ hd]
    by_cases e : d = d'
    · subst e
      have := uniq i k d av av' hLi hk
      subst this
      rw [hLi] at hk; cases hk
      rw [if_pos rfl]; exact hv
    · rw [if_neg e]
      have hik : i ≠ k := fun h => by subst h; rw [hLi] at hk; cases hk; exact e rfl
      rw [getD_set_ne false hik] at hl
      exact (inv.new k d' av' hk hl).ext hb
  · intro s hs
    rw [hO.dst]
    simp only [Act.put]
    rw [getD_set _ _ _ _ _ hd]
    by_cases e : d = s
    · subst e
      have := hs i av hLi
      have h2 : (listed.setIfInBounds i true).getD i false = true := by simp [show i < listed.size by omega]
      rw [h2] at this; cases this
    · rw [if_neg e]
      refine (inv.old s fun k av' hk => ?_).ext hb
      have hik : i ≠ k := fun h => by subst h; rw [hLi] at hk; cases hk; exact e rfl
      have := hs k av' hk
      rwa [getD_set_ne false hik] at this

theorem tail_waits' {listed : Array Bool} (hs : ∀ i, i < n → nmem qs i = true ∨ ∃ j, j ≤ n ∧ i < j ∧ Region.waitsFor .any ops.toArray j i = true) (hc : Region.chainB .any ops.toArray n = true) (hn : n < ops.length)
    (hq : ∀ i, i < n → nmem qs i = true → listed.getD i false = true) (inv : HeadInv .any ops.toArray n listed) :
    ∀ (d i : Nat), n - i = d → i < n → listed.getD i true = false → ∀ t, n ≤ t → t ∉ Region.ready .any ops.toArray listed := by
  intro d
  induction d using Nat.strongRecOn with
  | _ d ih =>
    intro i hd hi hun t ht hr
    obtain ⟨_, ot, hot, hall⟩ := mem_ready.1 hr
    have htlt : t < ops.length := by simpa using (Array.getElem?_eq_some_iff.1 hot).1
    by_cases htn : t = n
    · subst htn
      rcases hs i hi with h1 | ⟨j, hjle, hij, hj2⟩
      · have := hq i hi h1
        rw [getD_both hun] at this; cases this
      obtain ⟨oj, hoj, e, he, hb, hon⟩ := Region.waitsFor_spec hj2
      by_cases hjt : j = t
      · subst hjt
        have : oj = ot := Option.some.inj (hoj.symm.trans hot)
        subst this
        have h2 := hall e he hb
        rw [hon, getD_both hun] at h2
        cases h2
      · cases hl : listed.getD j false with
        | true =>
          have h2 := inv.closed j oj hoj hl e he hb
          rw [hon, getD_both hun] at h2
          cases h2
        | false =>
          have hjs : j < listed.size := by rw [inv.size]; simp; omega
          exact ih (t - j) (by omega) j rfl (by omega) (getD_in hjs hl) t (Nat.le_refl _) hr
    · have h1 := List.all_eq_true.1 hc t (List.mem_range.2 (by simpa using htlt))
      simp only [Bool.or_eq_true, decide_eq_true_eq] at h1
      rcases h1 with h1 | h1
      · omega
      · obtain ⟨o', ho', e, he, hb, hon⟩ := Region.waitsFor_spec h1
        have : o' = ot := Option.some.inj (ho'.symm.trans hot)
        subst this
        have h2 := hall e he hb
        rw [hon, getD_both (inv.tail (t - 1) (by omega) (by simp; omega))] at h2
        cases h2

theorem heads_any (hn : n ≤ ops.length) (hB : DOk ops n qs) (hL : L.length = n) (hok : HOks P N ops n qs E H L)
    (tail : ∀ (a : Act) (w : World), St N w0 (L.reverse ++ E) H φ a w → wpList P ops.toArray Q (ops.drop n) a w) :
    ∀ (m : Nat) (listed : Array Bool) (a : Act) (w : World), unl n listed = m → (∀ i, i < n → nmem qs i = true → listed.getD i false = true) → DInv P N w0 ops n E H φ L listed a w →
      wpAny P .any ops.toArray Q (m + (ops.length - n)) listed a w := by
  have uniq := uniqL hn hB hL hok
  intro m
  induction m with
  | zero =>
    intro listed a w hu _ inv
    have hall := unl_zero hu
    have hsz : listed.size = ops.length := by simpa using inv.head.size
    have hlisted : listed = Array.replicate n true ++ Array.replicate (ops.length - n) false := by
      apply Array.ext
      · simp [hsz]; omega
      · intro i h1 h2
        by_cases hi : i < n
        · have := hall i hi
          simp [h1] at this
          rw [this, Array.getElem_append_left (by simpa using hi)]; simp
        · have := inv.head.tail i (by omega) (by simpa [hsz] using h1)
          simp [h1] at this
          rw [this, Array.getElem_append_right (by simpa using hi)]; simp
    have hst : St N w0 (L.reverse ++ E) H φ a w := by
      refine ⟨inv.sim, fun s => ?_, inv.defers, inv.size, inv.gh⟩
      by_cases hs : ∃ (k : Nat) (av : AV), L[k]? = some (s, av)
      · obtain ⟨k, av, hk⟩ := hs
        have hkn : k < n := by rw [← hL]; exact (List.getElem?_eq_some_iff.1 hk).1
        rw [eget_found L.reverse E s av (by rw [List.mem_reverse]; exact List.mem_of_getElem? hk) (fun av' h' => by
          rw [List.mem_reverse] at h'
          obtain ⟨k', hk'⟩ := List.mem_iff_getElem?.1 h'
          have := uniq k k' s av av' hk hk'
          subst this
          rw [hk] at hk'; cases hk'; rfl)]
        exact inv.new k s av hk ((listedB hsz (by omega)).1 (hall k hkn))
      · rw [eget_append _ _ _ fun p hp he => by
          rw [List.mem_reverse] at hp
          obtain ⟨k, hk⟩ := List.mem_iff_getElem?.1 hp
          exact hs ⟨k, p.2, by rw [hk, ← he]⟩]
        exact inv.old s fun k av hk => absurd ⟨k, av, hk⟩ hs
    have := wpAny_of_seq (md := .any) (Q' := Q) (ops := ops.toArray) (P := P) (ops.drop n) n listed a w (fun j => by simp [List.getElem?_drop])
      (by rw [List.length_drop, hlisted]; exact hB.seq) (tail a w hst)
    rw [List.length_drop] at this
    rwa [Nat.zero_add]
  | succ m ih =>
    intro listed a w hu hq inv
    have hsz : listed.size = ops.length := by simpa using inv.head.size
    obtain ⟨i0, hi0, hun0, hleast⟩ := unl_pos (n := n) (listed := listed) (by omega)
    have hready0 : i0 ∈ Region.ready .any ops.toArray listed := by
      obtain ⟨o, ho⟩ := opOf hn i0 hi0
      refine mem_ready.2 ⟨hun0, o, by simpa using ho, fun e he hb => ?_⟩
      have hlt := hB.back i0 o ho e he hb
      exact (listedB hsz (by omega)).1 (hleast e.on hlt)
    rw [show m + 1 + (ops.length - n) = (m + (ops.length - n)) + 1 by omega]
    refine ⟨fun h => (by rw [h] at hready0; cases hready0), fun i hi => ?_⟩
    obtain ⟨hun, o, ho', hall⟩ := mem_ready.1 hi
    have ho : ops[i]? = some o := by simpa using ho'
    have hil : i < ops.length := (List.getElem?_eq_some_iff.1 ho).1
    have hin : i < n := by
      rcases Nat.lt_or_ge i n with h | h
      · exact h
      · rcases hB.tail with ht | ⟨ht, hs, hc⟩
        · omega
        · exact absurd hi (tail_waits' hs hc ht hq inv.head _ i0 rfl hi0 hun0 i h)
    obtain ⟨d, av, hLi, hO⟩ := hok i o hin ho
    have hspec := hO.ok w0 w φ a inv.sim (inv.look hn hB hL hok hin ho hi)
    have hnext : ∀ (v : Value) (w' : World), Below w.heap.size w w' → Rel w' (Fr φ H) (Gr w0 φ H) φ H av v →
        wpAny P .any ops.toArray Q (m + (ops.length - n)) (listed.setIfInBounds i true) (a.put o.dst v) w' := by
      intro v w' hb hv
      exact ih _ _ _ (by have := unl_set (by omega) hun n hin; omega) (fun j hj hjq => getD_set_true (hq j hj hjq)) (inv.step hn hB hL hok hin hi hLi hO hb hv)
    unfold wpOp
    simp only [ho']
    split
    · rename_i hw
      exact .inl ((hspec.1 hw).wp fun v w' ⟨hb, hv⟩ => hnext v w' hb hv)
    · rename_i hw
      have := hspec.2.1 (by simpa using hw)
      subst this
      exact hnext undef w (Below.refl _ _) (by simp only [Rel])

theorem quiet_any (hn : n ≤ ops.length) (hB : DOk ops n qs) (hL : L.length = n) (hok : HOks P N ops n qs E H L) (hQ : ∀ c a w, ¬ Q (.panic c) a w) :
    ∀ (l : List Nat) (listed : Array Bool) (a : Act) (w : World), qfree ops.toArray n l listed = true → (∀ i ∈ l, nmem qs i = true) → DInv P N w0 ops n E H φ L listed a w →
      (∀ (listed' : Array Bool) (a' : Act), DInv P N w0 ops n E H φ L listed' a' w → (∀ i, listed.getD i false = true → listed'.getD i false = true) → (∀ i ∈ l, listed'.getD i false = true) →
        wpAny P .any ops.toArray Q (unl n listed' + (ops.length - n)) listed' a' w) →
      wpAny P .any ops.toArray Q (unl n listed + (ops.length - n)) listed a w
  | [], listed, a, w, _, _, inv, h => h listed a inv (fun _ h => h) (fun _ h => by simp at h)
  | i :: l, listed, a, w, hf, hqs, inv, h => by
    simp only [qfree, Bool.and_eq_true, decide_eq_true_eq] at hf
    obtain ⟨⟨⟨hin, hr⟩, hfree⟩, hf'⟩ := hf
    have hsz : listed.size = ops.length := by simpa using inv.head.size
    have hi : i ∈ Region.ready .any ops.toArray listed := by simpa using hr
    obtain ⟨hun, o, ho', hall⟩ := mem_ready.1 hi
    have ho : ops[i]? = some o := by simpa using ho'
    obtain ⟨d, av, hLi, hO⟩ := hok i o hin ho
    have hq : nmem qs i = true := hqs i (by simp)
    obtain ⟨hg, v, hrun, hv⟩ := (hO.ok w0 w φ a inv.sim (inv.look hn hB hL hok hin ho hi)).2.2 hq
    have hu := unl_set (by omega) hun n hin
    rw [show unl n listed + (ops.length - n) = (unl n (listed.setIfInBounds i true) + (ops.length - n)) + 1 by omega]
    have hnot : listed.getD i false = false := getD_both hun
    refine wpAny_first (oi := o) (v := v) ho' (Region.noSelect_spec hB.nosel) (fun c a w hp => absurd hp (hQ c _ w)) _ _ _ _ (Region.free_spec ho' hfree) hi (.inl ⟨by simp only [Region.wanted, hg], hrun⟩) ?_
    refine quiet_any hn hB hL hok hQ l _ _ _ hf' (fun j hj => hqs j (by simp [hj])) (inv.step hn hB hL hok hin hi hLi hO (Below.refl _ _) hv) ?_
    intro listed' a' inv' h1 h2
    refine h listed' a' inv' (fun j hj => h1 j (getD_set_true hj)) (fun j hj => ?_)
    simp only [List.mem_cons] at hj
    rcases hj with rfl | hj
    · exact h1 j (by simp [show j < listed.size by omega])
    · exact h2 j hj

theorem nmem_mem : ∀ {l : List Nat} {i : Nat}, nmem l i = true ↔ i ∈ l
  | [], i => by simp [nmem]
  | a :: l, i => by
    simp only [nmem, beq_eq, Bool.cond_decide]
    by_cases e : a = i
    · subst e; simp
    · rw [if_neg e, nmem_mem (l := l)]
      simp [Ne.symm e]

theorem draws_any (hn : n ≤ ops.length) (hB : DOk ops n qs) (hL : L.length = n) (hok : HOks P N ops n qs E H L) (hQ : ∀ c a w, ¬ Q (.panic c) a w)
    (tail : ∀ (a : Act) (w : World), St N w0 (L.reverse ++ E) H φ a w → wpList P ops.toArray Q (ops.drop n) a w)
    (hst : St N w0 E H φ a w) : wpAny P .any ops.toArray Q ops.length (Array.replicate ops.length false) a w := by
  have hu : unl n (Array.replicate ops.length false) = n := by
    unfold unl
    rw [List.countP_eq_length.2 (fun i hi => by
      have := List.mem_range.1 hi
      have h2 : (Array.replicate ops.length false).getD i true = false := getD_in (by simp; omega) (getD_replicate_false _ _)
      rw [h2]; rfl), List.length_range]
  have inv : DInv P N w0 ops n E H φ L (Array.replicate ops.length false) a w :=
    ⟨⟨by simp, fun j oj _ hl => (by rw [getD_replicate_false] at hl; cases hl), fun t _ ht => getD_in (by simpa using ht) (getD_replicate_false _ _)⟩, hst.sim, hst.defers, hst.size, hst.gh,
      fun k d av _ hl => (by rw [getD_replicate_false] at hl; cases hl), fun s _ => hst.env s⟩
  have := quiet_any (Q := Q) hn hB hL hok hQ qs _ a w hB.quiet (fun i hi => nmem_mem.2 hi) inv (fun listed' a' inv' _ h2 =>
    heads_any hn hB hL hok tail _ listed' a' w rfl (fun i _ hi => h2 i (nmem_mem.1 hi)) inv')
  rw [hu, show n + (ops.length - n) = ops.length by omega] at this
  exact this
end orders
end Go.V

namespace Go.V
open Go.RowKit

/-! ### Drawn regions, order by order -/

structure Lst (n : Nat) (done : List Nat) (listed : Array Bool) : Prop where
  size : listed.size = n
  same : ∀ i, i < n → listed.getD i false = nmem done i

theorem Lst.set {n : Nat} {done : List Nat} {listed : Array Bool} (h : Lst n done listed) (i : Nat) (hi : i < n) : Lst n (i :: done) (listed.setIfInBounds i true) := by
  refine ⟨by simp [h.size], fun j hj => ?_⟩
  simp only [nmem]
  by_cases e : i = j
  · subst e
    have : Nat.beq i i = true := by simp
    rw [this]
    simp [h.size, hi]
  · have h1 : Nat.beq i j = false := by
      cases hb : Nat.beq i j with
      | false => rfl
      | true => exact absurd (Nat.eq_of_beq_eq_true hb) e
    rw [h1, getD_set_ne false e, h.same j hj]
    rfl

section
variable {P : Program} {Γ : Tab} {N : Nat} {w0 : Base} {own : List Nat} {Q : Exit → Act → World → Prop}

theorem eachL_spec {done : List Nat} {f : Nat → Oper → Prop} : ∀ (l : List Oper) (i : Nat), eachL done f l i → ∀ (k : Nat) (o : Oper), l[k]? = some o → rdyB done (i + k) o = true → f (i + k) o
  | [], _, _, k, o, ho, _ => by simp at ho
  | p :: rest, i, h, k, o, ho, hr => by
    simp only [eachL] at h
    cases k with
    | zero =>
      simp only [List.getElem?_cons_zero, Option.some.injEq] at ho
      subst ho
      rw [Nat.add_zero] at hr ⊢
      rw [hr, cond_true] at h
      exact h.1
    | succ k =>
      have h' : eachL done f rest (Nat.succ i) := by
        cases hb : rdyB done i p
        · rw [hb, cond_false] at h; exact h
        · rw [hb, cond_true] at h; exact h.2
      have := eachL_spec rest (Nat.succ i) h' k o (by simpa using ho) (by rw [show Nat.succ i + k = i + (k + 1) by omega]; exact hr)
      rwa [show Nat.succ i + k = i + (k + 1) by omega] at this

theorem afterB_of {done : List Nat} : ∀ (es : List Edge), (∀ e ∈ es, Region.binds .any e = true → nmem done e.on = true) → afterB done es = true
  | [], _ => rfl
  | e :: es, h => by
    simp only [afterB, Bool.and_eq_true]
    refine ⟨?_, afterB_of es fun e' he' => h e' (by simp [he'])⟩
    have h1 := h e (by simp)
    unfold Region.binds at h1
    split
    · rfl
    · rfl
    · rename_i n1 n2
      refine h1 ?_
      split
      · rename_i s hs; exact absurd hs (n1 s)
      · rename_i s hs; exact absurd hs (n2 s)
      · rfl

theorem vany_sound (hΓ : TabOK P Γ) {ops : List Oper} (hb : backB ops.toArray = true) {K : Env → Heap → Prop} (hQ : ∀ a w, Then N w0 K a w → Q .normal a w) :
    ∀ (n : Nat) (done : List Nat) (listed : Array Bool) (E : Env) (H : Heap) (φ : Nat → Value) (a : Act) (w : World), unl ops.length listed = n → Lst ops.length done listed →
      vany P Γ N own ops n done E H K → St N w0 E H φ a w → wpAny P .any ops.toArray Q n listed a w := by
  intro n
  induction n with
  | zero =>
    intro done listed E H φ a w hu hl h hst
    refine ⟨?_, hQ _ _ ⟨E, H, φ, h, hst⟩⟩
    cases hr : Region.ready .any ops.toArray listed with
    | nil => rfl
    | cons i l =>
      exfalso
      have hi : i ∈ Region.ready .any ops.toArray listed := by rw [hr]; simp
      obtain ⟨h1, o, ho, _⟩ := mem_ready.1 hi
      have hlt : i < ops.length := by simpa using (Array.getElem?_eq_some_iff.1 ho).1
      have := unl_zero hu i hlt
      rw [h1] at this; cases this
  | succ n ih =>
    intro done listed E H φ a w hu hl h hst
    have both : ∀ i, i < ops.length → listed.getD i true = listed.getD i false := fun i hi => by
      have : i < listed.size := by rw [hl.size]; exact hi
      simp [this]
    obtain ⟨i0, hi0, hun0, hleast⟩ := unl_pos (n := ops.length) (listed := listed) (by omega)
    have hready0 : i0 ∈ Region.ready .any ops.toArray listed := by
      have ho : ops.toArray[i0]? = some ops[i0] := by simp [hi0]
      refine mem_ready.2 ⟨hun0, _, ho, fun e he hbd => ?_⟩
      have h1 := List.all_eq_true.1 hb i0 (List.mem_range.2 (by simpa using hi0))
      rw [ho] at h1
      have h2 := Array.all_eq_true'.1 h1 e he
      rw [hbd] at h2
      have h3 : e.on < i0 := by simpa using h2
      rw [← both _ (by omega)]
      exact hleast _ h3
    refine ⟨fun h => (by rw [h] at hready0; cases hready0), fun i hi => ?_⟩
    obtain ⟨hun, o, ho', hall⟩ := mem_ready.1 hi
    have ho : ops[i]? = some o := by simpa using ho'
    have hil : i < ops.length := (List.getElem?_eq_some_iff.1 ho).1
    have hrd : rdyB done i o = true := by
      unfold rdyB
      rw [← hl.same i hil, ← both i hil, hun, cond_false]
      refine afterB_of _ fun e he hbd => ?_
      have h1 := hall e (by simpa using he) hbd
      have hel : e.on < ops.length := by
        rcases Nat.lt_or_ge e.on ops.length with h | h
        · exact h
        · rw [Array.getD_eq_getD_getElem?, Array.getElem?_eq_none (by rw [hl.size]; exact h)] at h1
          cases h1
      rw [← hl.same _ hel]
      exact h1
    simp only [vany] at h
    have hf := eachL_spec ops 0 h i o ho (by rw [Nat.zero_add]; exact hrd)
    rw [Nat.zero_add] at hf
    split at hf
    case h_2 => exact hf.elim
    rename_i hg
    unfold wpOp
    simp only [ho']
    rw [if_pos (by simp only [Region.wanted, hg])]
    refine .inl ((vop_sound hΓ hf hst).wp fun v w' ⟨E', H', φ', h1, h2⟩ => ?_)
    exact ih (i :: done) _ E' H' φ' _ _ (by have := unl_set (by rw [hl.size]; exact hil) hun ops.length hil; omega) (hl.set i hil) h1 h2

theorem vqs_sound (hΓ : TabOK P Γ) {ops : List Oper} (hb : backB ops.toArray = true) (hsel : Region.noSelect ops.toArray = true) (hQ0 : ∀ c a w, ¬ Q (.panic c) a w) {K : Env → Heap → Prop} (hQ : ∀ a w, Then N w0 K a w → Q .normal a w) {m : Nat} {dn : List Nat} {H : Heap} :
    ∀ (qs : List Nat) (done : List Nat) (listed : Array Bool) (E : Env) (φ : Nat → Value) (a : Act) (w : World), Lst ops.length done listed → unl ops.length listed = m + qs.length → qs.reverse ++ done = dn →
      qfree ops.toArray ops.toArray.size qs listed = true → vqs N ops qs E (fun E' => vany P Γ N own ops m dn E' H K) → St N w0 E H φ a w → wpAny P .any ops.toArray Q (m + qs.length) listed a w
  | [], done, listed, E, φ, a, w, hl, hu, hd, _, h, hst => by
    simp only [List.reverse_nil, List.nil_append] at hd
    subst hd
    exact vany_sound hΓ hb hQ m done listed E H φ a w hu hl h hst
  | i :: qs, done, listed, E, φ, a, w, hl, hu, hd, hf, h, hst => by
    simp only [qfree, Bool.and_eq_true, decide_eq_true_eq] at hf
    obtain ⟨⟨⟨hin, hr⟩, hfree⟩, hf'⟩ := hf
    have hi : i ∈ Region.ready .any ops.toArray listed := by simpa using hr
    obtain ⟨hun, o, ho', hall⟩ := mem_ready.1 hi
    have ho : ops[i]? = some o := by simpa using ho'
    have hil : i < ops.length := (List.getElem?_eq_some_iff.1 ho).1
    simp only [vqs, ho] at h
    split at h
    case h_2 => exact h.elim
    rename_i d hg hd'
    cases hbl : Nat.blt d N
    · rw [hbl, cond_false] at h; exact h.elim
    rw [hbl, cond_true] at h
    obtain ⟨av, hK, hrun⟩ := vquiet_sound (P := P) (H := H) h
    obtain ⟨v, hv1, hv2⟩ := hrun w0 w φ a (fun x _ => hst.opd x)
    have hu' := unl_set (by rw [hl.size]; exact hil) hun ops.length hil
    rw [show m + (i :: qs).length = (m + qs.length) + 1 by simp; omega]
    refine wpAny_first (oi := o) (v := v) ho' (Region.noSelect_spec hsel) (fun c a w hp => absurd hp (hQ0 c _ w)) _ _ _ _ (Region.free_spec ho' hfree) hi (.inl ⟨by simp only [Region.wanted, hg], hv1⟩) ?_
    have hput : St N w0 ((d, av) :: E) H φ (a.put o.dst v) w := by
      rw [hd']
      exact hst.put (blt_lt hbl) hv2
    refine vqs_sound hΓ hb hsel hQ0 hQ qs (i :: done) _ _ φ _ w (hl.set i hil) ?_ ?_ hf' hK hput
    · simp only [List.length_cons] at hu; omega
    · rw [← hd]; simp

theorem unl_none (n : Nat) : unl n (Array.replicate n false) = n := by
  unfold unl
  rw [List.countP_eq_length.2 (fun i hi => by
    have := List.mem_range.1 hi
    have h2 : (Array.replicate n false).getD i true = false := getD_in (by simp; omega) (getD_replicate_false _ _)
    rw [h2]; rfl), List.length_range]
end

section code
variable {P : Program} {Γ : Tab} {w0 : Base}

theorem St.drawn {N : Nat} {w : World} {E : Env} {H : Heap} {φ : Nat → Value} {a : Act} (h : St N w0 E H φ a w) : St N w0 E H φ a { w with drawn := w.drawn + 1 } :=
  h.ext ⟨rfl, rfl, rfl, Nat.le_refl _, fun _ _ => rfl⟩

def Post (N : Nat) (w0 : Base) (Q : Exit → Env → Heap → Prop) (e : Exit) (a : Act) (w : World) : Prop := Then N w0 (Q e) a w

theorem Post.of {N : Nat} {w : World} {E : Env} {H : Heap} {φ : Nat → Value} {a : Act} {Q : Exit → Env → Heap → Prop} {e : Exit} (h : Q e E H) (hs : St N w0 E H φ a w) : Post N w0 Q e a w := ⟨E, H, φ, h, hs⟩

theorem least {p : Nat → Prop} (h : ∃ n, p n) : ∃ n, p n ∧ ∀ m, p m → n ≤ m := by
  obtain ⟨n, hn⟩ := h
  induction n using Nat.strongRecOn with
  | _ n ih =>
    by_cases hl : ∃ m, m < n ∧ p m
    · obtain ⟨m, h1, h2⟩ := hl; exact ih m h1 h2
    · exact ⟨n, hn, fun m hm => Nat.le_of_not_lt fun h => hl ⟨m, h, hm⟩⟩

theorem vwp_sound (hΓ : TabOK P Γ) (hm : P.follows .mixedOrders = true) (c : Cfg) (hg : w0.ga = c.gh) : ∀ (code : Code) (E : Env) (H : Heap) (Q : Exit → Env → Heap → Prop), vwp P Γ c code E H Q →
    ∀ (φ : Nat → Value) (a : Act) (w : World), St c.N w0 E H φ a w → code.wp P (Post c.N w0 Q) a w := by
  intro code
  induction code with
  | skip => intro E H Q h φ a w hs; exact wp_skip (Post.of h hs)
  | label l => intro E H Q h φ a w hs; exact wp_label (Post.of h hs)
  | exit id => intro E H Q h φ a w hs; exact wp_exit (Post.of h hs)
  | ret => intro E H Q h φ a w hs; exact wp_ret (Post.of h hs)
  | seq x y ihx ihy =>
    intro E H Q h φ a w hs
    refine wp_seq (wp_mono (ihx E H _ h φ a w hs) ?_)
    rintro e a' w' ⟨E', H', φ', hq, hs'⟩
    cases e with
    | normal => exact ihy E' H' Q hq φ' a' w' hs'
    | exit id => exact Post.of hq hs'
    | goto l => exact Post.of hq hs'
    | ret => exact Post.of hq hs'
    | panic ch => exact Post.of hq hs'
    | outgrown => exact Post.of hq hs'
  | cond x t f iht ihf =>
    intro E H Q h φ a w hs
    have ho := hs.opd x
    simp only [vwp] at h
    split at h
    · rename_i e; rw [e] at ho; simp only [Rel] at ho; exact wp_cond_true ho (iht E H Q h φ a w hs)
    · rename_i e; rw [e] at ho; simp only [Rel] at ho; exact wp_cond_false ho (ihf E H Q h φ a w hs)
    · rename_i b e; rw [e] at ho; simp only [Rel] at ho
      exact wp_cond_split ho (fun hb => iht E H Q (h.1 hb) φ a w hs) (fun hb => ihf E H Q (h.2 hb) φ a w hs)
    · exact h.elim
  | block id x ih =>
    intro E H Q h φ a w hs
    refine wp_block (wp_mono (ih E H _ h φ a w hs) ?_)
    rintro e a' w' ⟨E', H', φ', hq, hs'⟩
    cases e with
    | exit id' =>
      simp only at hq
      simp only [Exit.inBlock]
      cases hb : Nat.beq id' id
      · rw [hb] at hq
        rw [if_neg (Nat.ne_of_beq_eq_false hb)]
        exact Post.of hq hs'
      · rw [hb] at hq
        rw [if_pos (Nat.eq_of_beq_eq_true hb)]
        exact Post.of hq hs'
    | normal => exact Post.of hq hs'
    | goto l => exact Post.of hq hs'
    | ret => exact Post.of hq hs'
    | panic ch => exact Post.of hq hs'
    | outgrown => exact Post.of hq hs'
  | loop x ih =>
    intro E H Q h φ a w hs
    obtain ⟨X, mkE, mkH, I, μ, x0, h1, h2, h3⟩ := h
    obtain ⟨φ1, hs1⟩ := hs.less (by rw [hg]; exact h1)
    let J : Act → World → Nat → Prop := fun a w n => ∃ x φ, I x ∧ μ x = n ∧ St c.N w0 (mkE x) (mkH x) φ a w
    let M : Act → World → Nat := fun a w => @dite _ (∃ n, J a w n) (Classical.propDecidable _) (fun h => Classical.choose (least h)) (fun _ => 0)
    have hM : ∀ a w (h : ∃ n, J a w n), J a w (M a w) ∧ ∀ m, J a w m → M a w ≤ m := by
      intro a w h
      have : M a w = Classical.choose (least h) := by simp only [M]; rw [dif_pos h]
      rw [this]
      exact Classical.choose_spec (least h)
    refine wp_loop (fun a w => ∃ n, J a w n) M ⟨_, x0, φ1, h2, rfl, hs1⟩ ?_
    intro a w hJ
    obtain ⟨x, φ', hI, hμ, hst⟩ := (hM a w hJ).1
    refine wp_mono (ih _ _ _ (h3 x hI) φ' a w hst) ?_
    rintro e a' w' ⟨E', H', φ2, hq, hs'⟩
    cases e with
    | normal =>
      obtain ⟨x', k1, k2, k3⟩ := hq
      obtain ⟨φ3, hs3⟩ := hs'.less (by rw [hg]; exact k1)
      have hJ' : J a' w' (μ x') := ⟨x', φ3, k2, rfl, hs3⟩
      exact ⟨⟨_, hJ'⟩, Nat.lt_of_le_of_lt ((hM a' w' ⟨_, hJ'⟩).2 _ hJ') (by rw [← hμ]; exact k3)⟩
    | exit id => exact Post.of hq hs'
    | goto l => exact Post.of hq hs'
    | ret => exact Post.of hq hs'
    | panic ch => exact Post.of hq hs'
    | outgrown => exact Post.of hq hs'
  | region id ops draw =>
    have main : ∀ (E : Env) (H : Heap) (Q : Exit → Env → Heap → Prop), vreg P Γ c ops draw E H Q → ∀ (φ : Nat → Value) (a : Act) (w : World), St c.N w0 E H φ a w → (Code.region id ops draw).wp P (Post c.N w0 Q) a w := by
     intro E H Q h φ a w hs
     have fin : ∀ (a : Act) (w : World), Then c.N w0 (fun E'' H' => trim c.keep E'' [] fun E3 => hclean [] H' fun H2 => Q .normal E3 H2) a w → Post c.N w0 Q .normal a w := by
       rintro a w ⟨E', H', φ', h1, h2⟩
       obtain ⟨E3, h3, h4⟩ := trim_spec _ _ _ _ h1 (fun s => .inr rfl)
       obtain ⟨H2, h5, h6⟩ := hclean_spec _ _ _ h3
       exact Post.of h5 ((h2.weak h4).same fun i => by rw [h6]; simp [smem])
     cases draw with
     | false =>
       simp only [vreg] at h
       exact wp_region_list (vops_sound hΓ fin ops.toList E H φ a w h hs)
     | true =>
       simp only [vreg] at h
       obtain ⟨hB, hv⟩ := h
       generalize hnn : heads ops.toList = n at hB hv
       generalize qidx Γ (ops.toList.take n) 0 [] = qs at hB hv
       obtain ⟨L, E', k1, k2, k3, k4⟩ := vheads_spec hΓ _ 0 E E (fun _ _ _ _ _ _ h => h) hv
       have hn : n ≤ ops.toList.length := by
         have : ∀ l : List Oper, heads l ≤ l.length := by
           intro l
           induction l with
           | nil => exact Nat.le_refl _
           | cons o l ih => simp only [heads, List.length_cons]; split <;> omega
         rw [← hnn]; exact this _
       have hlen : (ops.toList.take n).length = n := by simp only [List.length_take]; omega
       have hD := dB_spec (ops := ops.toList) (by simpa using hB)
       let Q0 : Exit → Act → World → Prop := fun e a w => match e with
         | .normal => Post c.N w0 Q .normal a w
         | _ => False
       refine wp_mono (Q := Q0) (wp_region_any hm ?_) ?_
       · have := draws_any (P := P) (N := c.N) (w0 := w0) (E := E) (H := H) (φ := φ) (ops := ops.toList) (L := L) (qs := qs) (Q := Q0) hn hD (by rw [k2, hlen])
           (fun k o hk ho => by
             obtain ⟨d, av, e1, e2⟩ := k4 k o (by rw [List.getElem?_take_of_lt hk]; exact ho)
             rw [Nat.zero_add] at e2
             exact ⟨d, av, e1, e2⟩)
           (fun _ _ _ h => h)
           (fun a w hst => vops_sound hΓ (Q := Q0) (fun a w h => fin a w h) _ E' H φ a w k1 ⟨hst.sim, fun s => k3 _ _ _ _ _ _ (hst.env s), hst.defers, hst.size, hst.gh⟩)
           hs.drawn
         simpa using this
       · intro e a w h
         cases e <;> first | exact h | exact h.elim
    intro E H Q h φ a w hs
    simp only [vwp] at h
    cases hk : smem c.own (Nat.add 200000 id)
    case true =>
      rw [hk, cond_true] at h
      unfold vregA at h
      cases draw with
      | false => exact h.elim
      | true =>
        simp only at h
        obtain ⟨hB, hv⟩ := h
        generalize qidx Γ ops.toList 0 [] = qs at hB hv
        simp only [Bool.and_eq_true] at hB
        obtain ⟨hB, hq⟩ := hB
        unfold cB at hB
        simp only [Bool.and_eq_true] at hB
        obtain ⟨⟨hb, hsel⟩, hf⟩ := hB
        let Q0 : Exit → Act → World → Prop := fun e a w => match e with
          | .normal => Post c.N w0 Q .normal a w
          | _ => False
        have fin : ∀ (a : Act) (w : World), Then c.N w0 (fun E'' H' => trim c.keep E'' [] fun E3 => hclean [] H' fun H2 => Q .normal E3 H2) a w → Q0 .normal a w := by
          rintro a w ⟨E', H', φ', h1, h2⟩
          obtain ⟨E3, h3, h4⟩ := trim_spec _ _ _ _ h1 (fun s => .inr rfl)
          obtain ⟨H2, h5, h6⟩ := hclean_spec _ _ _ h3
          exact Post.of h5 ((h2.weak h4).same fun i => by rw [h6]; simp [smem])
        refine wp_mono (Q := Q0) (wp_region_any hm ?_) ?_
        · have hle := Nat.le_of_ble_eq_true hq
          have := vqs_sound (P := P) (N := c.N) (w0 := w0) (own := c.own) (Q := Q0) (m := ops.toList.length - qs.length) (dn := qs.reverse) (H := H) hΓ (ops := ops.toList) (by simpa using hb) (by simpa using hsel) (fun _ _ _ h => h)
            fin qs [] (Array.replicate ops.size false) E φ a { w with drawn := w.drawn + 1 } ⟨by simp, fun i _ => by rw [getD_replicate_false]; rfl⟩
            (by rw [show ops.toList.length = ops.size by simp] at *; rw [unl_none]; omega) (by simp) (by simpa using hf) hv hs.drawn
          rw [Nat.sub_add_cancel hle] at this
          simpa using this
        · intro e a w h
          cases e <;> first | exact h | exact h.elim
    rw [hk, cond_false] at h
    cases hj : smem c.own (Nat.add 100000 id)
    · rw [hj, cond_false] at h
      exact main E H Q h φ a w hs
    · rw [hj, cond_true] at h
      obtain ⟨X, mkE, mkH, I, x0, h1, h2, h3⟩ := h
      obtain ⟨φ1, hs1⟩ := hs.less (by rw [hg]; exact h1)
      exact main _ _ Q (h3 x0 h2) φ1 a w hs1
  | rangeFunc f ps x y _ _ => intro E H Q h; simp only [vwp] at h
  | scope x _ => intro E H Q h; simp only [vwp] at h
  | goto l => intro E H Q h; simp only [vwp] at h
  | refuse r => intro E H Q h; simp only [vwp] at h
end code
end Go.V

namespace Go.V
open Go.RowKit

def vres1 (Γ : Tab) (E : Env) (H : Heap) (x : ResultVar) (K : AV → Prop) : Prop :=
  match x with
  | .tmp t => force (eget E t) K
  | .cell a t => match tget Γ t with
    | some td => match eget E a with
      | .ptrO id off => match hget H id with
        | some (.box cs) => loadCs td (cs.drop off) K
        | _ => False
      | _ => False
    | none => False

def vresL (Γ : Tab) (E : Env) (H : Heap) : List ResultVar → (List AV → Prop) → Prop
  | [], K => K []
  | x :: xs, K => vres1 Γ E H x fun a => vresL Γ E H xs fun as => K (a :: as)

def Out (G : List AV) (H : Heap) (a r : AV) (Hr : Heap) : Prop := sealedB r = true ∧ Weak G [(0, a)] H [(0, r)] Hr

def vret (G : List AV) (Γ : Tab) (rs : List ResultVar) (E : Env) (H : Heap) (r : AV) (Hr : Heap) : Prop :=
  match rs with
  | [x] => vres1 Γ E H x fun a => Out G H a r Hr
  | xs => vresL Γ E H xs fun as => Out G H (.tup as) r Hr

def vend (G : List AV) (Γ : Tab) (rs : List ResultVar) (r : AV) (Hr : Heap) (e : Exit) (E : Env) (H : Heap) : Prop :=
  match e with
  | .normal => vret G Γ rs E H r Hr
  | .ret => vret G Γ rs E H r Hr
  | _ => False

def number : Nat → List AV → Env
  | _, [] => []
  | i, a :: as => (i, a) :: number (i + 1) as

theorem number_get : ∀ (as : List AV) (i s : Nat), eget (number i as) s = if s < i then .junk else (as[s - i]?).getD .junk
  | [], i, s => by simp [number, eget]
  | a :: as, i, s => by
    simp only [number]
    rw [eget_cons, number_get as (i + 1) s]
    by_cases e : i = s
    · subst e; simp
    · rw [if_neg e]
      by_cases h : s < i
      · rw [if_pos h, if_pos (by omega)]
      · rw [if_neg h, if_neg (by omega), show s - i = (s - (i + 1)) + 1 by omega]; simp

section con
variable {P : Program} {Γ : Tab} {w0 : Base} {w : World} {N : Nat} {E : Env} {H : Heap} {φ : Nat → Value} {a : Act}

def resOne (tmps : Array Value) : ResultVar → Sem Value
  | .tmp t => pure (tmps.getD t undef)
  | .cell a t => do loadVar t (← asAddr (tmps.getD a undef))

theorem vres1_run (hΓ : TabOK P Γ) (hst : St N w0 E H φ a w) {x : ResultVar} {K : AV → Prop} (h : vres1 Γ E H x K) :
    ∃ av, K av ∧ ∃ v, (resOne a.tmps x).run P w = .ok v w ∧ Rel w (Fr φ H) (Gr w0 φ H) φ H av v := by
  cases x with
  | tmp t =>
    simp only [vres1, force_eq] at h
    exact ⟨_, h, _, rfl, hst.env t⟩
  | cell p t =>
    simp only [vres1] at h
    split at h
    case h_2 => exact h.elim
    rename_i td htd
    split at h
    case h_2 => exact h.elim
    rename_i id off e1
    split at h
    case h_2 => exact h.elim
    rename_i cs hh
    have hp := hst.env p
    rw [e1] at hp
    simp only [Rel] at hp
    obtain ⟨b, h1, h2⟩ := hp.2 cs hh
    obtain ⟨b', us, k1, k2, k3⟩ := (hst.sim.good id _ hh).box_cells
    rw [h1] at k1; cases k1
    have k4 := k3.drop off
    simp only [Nat.zero_add] at k4
    obtain ⟨av, hK, v, hv, hr⟩ := run_loadCs (hΓ.ok htd) (k2.drop off) k4 h
    refine ⟨av, hK, v, ?_, hr⟩
    simp only [resOne, h2, asAddr, Sem.run_bind, Sem.run_pure, Result.andThen_ok]
    exact hv

theorem vresL_run (hΓ : TabOK P Γ) (hst : St N w0 E H φ a w) : ∀ {xs : List ResultVar} {K : List AV → Prop}, vresL Γ E H xs K →
    ∃ avs, K avs ∧ ∃ vs, (xs.mapM (resOne a.tmps)).run P w = .ok vs w ∧ RelL w (Fr φ H) (Gr w0 φ H) φ H avs vs ∧ vs.length = xs.length
  | [], K, h => ⟨[], h, [], rfl, rfl, rfl⟩
  | x :: xs, K, h => by
    obtain ⟨av, h1, v, h2, h3⟩ := vres1_run hΓ hst h
    obtain ⟨avs, k1, vs, k2, k3, k4⟩ := vresL_run hΓ hst h1
    refine ⟨av :: avs, k1, v :: vs, ?_, ⟨v, vs, rfl, h3, k3⟩, by simp [k4]⟩
    simp only [List.mapM_cons, Sem.run_bind, h2, Result.andThen_ok, k2, Sem.run_pure]

theorem results_run (fn : Func) (tmps : Array Value) {vs : List Value} (h : (fn.results.toList.mapM (resOne tmps)).run P w = .ok vs w) :
    (results fn tmps).run P w = .ok (match vs with | [v] => v | vs => .tuple vs.toArray) w := by
  have h1 : results fn tmps = (do
      let vs ← fn.results.mapM (resOne tmps)
      pure (if h : vs.size = 1 then vs[0] else .tuple vs)) := rfl
  rw [h1, Array.mapM_eq_mapM_toList]
  simp only [Sem.run_bind, map_eq_pure_bind, h, Result.andThen_ok, Sem.run_pure, bind_assoc, pure_bind]
  cases vs with
  | nil => rfl
  | cons v vs => cases vs <;> rfl

theorem vret_run (hΓ : TabOK P Γ) (hst : St N w0 E H φ a w) {fn : Func} {r : AV} {Hr : Heap} (h : vret w0.ga Γ fn.results.toList E H r Hr) :
    ∃ v φ', (results fn a.tmps).run P w = .ok v w ∧ Sim w0 w φ' Hr ∧ Rel w (Gr w0 φ' Hr) (Gr w0 φ' Hr) φ' Hr r v ∧ RelL w (Fr φ' Hr) (Gr w0 φ' Hr) φ' Hr w0.ga w0.gv := by
  have out : ∀ (av : AV) (v : Value), Rel w (Fr φ H) (Gr w0 φ H) φ H av v → Out w0.ga H av r Hr →
      ∃ φ', Sim w0 w φ' Hr ∧ Rel w (Gr w0 φ' Hr) (Gr w0 φ' Hr) φ' Hr r v ∧ RelL w (Fr φ' Hr) (Gr w0 φ' Hr) φ' Hr w0.ga w0.gv := by
    intro av v hr ⟨h1, m, g1, g2, g3, g4, g5⟩
    refine ⟨back m φ, hst.sim.weak g4 g1 (nin_spec g2), sealed_rel r v h1 (Cv_rel hst.sim g4 g1 (nin_spec g2) r av v ?_ hr), CvL_rel hst.sim g4 g1 (nin_spec g2) _ _ _ g5 hst.gh⟩
    have := WE_get g3 0
    simpa [eget] using this
  unfold vret at h
  split at h
  · rename_i x e
    obtain ⟨av, h1, v, h2, h3⟩ := vres1_run hΓ hst h
    obtain ⟨φ', k1, k2⟩ := out av v h3 h1
    refine ⟨v, φ', ?_, k1, k2⟩
    rw [results_run fn a.tmps (vs := [v])]
    rw [e]
    simp only [List.mapM_cons, List.mapM_nil, Sem.run_bind, h2, Result.andThen_ok, Sem.run_pure]
  · rename_i e
    obtain ⟨avs, h1, vs, h2, h3, h4⟩ := vresL_run hΓ hst h
    obtain ⟨φ', k1, k2⟩ := out (.tup avs) (.tuple vs.toArray) (by simp only [Rel]; exact ⟨vs, rfl, h3⟩) h1
    refine ⟨.tuple vs.toArray, φ', ?_, k1, k2⟩
    rw [results_run fn a.tmps h2]
    cases vs with
    | nil => rfl
    | cons v vs =>
      cases vs with
      | nil =>
        exfalso
        cases hl : fn.results.toList with
        | nil => rw [hl] at h4; simp at h4
        | cons x xs =>
          cases xs with
          | nil => exact e x hl
          | cons y ys => rw [hl] at h4; simp at h4
      | cons u us => rfl

/-- The memory that is handed on, by name. -/
def ghosts : Heap → List AV
  | [] => []
  | (id, .row _ _ _) :: H => .own id :: ghosts H
  | (id, .box _) :: H => .ptrO id 0 :: ghosts H
  | (_, .dead) :: H => ghosts H

theorem ghosts_rel {Ha : Heap} (hs : Sim w0 w φ Ha) : ∀ (L : Heap), (∀ id C, hget L id = some C → hget Ha id = some C) → once L = true →
    ∃ us, RelL w (Fr φ Ha) (Gr w0 φ Ha) φ Ha (ghosts L) us ∧
      ∀ (w' : World) (F G : Nat → Prop) (φ' : Nat → Value) (Hr : Heap), RelL w' F G φ' Hr (ghosts L) us →
        ∀ id C C', hget L id = some C → hget Hr id = some C' → kindB C C' = true → φ' id = φ id
  | [], _, _ => ⟨[], rfl, fun _ _ _ _ _ _ _ _ _ h => (by cases h)⟩
  | (s, D) :: L, hsub, ho => by
    simp only [once, Bool.and_eq_true, Option.isNone_iff_eq_none] at ho
    obtain ⟨us, h1, h2⟩ := ghosts_rel hs L (fun id C h => hsub id C (by
      rw [hget_cons, if_neg]
      · exact h
      · intro e; subst e; rw [ho.1.1] at h; cases h)) ho.2
    have hD : hget Ha s = some D := hsub s D (by rw [hget_cons, if_pos rfl])
    have step : ∀ (av : AV) (u : Value), ghosts ((s, D) :: L) = av :: ghosts L → Rel w (Fr φ Ha) (Gr w0 φ Ha) φ Ha av u →
        (∀ (w' : World) (F G : Nat → Prop) (φ' : Nat → Value) (Hr : Heap) C', Rel w' F G φ' Hr av u → hget Hr s = some C' → kindB D C' = true → φ' s = φ s) →
        ∃ us, RelL w (Fr φ Ha) (Gr w0 φ Ha) φ Ha (ghosts ((s, D) :: L)) us ∧
          ∀ (w' : World) (F G : Nat → Prop) (φ' : Nat → Value) (Hr : Heap), RelL w' F G φ' Hr (ghosts ((s, D) :: L)) us →
            ∀ id C C', hget ((s, D) :: L) id = some C → hget Hr id = some C' → kindB C C' = true → φ' id = φ id := by
      intro av u hg hrel hk
      rw [hg]
      refine ⟨u :: us, ⟨_, _, rfl, hrel, h1⟩, fun w' F G φ' Hr hr id C C' hC hC' hkind => ?_⟩
      simp only [RelL] at hr
      obtain ⟨v, vs, e1, e2, e3⟩ := hr
      simp only [List.cons.injEq] at e1
      obtain ⟨rfl, rfl⟩ := e1
      rw [hget_cons] at hC
      by_cases e : s = id
      · subst e
        rw [if_pos rfl] at hC
        simp only [Option.some.injEq] at hC
        subst hC
        exact hk w' F G φ' Hr C' e2 hC' hkind
      · rw [if_neg e] at hC
        exact h2 w' F G φ' Hr e3 id C C' hC hC' hkind
    cases D with
    | dead => simp at ho
    | row e t l =>
      refine step (.own s) (φ s) rfl ?_ ?_
      · show _ ∧ _
        exact ⟨by rw [hD]; rfl, fun _ _ _ _ => rfl⟩
      · intro w' F G φ' Hr C' hr hC' hk
        simp only [Rel] at hr
        cases C' with
        | row e' t' l' => exact (hr.2 _ _ _ hC').symm
        | box cs => cases hk
        | dead => cases hk
    | box ds =>
      obtain ⟨b, T, xs, g1, g2, g3⟩ := hs.good s _ hD
      refine step (.ptrO s 0) (φ s) rfl ?_ ?_
      · show _ ∧ _
        exact ⟨by rw [hD]; rfl, fun _ _ => ⟨b, g1, g1⟩⟩
      · intro w' F G φ' Hr C' hr hC' hk
        simp only [Rel] at hr
        cases C' with
        | row e' t' l' => cases hk
        | box cs =>
          obtain ⟨b', q1, q2⟩ := hr.2 cs hC'
          rw [q1, q2]
        | dead => cases hk

/-- The same base, with other names in view. -/
def Base.with (w0 : Base) (ga : List AV) (gv : List Value) : Base := { w0 with ga := ga, gv := gv }

theorem conW_of (hΓ : TabOK P Γ) (hm : P.follows .mixedOrders = true) {f : FuncId} {fn : Func} {c : Code} {args : List AV} {Ha : Heap} {r : AV} {Hr : Heap} (cfg : Cfg)
    (hf : P.funcs[f]? = some fn) (hname : (fn.name == "runtime.NumGoroutine") = false) (hb : fn.body = some c) (hN : fn.ntmps = cfg.N) (hlen : Nat.ble args.length cfg.N = true)
    (ho : once Ha = true) (hgh : cfg.gh = ghosts Ha) (h : vwp P Γ cfg c (number 0 args) Ha (vend cfg.gh Γ fn.results.toList r Hr)) : ConW P f args Ha r Hr := by
  intro w0 w φ vs hsim hvs
  have hl := hvs.length
  have hle := Nat.le_of_ble_eq_true hlen
  have hrun : (callFunc f vs.toArray).run P w = .ok (.enter f vs.toArray) w := by
    have hp : (program).run P w = .ok P w := rfl
    simp only [callFunc, Sem.run_bind, hp, Result.andThen_ok, hf, hname, hb, Option.isNone, Bool.false_eq_true, if_false, Sem.run_pure]
  unfold CallsF
  rw [hrun]
  refine calls_of_wp hf hb ?_
  obtain ⟨us, hus, hgk⟩ := ghosts_rel hsim Ha (fun _ _ h => h) ho
  have hst : St cfg.N (w0.with (ghosts Ha) us) (number 0 args) Ha φ { tmps := vs.toArray ++ Array.replicate (fn.ntmps - vs.toArray.size) undef, defers := [] } w := by
    refine ⟨⟨⟨hsim.below.os, hsim.below.tape, hsim.below.output, hsim.below.size, hsim.below.block⟩, hsim.good, hsim.fresh, hsim.inj, fun w' k => hsim.keep w' ⟨k.os, k.tape, k.output, k.size, k.block⟩⟩, fun s => ?_, rfl, by simp; omega, hus⟩
    rw [number_get]
    simp only [Nat.not_lt_zero, if_false, Nat.sub_zero]
    cases ha : args[s]? with
    | none => simp only [Option.getD_none, Rel]
    | some av =>
      obtain ⟨u, h1, h2⟩ := RelL.get hvs s av ha
      simp only [Option.getD_some]
      have hs : s < vs.length := (List.getElem?_eq_some_iff.1 h1).1
      have : (vs.toArray ++ Array.replicate (fn.ntmps - vs.toArray.size) undef).getD s undef = u := by
        simp only [Array.getD_eq_getD_getElem?]
        rw [Array.getElem?_append_left (by simpa using hs)]
        simp [h1]
      rw [this]
      exact h2
  have fin : ∀ (e : Exit) (E' : Env) (H' : Heap) (φ' : Nat → Value) (a' : Act) (w' : World), St cfg.N (w0.with (ghosts Ha) us) E' H' φ' a' w' → vret cfg.gh Γ fn.results.toList E' H' r Hr →
      a'.defers = [] ∧ ∃ v, (results fn a'.tmps).run P w' = .ok v w' ∧ ∃ v', Ending.returned v = Ending.returned v' ∧ ∃ φ', Sim w0 w' φ' Hr ∧ Rel w' (Gr w0 φ' Hr) (Gr w0 φ' Hr) φ' Hr r v' ∧
        ∀ id C C', hget Ha id = some C → hget Hr id = some C' → kindB C C' = true → φ' id = φ id := by
    intro e E' H' φ' a' w' hs' hq
    rw [hgh] at hq
    obtain ⟨v, φ2, h1, h2, h3, h4⟩ := vret_run hΓ hs' hq
    exact ⟨hs'.defers, v, h1, v, rfl, φ2, ⟨⟨h2.below.os, h2.below.tape, h2.below.output, h2.below.size, h2.below.block⟩, h2.good, h2.fresh, h2.inj, hsim.keep⟩, h3, hgk w' _ _ φ2 Hr h4⟩
  refine wp_mono (vwp_sound hΓ hm cfg (by rw [hgh]; rfl) c _ _ _ h _ _ _ hst) ?_
  rintro e a' w' ⟨E', H', φ', hq, hs'⟩
  cases e with
  | normal => exact fin .normal E' H' φ' a' w' hs' hq
  | ret => exact fin .ret E' H' φ' a' w' hs' hq
  | exit id => exact hq.elim
  | goto l => exact hq.elim
  | panic ch => exact hq.elim
  | outgrown => exact hq.elim

theorem con_conW {f : FuncId} {args : List AV} {r : AV} {Hr : Heap} (h : ConW P f args [] r Hr) : Con P f args r Hr := by
  intro w vs hk hvs
  refine (h (Base.all w) w φ0 vs ⟨Onto.refl _ _, fun _ _ h => (by cases h), fun _ _ ⟨_, h, _⟩ => (by cases h), fun _ _ _ ⟨_, h, _⟩ => (by cases h), hk⟩ ?_).mono fun v w' ⟨φ', h1, h2, _⟩ => ⟨φ', h1, h2⟩
  exact RelL.keep (Nat.le_refl _) (fun b _ _ => ⟨rfl, fun i ⟨_, h, _⟩ => (by cases h)⟩) (fun b h _ => h.elim) (HKeeps.refl _ _) _ _ hvs

theorem con_of (hΓ : TabOK P Γ) (hm : P.follows .mixedOrders = true) {f : FuncId} {fn : Func} {c : Code} {args : List AV} {r : AV} {Hr : Heap} (cfg : Cfg)
    (hf : P.funcs[f]? = some fn) (hname : (fn.name == "runtime.NumGoroutine") = false) (hb : fn.body = some c) (hN : fn.ntmps = cfg.N) (hlen : Nat.ble args.length cfg.N = true)
    (hgh : cfg.gh = []) (h : vwp P Γ cfg c (number 0 args) [] (vend cfg.gh Γ fn.results.toList r Hr)) : Con P f args r Hr :=
  con_conW (conW_of hΓ hm cfg hf hname hb hN hlen rfl hgh h)
end con
end Go.V

namespace Go.V
open Go.RowKit

section
variable {P : Program}

theorem con_extern {f : FuncId} {fn : Func} {e : Array Value → Sem Value} {args : List AV} {r : AV} (hf : P.funcs[f]? = some fn) (hname : (fn.name == "runtime.NumGoroutine") = false)
    (hb : fn.body.isNone = true) (hn : Extern.findNext fn = none) (he : Extern.find fn = some e)
    (h : ∀ (w : World) (vs : List Value), ArgRels w args vs → ∃ v w', (e vs.toArray).run P w = .ok v w' ∧ Below w.heap.size w w' ∧ Rel w' (Gr (Base.all w) φ0 []) (Gr (Base.all w) φ0 []) φ0 [] r v) :
    Con P f args r [] := by
  intro w vs hk hvs
  obtain ⟨v, w', h1, h2, h3⟩ := h w vs hvs
  unfold CallsF
  rw [run_callFunc_extern hf hname hb hn he, h1]
  exact ⟨φ0, ⟨⟨h2.os, h2.tape, h2.output, h2.size, h2.block⟩, fun _ _ h => (by cases h), fun _ _ ⟨_, h, _⟩ => (by cases h), fun _ _ _ ⟨_, h, _⟩ => (by cases h), hk⟩, h3⟩

/-- What is known to be one of a number's words may be taken as a word. -/
theorem con_flt1 {f : FuncId} {k : FloatKind} {x : Nat} {post : List AV} {r : AV} {Hr : Heap} (h : ∀ b, FV k b x → Con P f (.val (.float k b) :: post) r Hr) : Con P f (.flt k x :: post) r Hr := by
  intro w vs hk hvs
  obtain ⟨v, vs', e1, e2, e3⟩ := hvs
  simp only [Rel] at e2
  obtain ⟨b, rfl, hb⟩ := e2
  exact h b hb w vs hk ⟨_, _, e1, by simp only [Rel], e3⟩
theorem con_flt2 {f : FuncId} {k : FloatKind} {x : Nat} {a : AV} {post : List AV} {r : AV} {Hr : Heap} (h : ∀ b, FV k b x → Con P f (a :: .val (.float k b) :: post) r Hr) : Con P f (a :: .flt k x :: post) r Hr := by
  intro w vs hk hvs
  obtain ⟨u, us, e0, ea, v, vs', e1, e2, e3⟩ := hvs
  simp only [Rel] at e2
  obtain ⟨b, rfl, hb⟩ := e2
  exact h b hb w vs hk ⟨_, _, e0, ea, _, _, e1, by simp only [Rel], e3⟩

theorem con_word {f : FuncId} {args : List AV} {k : FloatKind} {c y : Nat} (h : Con P f args (.val (.float k c)) []) (hc : FV k c y) : Con P f args (.flt k y) [] := by
  intro w vs hk hvs
  refine (h w vs hk hvs).mono ?_
  rintro v w' ⟨φ, h1, h2⟩
  simp only [Rel] at h2
  subst h2
  exact ⟨φ, h1, by simp only [Rel]; exact ⟨c, rfl, hc⟩⟩

theorem con_bits {f : FuncId} {fn : Func} (hf : P.funcs[f]? = some fn) (hname : (fn.name == "runtime.NumGoroutine") = false)
    (hb : fn.body.isNone = true) (hn : Extern.findNext fn = none) (he : Extern.find fn = some Extern.MathFloatBits.float64bits) (b : Nat) :
    Con P f [.val (.float .f64 b)] (.val (.int .u64 b)) [] := by
  refine con_extern hf hname hb hn he fun w vs hvs => ?_
  obtain ⟨v, vs', rfl, e2, e3⟩ := hvs
  simp only [Rel] at e2
  subst e2
  simp only [RelL] at e3
  subst e3
  exact ⟨_, w, rfl, Below.refl _ _, by simp only [Rel]⟩
theorem con_frombits {f : FuncId} {fn : Func} (hf : P.funcs[f]? = some fn) (hname : (fn.name == "runtime.NumGoroutine") = false)
    (hb : fn.body.isNone = true) (hn : Extern.findNext fn = none) (he : Extern.find fn = some Extern.MathFloatBits.float64frombits) (n : Int) :
    Con P f [.val (.int .u64 n)] (.val (.float .f64 n.toNat)) [] := by
  refine con_extern hf hname hb hn he fun w vs hvs => ?_
  obtain ⟨v, vs', rfl, e2, e3⟩ := hvs
  simp only [Rel] at e2
  subst e2
  simp only [RelL] at e3
  subst e3
  exact ⟨_, w, rfl, Below.refl _ _, by simp only [Rel]⟩

/-- Toward an integer. -/
def fint (way : Ieee.Toward) (x : Nat) : Nat :=
  if isNan .f64 x then qnan .f64 else canon .f64 (FloatKind.f64.encode ((FloatKind.f64.decode x).integral way))

theorem quiet_nan (sg : Bool) (t : Nat) : isNan .f64 (FloatKind.f64.encode (.nan sg (FloatKind.f64.format.quiet t))) = true := by
  have e2 : FloatKind.f64.format.signWeight = 9223372036854775808 := by decide +kernel
  have e3 : FloatKind.f64.format.infRung = 9218868437227405312 := by decide +kernel
  have e4 : FloatKind.f64.format.binade = 2 ^ 52 := by decide +kernel
  have e5 : FloatKind.f64.format.quiet t = t ||| 2 ^ 51 := rfl
  rw [nan_iff, e2, e3, e5]
  simp only [FloatKind.encode, Ieee.Format.write, Ieee.Format.word, e2, e3, e4, decide_eq_true_eq]
  have hne : (t ||| 2 ^ 51) % 2 ^ 52 ≠ 0 := by
    intro h
    have h1 : ((t ||| 2 ^ 51) % 2 ^ 52).testBit 51 = true := by
      rw [Nat.testBit_mod_two_pow, Nat.testBit_or, Nat.testBit_two_pow_self]; simp
    rw [h] at h1
    simp at h1
  have hlt : (t ||| 2 ^ 51) % 2 ^ 52 < 2 ^ 52 := Nat.mod_lt _ (by decide)
  generalize (t ||| 2 ^ 51) % 2 ^ 52 = c at *
  cases sg <;> simp <;> omega

theorem con_fint {f : FuncId} {fn : Func} {name : String} {way : Ieee.Toward} (hf : P.funcs[f]? = some fn) (hname : (fn.name == "runtime.NumGoroutine") = false)
    (hb : fn.body.isNone = true) (hn : Extern.findNext fn = none) (he : Extern.find fn = some (Extern.MathFloor.toIntegral name way)) (x : Nat) :
    Con P f [.flt .f64 x] (.flt .f64 (fint way x)) [] := by
  refine con_extern hf hname hb hn he fun w vs hvs => ?_
  obtain ⟨v, vs', rfl, e2, e3⟩ := hvs
  simp only [Rel] at e2
  obtain ⟨b, rfl, hbx⟩ := e2
  simp only [RelL] at e3
  subst e3
  have hnan := hbx.nan
  have isn : isNan .f64 b = (FloatKind.f64.decode b).isNaN := rfl
  show ∃ v w', (Extern.MathFloor.toIntegral name way #[.float .f64 b]).run P w = .ok v w' ∧ _
  have key : Extern.MathFloor.toIntegral name way #[.float .f64 b] = (match FloatKind.f64.decode b with
      | .nan s t =>
        if FloatKind.f64.format.quiet t = t then pure (.float .f64 b) else do
        let kept ← choose (.extern "math.Floor,Ceil,Trunc,RoundToEven.signallingNaN kept" 2)
        pure (.float .f64 (if kept == 1 then b else FloatKind.f64.encode (.nan s (FloatKind.f64.format.quiet t))))
      | d => pure (.float .f64 (FloatKind.f64.encode (d.integral way)))) := rfl
  rw [key]
  cases hd : FloatKind.f64.decode b with
  | nan sg t =>
    have hb1 : isNan .f64 b = true := by rw [isn, hd]; rfl
    have hx1 : isNan .f64 x = true := by rw [← hnan]; exact hb1
    have res : ∀ c, c < 2 ^ FloatKind.f64.format.width → isNan .f64 c = true → FV .f64 c (fint way x) := fun c h1 h2 => ⟨h1, by simp [canon, h2, fint, hx1]⟩
    simp only
    by_cases hq : FloatKind.f64.format.quiet t = t
    · rw [if_pos hq]
      exact ⟨_, w, rfl, Below.refl _ _, by simp only [Rel]; exact ⟨b, rfl, res b hbx.1 hb1⟩⟩
    · rw [if_neg hq]
      refine ⟨_, _, rfl, ⟨rfl, rfl, rfl, Nat.le_refl _, fun _ _ => rfl⟩, ?_⟩
      simp only [Rel]
      refine ⟨_, rfl, ?_⟩
      split
      · exact res b hbx.1 hb1
      · exact res _ (FloatKind.f64.format.write_lt _) (quiet_nan sg t)
  | number sg mg pl =>
    have hb1 : isNan .f64 b = false := by rw [isn, hd]; rfl
    have hx1 : isNan .f64 x = false := by rw [← hnan]; exact hb1
    have := hbx.eq_of hb1
    subst this
    refine ⟨_, w, rfl, Below.refl _ _, ?_⟩
    simp only [Rel]
    refine ⟨_, rfl, ⟨FloatKind.f64.format.write_lt _, ?_⟩⟩
    simp [fint, hx1, hd]
  | infinity sg =>
    have hb1 : isNan .f64 b = false := by rw [isn, hd]; rfl
    have hx1 : isNan .f64 x = false := by rw [← hnan]; exact hb1
    have := hbx.eq_of hb1
    subst this
    refine ⟨_, w, rfl, Below.refl _ _, ?_⟩
    simp only [Rel]
    refine ⟨_, rfl, ⟨FloatKind.f64.format.write_lt _, ?_⟩⟩
    simp [fint, hx1, hd]
end
end Go.V

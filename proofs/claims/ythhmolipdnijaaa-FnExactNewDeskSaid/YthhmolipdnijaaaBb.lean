/- What is the same, desks. -/
import Derived.Test.YthhmolipdnijaaaBa
set_option linter.unusedVariables false
set_option linter.unusedSimpArgs false
set_option linter.unnecessarySimpa false
open Go Go.V Go.Proofs
namespace Go.R
set_option maxRecDepth 100000

theorem c_bits32 {x : Nat} (h : isNan .f32 x = false) : Con Try.prog 191 [.flt .f32 x] (.val (.int .u32 x)) [] := con_bits32 rfl (by decide) rfl rfl rfl h
theorem c_bits64 {x : Nat} (h : isNan .f64 x = false) : Con Try.prog 202 [.flt .f64 x] (.val (.int .u64 x)) [] := con_bits64 rfl (by decide) rfl rfl rfl h

theorem c_l01Bits (x : Nat) (hx : x < 4294967296) : Con Try.prog 175 [fv x] (iv (bitsF x)) [] := by
  refine con_of tabOK mixed ⟨9, [0,1,2,3,4,5,6,7,8], [], []⟩ rfl (by decide) rfl rfl rfl rfl ?_
  conv => whnf
  refine ⟨fun h => ?_, fun h => ?_⟩
  · conv => whnf
    exact out0 rfl (show _ = _ by rw [bitsF, nt h]; rfl)
  · have hn : isNan .f32 x = false := by
      have := nf h
      rw [feq_nan] at this
      simpa using this
    conv => whnf
    refine .inl ⟨_, _, c_bits32 hn, rfl, ?_⟩
    conv => whnf
    refine out0 rfl (show _ = _ from ?_)
    rw [bitsF, nf h, wrap_id (by omega) (by omega)]
    rfl

theorem c_l01Same (a b : Nat) (ha : a < 4294967296) (hb : b < 4294967296) : Con Try.prog 135 [fv a, fv b] (bv (decide (bitsF a = bitsF b))) [] := by
  refine con_of tabOK mixed ⟨10, [0,1,2,3,4,5,6,7,8,9], [], []⟩ rfl (by decide) rfl rfl rfl rfl ?_
  conv => whnf
  refine .inl ⟨_, _, c_l01Bits a ha, rfl, ?_⟩
  conv => whnf
  refine .inl ⟨_, _, c_l01Bits b hb, rfl, ?_⟩
  conv => whnf
  exact out0 rfl rfl

theorem c_Signbit (x : Nat) (h : isNan .f64 x = false) : Con Try.prog 192 [.flt .f64 x] (bv (decide (IntKind.i64.wrap (x : Int) < 0))) [] := by
  refine con_of tabOK mixed ⟨7, [0,1,2,3,4,5,6], [], []⟩ rfl (by decide) rfl rfl rfl rfl ?_
  conv => whnf
  refine .inl ⟨_, _, c_bits64 h, rfl, ?_⟩
  conv => whnf
  exact out0 rfl rfl

theorem widen_nan {x : Nat} (h : isNan .f32 x = false) : isNan .f64 (fcvt .f32 .f64 x) = false := by
  cases hr : FloatKind.f32.format.read x with
  | nan s t => unfold isNan at h; rw [hr] at h; cases h
  | number g m e =>
    obtain ⟨m', i, h2⟩ := widen_num hr
    unfold isNan; rw [h2]; rfl
  | infinity g =>
    have h4 : fcvt .f32 .f64 x = canon .f64 (FloatKind.f64.encode (.infinity g)) := by
      unfold fcvt FloatKind.decode; rw [if_neg (by decide), hr]
    rw [h4]
    cases g <;> decide +kernel

theorem c_SameNumber (a b : Nat) : Con Try.prog 162 [fv a, fv b] (bv (sameB a b)) [] := by
  refine con_of tabOK mixed ⟨33, [0,1,2,3,4,5,6,7,8,9,10,11,12,13,14,15,16,17,18,19,20,21,22,23,24,25,26,27,28,29,30,31,32], [], []⟩ rfl (by decide) rfl rfl rfl rfl ?_
  have nn : ∀ {x : Nat}, (!feq .f32 x x) = false → isNan .f32 x = false := fun {x} h => by
    have := nf h
    rw [feq_nan] at this
    simpa using this
  have yes : (!feq .f32 a a || !feq .f32 b b) = true → sameB a b = (!feq .f32 a a && !feq .f32 b b) := fun h => by rw [sameB, if_pos h]
  conv => whnf
  refine ⟨fun h1 => ?_, fun h1 => ?_⟩
  · conv => whnf
    refine ⟨fun h2 => ?_, fun h2 => ?_⟩
    · conv => whnf
      exact out0 rfl (show _ = _ by rw [yes (by rw [h1]; rfl), h1, Bool.true_and])
    · rw [h1] at h2; cases h2
  · conv => whnf
    refine ⟨fun h2 => ?_, fun h2 => ?_⟩
    · conv => whnf
      refine ⟨fun h3 => ?_, fun h3 => ?_⟩
      · rw [h1] at h3; cases h3
      · conv => whnf
        exact out0 rfl (show _ = _ by rw [yes (by rw [h2, Bool.or_true]), h1, Bool.false_and])
    · have no : sameB a b = (feq .f32 a b && (sgB a == sgB b)) := by rw [sameB, if_neg (by rw [h1, h2]; decide)]
      conv => whnf
      refine ⟨fun h3 => ?_, fun h3 => ?_⟩
      · conv => whnf
        refine .inl ⟨_, _, c_Signbit _ (widen_nan (nn h1)), rfl, ?_⟩
        conv => whnf
        refine .inl ⟨_, _, c_Signbit _ (widen_nan (nn h2)), rfl, ?_⟩
        conv => whnf
        exact out0 rfl (show _ = _ by rw [no, h3, Bool.true_and]; rfl)
      · conv => whnf
        exact out0 rfl (show _ = _ by rw [no, h3, Bool.false_and])

theorem c_l01SameAll  (l r : List (STy.S (f3))) (hl : l.length ≤ maxLen) (hb : (∀ x ∈ l, x < 4294967296) ∧ ∀ x ∈ r, x < 4294967296) : Con Try.prog 134 [.sl false (f3) l, .sl false (f3) r] (bv (eqL (fun a b => decide (bitsF a = bitsF b)) l r)) [] := by
  refine con_of tabOK mixed ⟨27, [0,1,2,3,4,5,6,7,8,9,10,11,12,13,14,15,16,17,18,19,20,21,22,23,24,25,26], [], []⟩ rfl (by decide) rfl rfl rfl rfl ?_
  conv => whnf
  refine ⟨fun h => ?_, fun h => ?_⟩
  · conv => whnf
    refine out0 rfl (show _ = _ from ?_)
    rw [eqL_ne l r (ne_of_dec h)]
  have heq : l.length = r.length := eq_of_dec h
  conv => whnf
  refine ⟨Nat, fun i => [(0, .sl false (f3) l), (1, .sl false (f3) r), (5, iv i)], fun _ => [], fun i => i ≤ l.length ∧ eqL (fun a b => decide (bitsF a = bitsF b)) l r = eqL (fun a b => decide (bitsF a = bitsF b)) (l.drop i) (r.drop i), fun i => l.length - i, 0, ?_, ?_, fun i hi => ?_⟩
  · exact weak0 ⟨⟨trivial, rfl⟩, ⟨trivial, rfl⟩, rfl, trivial⟩
  · exact ⟨Nat.zero_le _, rfl⟩
  obtain ⟨hi, hk⟩ := hi
  conv => whnf
  refine ⟨fun h => ?_, fun h => ?_⟩
  · have hlt : i < l.length := lt_of_dec h
    have hlt2 : i < r.length := by omega
    rw [List.drop_eq_getElem_cons hlt, List.drop_eq_getElem_cons hlt2, eqL] at hk
    conv => whnf
    refine ⟨by decide +kernel, ?_⟩
    conv => whnf
    refine idx hlt ?_
    conv => whnf
    refine idx hlt2 ?_
    conv => whnf
    refine ⟨_, c_l01Same l[i] r[i] (hb.1 _ (List.getElem_mem hlt)) (hb.2 _ (List.getElem_mem hlt2)), ?_⟩
    conv => whnf
    refine ⟨fun h => ?_, fun h => ?_⟩
    all_goals (first | replace h := nt h | replace h := nf h)
    · conv => whnf
      refine out0 rfl (show _ = _ from ?_)
      rw [hk, h, Bool.false_and]
    · conv => whnf
      rw [h, Bool.true_and] at hk
      refine ⟨i + 1, weak0 ⟨⟨trivial, rfl⟩, ⟨trivial, rfl⟩, ?_, trivial⟩, ⟨hlt, hk⟩, ?_⟩
      · show _ = _
        rw [wrap_succ hlt hl]
      · show l.length - (i + 1) < l.length - i
        omega
  · have hlt : i = l.length := Nat.le_antisymm hi (ge_of_dec h)
    conv => whnf
    refine out0 rfl (show _ = _ from ?_)
    rw [hk, hlt, List.drop_length, heq, List.drop_length]
    rfl

theorem c_l06SameList  (l r : List (STy.S (i6))) (hl : l.length ≤ maxLen) : Con Try.prog 136 [.sl false (i6) l, .sl false (i6) r] (bv (eqL (fun a b => decide (a = b)) l r)) [] := by
  refine con_of tabOK mixed ⟨26, [0,1,2,3,4,5,6,7,8,9,10,11,12,13,14,15,16,17,18,19,20,21,22,23,24,25], [], []⟩ rfl (by decide) rfl rfl rfl rfl ?_
  conv => whnf
  refine ⟨fun h => ?_, fun h => ?_⟩
  · conv => whnf
    refine out0 rfl (show _ = _ from ?_)
    rw [eqL_ne l r (ne_of_dec h)]
  have heq : l.length = r.length := eq_of_dec h
  conv => whnf
  refine ⟨Nat, fun i => [(0, .sl false (i6) l), (1, .sl false (i6) r), (5, iv i)], fun _ => [], fun i => i ≤ l.length ∧ eqL (fun a b => decide (a = b)) l r = eqL (fun a b => decide (a = b)) (l.drop i) (r.drop i), fun i => l.length - i, 0, ?_, ?_, fun i hi => ?_⟩
  · exact weak0 ⟨⟨trivial, rfl⟩, ⟨trivial, rfl⟩, rfl, trivial⟩
  · exact ⟨Nat.zero_le _, rfl⟩
  obtain ⟨hi, hk⟩ := hi
  conv => whnf
  refine ⟨fun h => ?_, fun h => ?_⟩
  · have hlt : i < l.length := lt_of_dec h
    have hlt2 : i < r.length := by omega
    rw [List.drop_eq_getElem_cons hlt, List.drop_eq_getElem_cons hlt2, eqL] at hk
    conv => whnf
    refine ⟨by decide +kernel, ?_⟩
    conv => whnf
    refine idx hlt ?_
    conv => whnf
    refine idx hlt2 ?_
    conv => whnf
    refine ⟨fun h => ?_, fun h => ?_⟩
    · have h : decide (l[i] = r[i]) = false := decide_eq_false (of_decide_eq_true h)
      conv => whnf
      refine out0 rfl (show _ = _ from ?_)
      rw [hk, h, Bool.false_and]
    have h : decide (l[i] = r[i]) = true := decide_eq_true (Decidable.byContradiction (of_decide_eq_false h))
    · conv => whnf
      rw [h, Bool.true_and] at hk
      refine ⟨i + 1, weak0 ⟨⟨trivial, rfl⟩, ⟨trivial, rfl⟩, ?_, trivial⟩, ⟨hlt, hk⟩, ?_⟩
      · show _ = _
        rw [wrap_succ hlt hl]
      · show l.length - (i + 1) < l.length - i
        omega
  · have hlt : i = l.length := Nat.le_antisymm hi (ge_of_dec h)
    conv => whnf
    refine out0 rfl (show _ = _ from ?_)
    rw [hk, hlt, List.drop_length, heq, List.drop_length]
    rfl

theorem c_EqualI  (l r : List (STy.S (i6))) (hl : l.length ≤ maxLen) : Con Try.prog 140 [.sl false (i6) l, .sl false (i6) r] (bv (eqL (fun a b => decide (a = b)) l r)) [] := by
  refine con_of tabOK mixed ⟨26, [0,1,2,3,4,5,6,7,8,9,10,11,12,13,14,15,16,17,18,19,20,21,22,23,24,25], [], []⟩ rfl (by decide) rfl rfl rfl rfl ?_
  conv => whnf
  refine ⟨fun h => ?_, fun h => ?_⟩
  · conv => whnf
    refine out0 rfl (show _ = _ from ?_)
    rw [eqL_ne l r (ne_of_dec h)]
  have heq : l.length = r.length := eq_of_dec h
  conv => whnf
  refine ⟨Nat, fun i => [(0, .sl false (i6) l), (1, .sl false (i6) r), (12, iv l.length), (13, iv i)], fun _ => [], fun i => i ≤ l.length ∧ eqL (fun a b => decide (a = b)) l r = eqL (fun a b => decide (a = b)) (l.drop i) (r.drop i), fun i => l.length - i, 0, ?_, ?_, fun i hi => ?_⟩
  · exact weak0 ⟨⟨trivial, rfl⟩, ⟨trivial, rfl⟩, rfl, rfl, trivial⟩
  · exact ⟨Nat.zero_le _, rfl⟩
  obtain ⟨hi, hk⟩ := hi
  conv => whnf
  refine ⟨fun h => ?_, fun h => ?_⟩
  · have hlt : i < l.length := lt_of_dec h
    have hlt2 : i < r.length := by omega
    rw [List.drop_eq_getElem_cons hlt, List.drop_eq_getElem_cons hlt2, eqL] at hk
    conv => whnf
    refine ⟨by decide +kernel, ?_⟩
    conv => whnf
    refine idx hlt ?_
    conv => whnf
    refine idx hlt2 ?_
    conv => whnf
    refine ⟨fun h => ?_, fun h => ?_⟩
    · have h : decide (l[i] = r[i]) = false := decide_eq_false (of_decide_eq_true h)
      conv => whnf
      refine out0 rfl (show _ = _ from ?_)
      rw [hk, h, Bool.false_and]
    have h : decide (l[i] = r[i]) = true := decide_eq_true (Decidable.byContradiction (of_decide_eq_false h))
    · conv => whnf
      rw [h, Bool.true_and] at hk
      refine ⟨i + 1, weak0 ⟨⟨trivial, rfl⟩, ⟨trivial, rfl⟩, rfl, ?_, trivial⟩, ⟨hlt, hk⟩, ?_⟩
      · show _ = _
        rw [wrap_succ hlt hl]
      · show l.length - (i + 1) < l.length - i
        omega
  · have hlt : i = l.length := Nat.le_antisymm hi (ge_of_dec h)
    conv => whnf
    refine out0 rfl (show _ = _ from ?_)
    rw [hk, hlt, List.drop_length, heq, List.drop_length]
    rfl

theorem c_EqualFunc (p : Nat → Nat → Bool) (g : FuncId) (hp : ∀ x y, Con Try.prog g [fv x, fv y] (bv (p x y)) []) (l r : List (STy.S (f3))) (hl : l.length ≤ maxLen) : Con Try.prog 161 [.sl false (f3) l, .sl false (f3) r, .fn g []] (bv (eqL (p) l r)) [] := by
  refine con_of tabOK mixed ⟨32, [0,1,2,3,4,5,6,7,8,9,10,11,12,13,14,15,16,17,18,19,20,21,22,23,24,25,26,27,28,29,30,31], [], []⟩ rfl (by decide) rfl rfl rfl rfl ?_
  conv => whnf
  refine ⟨fun h => ?_, fun h => ?_⟩
  · conv => whnf
    refine out0 rfl (show _ = _ from ?_)
    rw [eqL_ne l r (ne_of_dec h)]
  have heq : l.length = r.length := eq_of_dec h
  conv => whnf
  refine ⟨Nat, fun i => [(1, .sl false (f3) r), (2, .fn g []), (15, .sl false (f3) l), (16, iv l.length), (17, iv i)], fun _ => [], fun i => i ≤ l.length ∧ eqL (p) l r = eqL (p) (l.drop i) (r.drop i), fun i => l.length - i, 0, ?_, ?_, fun i hi => ?_⟩
  · exact weak0 ⟨⟨trivial, rfl⟩, ⟨rfl, rfl⟩, ⟨trivial, rfl⟩, rfl, rfl, trivial⟩
  · exact ⟨Nat.zero_le _, rfl⟩
  obtain ⟨hi, hk⟩ := hi
  conv => whnf
  refine ⟨fun h => ?_, fun h => ?_⟩
  · have hlt : i < l.length := lt_of_dec h
    have hlt2 : i < r.length := by omega
    rw [List.drop_eq_getElem_cons hlt, List.drop_eq_getElem_cons hlt2, eqL] at hk
    conv => whnf
    refine idx hlt ?_
    conv => whnf
    refine idx hlt2 ?_
    conv => whnf
    refine .inl ⟨_, _, hp _ _, rfl, ?_⟩
    conv => whnf
    refine ⟨fun h => ?_, fun h => ?_⟩
    all_goals (first | replace h := nt h | replace h := nf h)
    · conv => whnf
      refine out0 rfl (show _ = _ from ?_)
      rw [hk, h, Bool.false_and]
    · conv => whnf
      rw [h, Bool.true_and] at hk
      refine ⟨i + 1, weak0 ⟨⟨trivial, rfl⟩, ⟨rfl, rfl⟩, ⟨trivial, rfl⟩, rfl, ?_, trivial⟩, ⟨hlt, hk⟩, ?_⟩
      · show _ = _
        rw [wrap_succ hlt hl]
      · show l.length - (i + 1) < l.length - i
        omega
  · have hlt : i = l.length := Nat.le_antisymm hi (ge_of_dec h)
    conv => whnf
    refine out0 rfl (show _ = _ from ?_)
    rw [hk, hlt, List.drop_length, heq, List.drop_length]
    rfl

theorem c_EqualD  (l r : List (STy.S (damT))) (hl : l.length ≤ maxLen) : Con Try.prog 141 [.sl false (damT) l, .sl false (damT) r] (bv (eqL (fun a b : Dam => (decide (a.1 = b.1) && (decide (a.2.1 = b.2.1) && (decide (a.2.2.1 = b.2.2.1) && (decide (a.2.2.2 = b.2.2.2) && true))))) l r)) [] := by
  refine con_of tabOK mixed ⟨26, [0,1,2,3,4,5,6,7,8,9,10,11,12,13,14,15,16,17,18,19,20,21,22,23,24,25], [], []⟩ rfl (by decide) rfl rfl rfl rfl ?_
  conv => whnf
  refine ⟨fun h => ?_, fun h => ?_⟩
  · conv => whnf
    refine out0 rfl (show _ = _ from ?_)
    rw [eqL_ne l r (ne_of_dec h)]
  have heq : l.length = r.length := eq_of_dec h
  conv => whnf
  refine ⟨Nat, fun i => [(0, .sl false (damT) l), (1, .sl false (damT) r), (12, iv l.length), (13, iv i)], fun _ => [], fun i => i ≤ l.length ∧ eqL (fun a b : Dam => (decide (a.1 = b.1) && (decide (a.2.1 = b.2.1) && (decide (a.2.2.1 = b.2.2.1) && (decide (a.2.2.2 = b.2.2.2) && true))))) l r = eqL (fun a b : Dam => (decide (a.1 = b.1) && (decide (a.2.1 = b.2.1) && (decide (a.2.2.1 = b.2.2.1) && (decide (a.2.2.2 = b.2.2.2) && true))))) (l.drop i) (r.drop i), fun i => l.length - i, 0, ?_, ?_, fun i hi => ?_⟩
  · exact weak0 ⟨⟨trivial, rfl⟩, ⟨trivial, rfl⟩, rfl, rfl, trivial⟩
  · exact ⟨Nat.zero_le _, rfl⟩
  obtain ⟨hi, hk⟩ := hi
  conv => whnf
  refine ⟨fun h => ?_, fun h => ?_⟩
  · have hlt : i < l.length := lt_of_dec h
    have hlt2 : i < r.length := by omega
    rw [List.drop_eq_getElem_cons hlt, List.drop_eq_getElem_cons hlt2, eqL] at hk
    conv => whnf
    refine ⟨by decide +kernel, ?_⟩
    conv => whnf
    refine idx hlt ?_
    conv => whnf
    refine idx hlt2 ?_
    conv => whnf
    refine ⟨fun h => ?_, fun h => ?_⟩
    all_goals (first | replace h := nt h | replace h := nf h)
    · conv => whnf
      refine out0 rfl (show _ = _ from ?_)
      rw [hk, h, Bool.false_and]
    · conv => whnf
      rw [h, Bool.true_and] at hk
      refine ⟨i + 1, weak0 ⟨⟨trivial, rfl⟩, ⟨trivial, rfl⟩, rfl, ?_, trivial⟩, ⟨hlt, hk⟩, ?_⟩
      · show _ = _
        rw [wrap_succ hlt hl]
      · show l.length - (i + 1) < l.length - i
        omega
  · have hlt : i = l.length := Nat.le_antisymm hi (ge_of_dec h)
    conv => whnf
    refine out0 rfl (show _ = _ from ?_)
    rw [hk, hlt, List.drop_length, heq, List.drop_length]
    rfl

theorem c_sameNumbers (l r : List Nat) (hl : l.length ≤ maxLen) : Con Try.prog 97 [.sl false f3 l, .sl false f3 r] (bv (eqL sameB l r)) [] := by
  refine con_of tabOK mixed ⟨8, [0,1,2,3,4,5,6,7], [], []⟩ rfl (by decide) rfl rfl rfl rfl ?_
  conv => whnf
  refine .inl ⟨_, _, c_EqualFunc sameB _ c_SameNumber l r hl, rfl, ?_⟩
  conv => whnf
  exact out0 rfl rfl

end Go.R

open Go Go.V Go.Proofs
namespace Go.R
set_option maxRecDepth 100000

abbrev bs (a b : Nat) : Bool := decide (bitsF a = bitsF b)
abbrev okL (l : List Nat) : Prop := ∀ x ∈ l, FV .f32 x x
theorem lt_ok {x : Nat} (h : FV .f32 x x) : x < 4294967296 := by
  have e0 : (2 : Nat) ^ FloatKind.f32.format.width = 4294967296 := by decide +kernel
  have := h.1; rw [e0] at this; exact this
theorem lts_ok {l r : List Nat} (h : okL l) (h' : okL r) : (∀ x ∈ l, x < 4294967296) ∧ ∀ x ∈ r, x < 4294967296 := ⟨fun x hx => lt_ok (h x hx), fun x hx => lt_ok (h' x hx)⟩
structure OkDesk (d : Desk) : Prop where
  hill : okL d.1.2.2
  a1 : FV .f32 d.2.1.1 d.2.1.1
  a2 : FV .f32 d.2.1.2.1 d.2.1.2.1
  a3 : FV .f32 d.2.1.2.2.1 d.2.1.2.2.1
  a4 : FV .f32 d.2.1.2.2.2.1 d.2.1.2.2.2.1
  a5 : FV .f32 d.2.1.2.2.2.2 d.2.1.2.2.2.2
  b1 : FV .f32 d.2.2.1.1 d.2.2.1.1
  b2 : FV .f32 d.2.2.1.2.1 d.2.2.1.2.1
  b3 : FV .f32 d.2.2.1.2.2.1 d.2.2.1.2.2.1
  b4 : FV .f32 d.2.2.1.2.2.2 d.2.2.1.2.2.2
abbrev okS (s : Soil) : Prop := FV .f32 s.1 s.1 ∧ FV .f32 s.2.1 s.2.1 ∧ FV .f32 s.2.2.1 s.2.2.1 ∧ FV .f32 s.2.2.2.1 s.2.2.2.1 ∧ FV .f32 s.2.2.2.2 s.2.2.2.2
abbrev okT (s : Sect) : Prop := FV .f32 s.1 s.1 ∧ FV .f32 s.2.1 s.2.1 ∧ FV .f32 s.2.2.1 s.2.2.1 ∧ FV .f32 s.2.2.2 s.2.2.2

theorem c_l02Same (a b : Hill) (ra rb : List AV) (hl : a.2.2.length ≤ maxLen) (ha : okL a.2.2) (hb : okL b.2.2) : Con Try.prog 66 [.ptrR (hillC a ++ ra), .ptrR (hillC b ++ rb)] (bv (decide (a.1 = b.1) && (decide (a.2.1 = b.2.1) && eqL bs a.2.2 b.2.2))) [] := by
  refine con_of tabOK mixed ⟨36, [0,1,2,3,4,5,6,7,8,9,10,11,12,13,14,15,16,17,18,19,20,21,22,23,24,25,26,27,28,29,30,31,32,33,34,35], [], []⟩ rfl (by decide) rfl rfl rfl rfl ?_
  repeat' (conv => whnf
           first
           | exact out0 rfl (show _ = _ by simp only [*, Bool.true_and, Bool.false_and, Bool.and_true, Bool.and_false, Bool.true_or, Bool.false_or, Bool.or_true, Bool.or_false, Bool.not_true, Bool.not_false])
           | refine ⟨fun _ => ?_, fun _ => ?_⟩
           | refine ⟨_, c_l01SameAll _ _ hl (lts_ok ha hb), ?_⟩
           | refine ⟨by decide +kernel, ?_⟩)


theorem c_l03Same (a b : Soil) (ra rb : List AV) (ha : okS a) (hb : okS b) : Con Try.prog 67 [.ptrR (soilC a ++ ra), .ptrR (soilC b ++ rb)] (bv (bs a.1 b.1 && (bs a.2.1 b.2.1 && (bs a.2.2.1 b.2.2.1 && (bs a.2.2.2.1 b.2.2.2.1 && bs a.2.2.2.2 b.2.2.2.2))))) [] := by
  refine con_of tabOK mixed ⟨58, [0,1,2,3,4,5,6,7,8,9,10,11,12,13,14,15,16,17,18,19,20,21,22,23,24,25,26,27,28,29,30,31,32,33,34,35,36,37,38,39,40,41,42,43,44,45,46,47,48,49,50,51,52,53,54,55,56,57], [], []⟩ rfl (by decide) rfl rfl rfl rfl ?_
  repeat' (conv => whnf
           first
           | exact out0 rfl (show _ = _ by simp only [*, Bool.true_and, Bool.false_and, Bool.and_true, Bool.and_false, Bool.true_or, Bool.false_or, Bool.or_true, Bool.or_false, Bool.not_true, Bool.not_false])
           | refine ⟨fun _ => ?_, fun _ => ?_⟩
           | refine ⟨_, c_l01Same a.1 b.1 (lt_ok ha.1) (lt_ok hb.1), ?_⟩
           | refine ⟨_, c_l01Same a.2.1 b.2.1 (lt_ok ha.2.1) (lt_ok hb.2.1), ?_⟩
           | refine ⟨_, c_l01Same a.2.2.1 b.2.2.1 (lt_ok ha.2.2.1) (lt_ok hb.2.2.1), ?_⟩
           | refine ⟨_, c_l01Same a.2.2.2.1 b.2.2.2.1 (lt_ok ha.2.2.2.1) (lt_ok hb.2.2.2.1), ?_⟩
           | refine ⟨_, c_l01Same a.2.2.2.2 b.2.2.2.2 (lt_ok ha.2.2.2.2) (lt_ok hb.2.2.2.2), ?_⟩
           | refine ⟨by decide +kernel, ?_⟩)


theorem c_l04Same (a b : Sect) (ra rb : List AV) (ha : okT a) (hb : okT b) : Con Try.prog 68 [.ptrR (sectC a ++ ra), .ptrR (sectC b ++ rb)] (bv (bs a.1 b.1 && (bs a.2.1 b.2.1 && (bs a.2.2.1 b.2.2.1 && bs a.2.2.2 b.2.2.2)))) [] := by
  refine con_of tabOK mixed ⟨47, [0,1,2,3,4,5,6,7,8,9,10,11,12,13,14,15,16,17,18,19,20,21,22,23,24,25,26,27,28,29,30,31,32,33,34,35,36,37,38,39,40,41,42,43,44,45,46], [], []⟩ rfl (by decide) rfl rfl rfl rfl ?_
  repeat' (conv => whnf
           first
           | exact out0 rfl (show _ = _ by simp only [*, Bool.true_and, Bool.false_and, Bool.and_true, Bool.and_false, Bool.true_or, Bool.false_or, Bool.or_true, Bool.or_false, Bool.not_true, Bool.not_false])
           | refine ⟨fun _ => ?_, fun _ => ?_⟩
           | refine ⟨_, c_l01Same a.1 b.1 (lt_ok ha.1) (lt_ok hb.1), ?_⟩
           | refine ⟨_, c_l01Same a.2.1 b.2.1 (lt_ok ha.2.1) (lt_ok hb.2.1), ?_⟩
           | refine ⟨_, c_l01Same a.2.2.1 b.2.2.1 (lt_ok ha.2.2.1) (lt_ok hb.2.2.1), ?_⟩
           | refine ⟨_, c_l01Same a.2.2.2 b.2.2.2 (lt_ok ha.2.2.2) (lt_ok hb.2.2.2), ?_⟩
           | refine ⟨by decide +kernel, ?_⟩)


abbrev dp : Dam → Dam → Bool := (fun a b : Dam => (decide (a.1 = b.1) && (decide (a.2.1 = b.2.1) && (decide (a.2.2.1 = b.2.2.1) && (decide (a.2.2.2 = b.2.2.2) && true)))))
abbrev ie : Int → Int → Bool := fun a b => decide (a = b)
theorem c_l06Same (a b : River) (h1 : a.1.length ≤ maxLen) (h2 : a.2.1.length ≤ maxLen) (h3 : a.2.2.length ≤ maxLen) : Con Try.prog 69 [.ptrR (riverC a), .ptrR (riverC b)] (bv (eqL ie a.1 b.1 && (eqL ie a.2.2 b.2.2 && eqL dp a.2.1 b.2.1))) [] := by
  refine con_of tabOK mixed ⟨65, [0,1,2,3,4,5,6,7,8,9,10,11,12,13,14,15,16,17,18,19,20,21,22,23,24,25,26,27,28,29,30,31,32,33,34,35,36,37,38,39,40,41,42,43,44,45,46,47,48,49,50,51,52,53,54,55,56,57,58,59,60,61,62,63,64], [], []⟩ rfl (by decide) rfl rfl rfl rfl ?_
  conv => whnf
  refine ⟨by decide +kernel, ?_⟩
  conv => whnf
  refine ⟨_, c_l06SameList _ _ h1, ?_⟩
  conv => whnf
  refine ⟨fun c1 => ?_, fun c1 => ?_⟩
  · conv => whnf
    exact out0 rfl (show _ = _ by rw [nt c1, Bool.false_and])
  rw [nf c1, Bool.true_and]
  conv => whnf
  refine ⟨_, c_l06SameList _ _ h3, ?_⟩
  conv => whnf
  refine ⟨fun c2 => ?_, fun c2 => ?_⟩
  · conv => whnf
    exact out0 rfl (show _ = _ by rw [nt c2, Bool.false_and])
  rw [nf c2, Bool.true_and]
  conv => whnf
  refine ⟨fun c3 => ?_, fun c3 => ?_⟩
  · conv => whnf
    exact out0 rfl (show _ = _ by rw [eqL_ne _ _ (ne_of_dec c3)])
  have heq : a.2.1.length = b.2.1.length := eq_of_dec c3
  conv => whnf
  refine ⟨Nat, fun i => [(0, .ptrR (riverC a)), (1, .ptrR (riverC b)), (5, iv i)], fun _ => [], fun i => i ≤ a.2.1.length ∧ eqL dp a.2.1 b.2.1 = eqL dp (a.2.1.drop i) (b.2.1.drop i), fun i => a.2.1.length - i, 0, ?_, ?_, fun i hi => ?_⟩
  · exact weak0 ⟨⟨⟨trivial, rfl⟩, ⟨trivial, rfl⟩, ⟨trivial, rfl⟩, rfl⟩, ⟨⟨trivial, rfl⟩, ⟨trivial, rfl⟩, ⟨trivial, rfl⟩, rfl⟩, rfl, trivial⟩
  · exact ⟨Nat.zero_le _, rfl⟩
  obtain ⟨hi, hk⟩ := hi
  conv => whnf
  refine ⟨fun h => ?_, fun h => ?_⟩
  · have hlt : i < a.2.1.length := lt_of_dec h
    have hlt2 : i < b.2.1.length := by omega
    rw [List.drop_eq_getElem_cons hlt, List.drop_eq_getElem_cons hlt2, eqL] at hk
    conv => whnf
    refine ⟨by decide +kernel, ?_⟩
    conv => whnf
    refine idx hlt ?_
    conv => whnf
    refine idx hlt2 ?_
    conv => whnf
    refine ⟨fun h => ?_, fun h => ?_⟩
    · replace h := nt h
      conv => whnf
      refine out0 rfl (show _ = _ from ?_)
      rw [hk, show dp a.2.1[i] b.2.1[i] = false from h, Bool.false_and]
    · replace h := nf h
      conv => whnf
      rw [show dp a.2.1[i] b.2.1[i] = true from h, Bool.true_and] at hk
      refine ⟨i + 1, weak0 ⟨⟨⟨trivial, rfl⟩, ⟨trivial, rfl⟩, ⟨trivial, rfl⟩, rfl⟩, ⟨⟨trivial, rfl⟩, ⟨trivial, rfl⟩, ⟨trivial, rfl⟩, rfl⟩, ?_, trivial⟩, ⟨hlt, hk⟩, ?_⟩
      · show _ = _
        rw [wrap_succ hlt h2]
      · show a.2.1.length - (i + 1) < a.2.1.length - i
        omega
  · have hlt : i = a.2.1.length := Nat.le_antisymm hi (ge_of_dec h)
    conv => whnf
    refine out0 rfl (show _ = _ from ?_)
    rw [hk, hlt, List.drop_length, heq, List.drop_length]
    rfl

abbrev hillS (a b : Hill) : Bool := decide (a.1 = b.1) && (decide (a.2.1 = b.2.1) && eqL bs a.2.2 b.2.2)
abbrev soilS (a b : Soil) : Bool := bs a.1 b.1 && (bs a.2.1 b.2.1 && (bs a.2.2.1 b.2.2.1 && (bs a.2.2.2.1 b.2.2.2.1 && bs a.2.2.2.2 b.2.2.2.2)))
abbrev sectS (a b : Sect) : Bool := bs a.1 b.1 && (bs a.2.1 b.2.1 && (bs a.2.2.1 b.2.2.1 && bs a.2.2.2 b.2.2.2))
abbrev riverS (a b : River) : Bool := eqL ie a.1 b.1 && (eqL ie a.2.2 b.2.2 && eqL dp a.2.1 b.2.1)
def deskS (a b : Desk) : Bool := hillS a.1 b.1 && (soilS a.2.1 b.2.1 && (sectS a.2.2.1 b.2.2.1 && riverS a.2.2.2 b.2.2.2))

theorem c_specSame (a b : Desk) (sa : Small a) (oa : OkDesk a) (ob : OkDesk b) : Con Try.prog 15 [.agg (deskC a), .agg (deskC b)] (bv (deskS a b)) [] := by
  refine con_of tabOK mixed ⟨23, [0,1,2,3,4,5,6,7,8,9,10,11,12,13,14,15,16,17,18,19,20,21,22], [], []⟩ rfl (by decide) rfl rfl rfl rfl ?_
  have k1 : Con Try.prog 66 _ (bv (hillS a.1 b.1)) [] := c_l02Same a.1 b.1 (soilC a.2.1 ++ sectC a.2.2.1 ++ riverC a.2.2.2) (soilC b.2.1 ++ sectC b.2.2.1 ++ riverC b.2.2.2) (len_leN sa.hill) oa.hill ob.hill
  have k2 : Con Try.prog 67 _ (bv (soilS a.2.1 b.2.1)) [] := c_l03Same a.2.1 b.2.1 (sectC a.2.2.1 ++ riverC a.2.2.2) (sectC b.2.2.1 ++ riverC b.2.2.2) ⟨oa.a1, oa.a2, oa.a3, oa.a4, oa.a5⟩ ⟨ob.a1, ob.a2, ob.a3, ob.a4, ob.a5⟩
  have k3 : Con Try.prog 68 _ (bv (sectS a.2.2.1 b.2.2.1)) [] := c_l04Same a.2.2.1 b.2.2.1 (riverC a.2.2.2) (riverC b.2.2.2) ⟨oa.b1, oa.b2, oa.b3, oa.b4⟩ ⟨ob.b1, ob.b2, ob.b3, ob.b4⟩
  have k4 : Con Try.prog 69 _ (bv (riverS a.2.2.2 b.2.2.2)) [] := c_l06Same a.2.2.2 b.2.2.2 (len_leN sa.downs) (len_leN sa.dams) (len_leN sa.wants)
  unfold deskS
  generalize hillS a.1 b.1 = x1 at k1 ⊢
  generalize soilS a.2.1 b.2.1 = x2 at k2 ⊢
  generalize sectS a.2.2.1 b.2.2.1 = x3 at k3 ⊢
  generalize riverS a.2.2.2 b.2.2.2 = x4 at k4 ⊢
  repeat' (conv => whnf
           first
           | exact out0 rfl (show _ = _ by simp only [*, Bool.true_and, Bool.false_and, Bool.and_true, Bool.and_false, Bool.true_or, Bool.false_or, Bool.or_true, Bool.or_false, Bool.not_true, Bool.not_false])
           | refine ⟨fun _ => ?_, fun _ => ?_⟩
           | refine .inl ⟨_, _, k1, rfl, ?_⟩
           | refine .inl ⟨_, _, k2, rfl, ?_⟩
           | refine .inl ⟨_, _, k3, rfl, ?_⟩
           | refine .inl ⟨_, _, k4, rfl, ?_⟩
           | refine ⟨by decide +kernel, ?_⟩)

theorem c_SameHill (a b : Hill) (hl : a.2.2.length ≤ maxLen) : Con Try.prog 74 [.agg (hillC a), .agg (hillC b)] (bv (decide (a.1 = b.1) && (decide (a.2.1 = b.2.1) && eqL sameB a.2.2 b.2.2))) [] := by
  refine con_of tabOK mixed ⟨24, [0,1,2,3,4,5,6,7,8,9,10,11,12,13,14,15,16,17,18,19,20,21,22,23], [], []⟩ rfl (by decide) rfl rfl rfl rfl ?_
  repeat' (conv => whnf
           first
           | exact out0 rfl (show _ = _ by simp only [*, Bool.true_and, Bool.false_and, Bool.and_true, Bool.and_false, Bool.true_or, Bool.false_or, Bool.or_true, Bool.or_false, Bool.not_true, Bool.not_false])
           | refine ⟨fun _ => ?_, fun _ => ?_⟩
           | refine .inl ⟨_, _, c_sameNumbers _ _ hl, rfl, ?_⟩
           | refine ⟨by decide +kernel, ?_⟩)


theorem c_SameSoil (a b : Soil) : Con Try.prog 75 [.agg (soilC a), .agg (soilC b)] (bv (eqL sameB [a.1, a.2.1, a.2.2.1, a.2.2.2.1, a.2.2.2.2] [b.1, b.2.1, b.2.2.1, b.2.2.2.1, b.2.2.2.2])) [] := by
  refine con_of tabOK mixed ⟨28, [0,1,2,3,4,5,6,7,8,9,10,11,12,13,14,15,16,17,18,19,20,21,22,23,24,25,26,27], [], []⟩ rfl (by decide) rfl rfl rfl rfl ?_
  repeat' (conv => whnf
           first
           | exact out0 rfl (show _ = _ by rfl)
           | refine ⟨fun _ => ?_, fun _ => ?_⟩
           | refine .inl ⟨_, _, c_sameNumbers _ _ (by unfold maxLen; simp), rfl, ?_⟩
           | refine ⟨by decide +kernel, ?_⟩)


theorem c_SameSection (a b : Sect) : Con Try.prog 76 [.agg (sectC a), .agg (sectC b)] (bv (eqL sameB [a.1, a.2.1, a.2.2.1, a.2.2.2] [b.1, b.2.1, b.2.2.1, b.2.2.2])) [] := by
  refine con_of tabOK mixed ⟨24, [0,1,2,3,4,5,6,7,8,9,10,11,12,13,14,15,16,17,18,19,20,21,22,23], [], []⟩ rfl (by decide) rfl rfl rfl rfl ?_
  repeat' (conv => whnf
           first
           | exact out0 rfl (show _ = _ by rfl)
           | refine ⟨fun _ => ?_, fun _ => ?_⟩
           | refine .inl ⟨_, _, c_sameNumbers _ _ (by unfold maxLen; simp), rfl, ?_⟩
           | refine ⟨by decide +kernel, ?_⟩)


theorem c_SameRiver (a b : River) (h1 : a.1.length ≤ maxLen) (h2 : a.2.1.length ≤ maxLen) (h3 : a.2.2.length ≤ maxLen) : Con Try.prog 77 [.agg (riverC a), .agg (riverC b)] (bv (eqL ie a.1 b.1 && (eqL dp a.2.1 b.2.1 && eqL ie a.2.2 b.2.2))) [] := by
  refine con_of tabOK mixed ⟨24, [0,1,2,3,4,5,6,7,8,9,10,11,12,13,14,15,16,17,18,19,20,21,22,23], [], []⟩ rfl (by decide) rfl rfl rfl rfl ?_
  repeat' (conv => whnf
           first
           | exact out0 rfl (show _ = _ by simp only [*, Bool.true_and, Bool.false_and, Bool.and_true, Bool.and_false, Bool.true_or, Bool.false_or, Bool.or_true, Bool.or_false, Bool.not_true, Bool.not_false])
           | refine ⟨fun _ => ?_, fun _ => ?_⟩
           | refine .inl ⟨_, _, c_EqualI _ _ h1, rfl, ?_⟩
           | refine .inl ⟨_, _, c_EqualD _ _ h2, rfl, ?_⟩
           | refine .inl ⟨_, _, c_EqualI _ _ h3, rfl, ?_⟩
           | refine ⟨by decide +kernel, ?_⟩)


theorem sameL_eq {l r : List Nat} (hl : okL l) (hr : okL r) : eqL sameB l r = eqL bs l r := by
  rw [eqL_dec l r (fun x hx y hy => same_eq (hl x hx) (hr y hy)), eqL_dec l r (fun x hx y hy => by
    show decide (bitsF x = bitsF y) = _
    rw [bits_canon (hl x hx), bits_canon (hr y hy)]
    apply decide_eq_decide.2
    omega)]
theorem same_bs {a b : Nat} (ha : FV .f32 a a) (hb : FV .f32 b b) : sameB a b = bs a b := by
  rw [same_eq ha hb]
  show _ = decide (bitsF a = bitsF b)
  rw [bits_canon ha, bits_canon hb]
  apply decide_eq_decide.2
  omega

theorem c_implSame (a b : Desk) (sa : Small a) (oa : OkDesk a) (ob : OkDesk b) : Con Try.prog 17 [.agg (deskC a), .agg (deskC b)] (bv (deskS a b)) [] := by
  refine con_of tabOK mixed ⟨31, [0,1,2,3,4,5,6,7,8,9,10,11,12,13,14,15,16,17,18,19,20,21,22,23,24,25,26,27,28,29,30], [], []⟩ rfl (by decide) rfl rfl rfl rfl ?_
  have k1 := c_SameHill a.1 b.1 (len_leN sa.hill)
  have k2 := c_SameSoil a.2.1 b.2.1
  have k3 := c_SameSection a.2.2.1 b.2.2.1
  have k4 := c_SameRiver a.2.2.2 b.2.2.2 (len_leN sa.downs) (len_leN sa.dams) (len_leN sa.wants)
  rw [sameL_eq oa.hill ob.hill] at k1
  replace k1 : Con Try.prog 74 _ (bv (hillS a.1 b.1)) [] := k1
  have e2 : eqL sameB [a.2.1.1, a.2.1.2.1, a.2.1.2.2.1, a.2.1.2.2.2.1, a.2.1.2.2.2.2] [b.2.1.1, b.2.1.2.1, b.2.1.2.2.1, b.2.1.2.2.2.1, b.2.1.2.2.2.2] = soilS a.2.1 b.2.1 := by
    simp only [eqL, same_bs oa.a1 ob.a1, same_bs oa.a2 ob.a2, same_bs oa.a3 ob.a3, same_bs oa.a4 ob.a4, same_bs oa.a5 ob.a5, Bool.and_true]
  have e3 : eqL sameB [a.2.2.1.1, a.2.2.1.2.1, a.2.2.1.2.2.1, a.2.2.1.2.2.2] [b.2.2.1.1, b.2.2.1.2.1, b.2.2.1.2.2.1, b.2.2.1.2.2.2] = sectS a.2.2.1 b.2.2.1 := by
    simp only [eqL, same_bs oa.b1 ob.b1, same_bs oa.b2 ob.b2, same_bs oa.b3 ob.b3, same_bs oa.b4 ob.b4, Bool.and_true]
  have e4 : (eqL ie a.2.2.2.1 b.2.2.2.1 && (eqL dp a.2.2.2.2.1 b.2.2.2.2.1 && eqL ie a.2.2.2.2.2 b.2.2.2.2.2)) = riverS a.2.2.2 b.2.2.2 := by
    show _ = (_ && (_ && _))
    congr 1
    exact Bool.and_comm _ _
  rw [e2] at k2
  replace k2 : Con Try.prog 75 _ (bv (soilS a.2.1 b.2.1)) [] := k2
  rw [e3] at k3
  replace k3 : Con Try.prog 76 _ (bv (sectS a.2.2.1 b.2.2.1)) [] := k3
  rw [e4] at k4
  replace k4 : Con Try.prog 77 _ (bv (riverS a.2.2.2 b.2.2.2)) [] := k4
  unfold deskS
  generalize hillS a.1 b.1 = x1 at k1 ⊢
  generalize soilS a.2.1 b.2.1 = x2 at k2 ⊢
  generalize sectS a.2.2.1 b.2.2.1 = x3 at k3 ⊢
  generalize riverS a.2.2.2 b.2.2.2 = x4 at k4 ⊢
  repeat' (conv => whnf
           first
           | exact out0 rfl (show _ = _ by simp only [*, Bool.true_and, Bool.false_and, Bool.and_true, Bool.and_false, Bool.true_or, Bool.false_or, Bool.or_true, Bool.or_false, Bool.not_true, Bool.not_false])
           | refine ⟨fun _ => ?_, fun _ => ?_⟩
           | refine .inl ⟨_, _, k1, rfl, ?_⟩
           | refine .inl ⟨_, _, k2, rfl, ?_⟩
           | refine .inl ⟨_, _, k3, rfl, ?_⟩
           | refine .inl ⟨_, _, k4, rfl, ?_⟩
           | refine ⟨by decide +kernel, ?_⟩)

end Go.R

/- Predicates on numbers and lists. -/
import Derived.Test.YthhmolipdnijaaaVg
import Derived.Test.YthhmolipdnijaaaProg
set_option linter.unusedVariables false
set_option linter.unusedSimpArgs false
set_option linter.unnecessarySimpa false
open Go Go.V Go.Proofs
namespace Go.R
set_option maxRecDepth 100000
def tab : Tab := [
  (2, ⟨1, false, .int .i64, [.int .i64], false⟩),
  (3, ⟨1, false, .int .i64, [.int .i64], false⟩),
  (4, ⟨1, false, .bool, [.bool], false⟩),
  (5, ⟨1, false, .int .u8, [.int .u8], false⟩),
  (6, ⟨1, false, .int .u8, [.int .u8], false⟩),
  (7, ⟨4, true, .strct [(0, 1, false), (1, 1, false), (2, 1, false), (3, 1, false)], [.int .i64, .int .i64, .bool, .int .u8], false⟩),
  (8, ⟨4, true, .strct [(0, 1, false), (1, 1, false), (2, 1, false), (3, 1, false)], [.int .i64, .int .i64, .bool, .int .u8], false⟩),
  (9, ⟨1, false, .str, [.str], false⟩),
  (10, ⟨1, false, .str, [.str], false⟩),
  (11, ⟨1, false, .str, [.str], false⟩),
  (12, ⟨1, false, .int .u64, [.int .u64], false⟩),
  (13, ⟨2, true, .strct [(0, 1, false), (1, 1, false)], [.str, .int .u64], false⟩),
  (14, ⟨2, true, .strct [(0, 1, false), (1, 1, false)], [.str, .int .u64], false⟩),
  (18, ⟨1, true, .strct [(0, 1, false)], [.other], false⟩),
  (19, ⟨1, true, .strct [(0, 1, false)], [.other], false⟩),
  (21, ⟨1, false, .int .i32, [.int .i32], false⟩),
  (22, ⟨1, false, .slice 25 (.flt .f32) 4, [.slice], false⟩),
  (23, ⟨3, true, .strct [(0, 1, false), (1, 1, false), (2, 1, false)], [.int .i64, .int .i64, .slice], false⟩),
  (24, ⟨3, true, .strct [(0, 1, false), (1, 1, false), (2, 1, false)], [.int .i64, .int .i64, .slice], false⟩),
  (25, ⟨1, false, .flt .f32, [.flt .f32], false⟩),
  (26, ⟨5, true, .strct [(0, 1, false), (1, 1, false), (2, 1, false), (3, 1, false), (4, 1, false)], [.flt .f32, .flt .f32, .flt .f32, .flt .f32, .flt .f32], false⟩),
  (27, ⟨5, true, .strct [(0, 1, false), (1, 1, false), (2, 1, false), (3, 1, false), (4, 1, false)], [.flt .f32, .flt .f32, .flt .f32, .flt .f32, .flt .f32], false⟩),
  (28, ⟨4, true, .strct [(0, 1, false), (1, 1, false), (2, 1, false), (3, 1, false)], [.flt .f32, .flt .f32, .flt .f32, .flt .f32], false⟩),
  (29, ⟨4, true, .strct [(0, 1, false), (1, 1, false), (2, 1, false), (3, 1, false)], [.flt .f32, .flt .f32, .flt .f32, .flt .f32], false⟩),
  (30, ⟨1, false, .slice 2 (.int .i64) 8, [.slice], false⟩),
  (31, ⟨1, false, .slice 87 (.pair (.int .i64) (.pair (.int .i64) (.pair (.int .i64) (.int .i64)))) 32, [.slice], false⟩),
  (32, ⟨3, true, .strct [(0, 1, false), (1, 1, false), (2, 1, false)], [.slice, .slice, .slice], false⟩),
  (33, ⟨3, true, .strct [(0, 1, false), (1, 1, false), (2, 1, false)], [.slice, .slice, .slice], false⟩),
  (34, ⟨15, true, .strct [(0, 3, true), (3, 5, true), (8, 4, true), (12, 3, true)], [.int .i64, .int .i64, .slice, .flt .f32, .flt .f32, .flt .f32, .flt .f32, .flt .f32, .flt .f32, .flt .f32, .flt .f32, .flt .f32, .slice, .slice, .slice], false⟩),
  (35, ⟨15, true, .strct [(0, 3, true), (3, 5, true), (8, 4, true), (12, 3, true)], [.int .i64, .int .i64, .slice, .flt .f32, .flt .f32, .flt .f32, .flt .f32, .flt .f32, .flt .f32, .flt .f32, .flt .f32, .flt .f32, .slice, .slice, .slice], false⟩),
  (40, ⟨3, true, .strct [(0, 1, false), (1, 1, false), (2, 1, false)], [.int .i64, .int .i64, .slice], false⟩),
  (41, ⟨5, true, .strct [(0, 1, false), (1, 1, false), (2, 1, false), (3, 1, false), (4, 1, false)], [.flt .f32, .flt .f32, .flt .f32, .flt .f32, .flt .f32], false⟩),
  (42, ⟨4, true, .strct [(0, 1, false), (1, 1, false), (2, 1, false), (3, 1, false)], [.flt .f32, .flt .f32, .flt .f32, .flt .f32], false⟩),
  (43, ⟨1, false, .slice 207 (.pair (.int .i64) (.pair (.int .i64) (.pair (.int .i64) (.int .i64)))) 32, [.slice], false⟩),
  (44, ⟨3, true, .strct [(0, 1, false), (1, 1, false), (2, 1, false)], [.slice, .slice, .slice], false⟩),
  (45, ⟨3, true, .strct [(0, 1, false), (1, 1, false), (2, 1, false)], [.slice, .slice, .slice], false⟩),
  (46, ⟨15, true, .strct [(0, 3, true), (3, 5, true), (8, 4, true), (12, 3, true)], [.int .i64, .int .i64, .slice, .flt .f32, .flt .f32, .flt .f32, .flt .f32, .flt .f32, .flt .f32, .flt .f32, .flt .f32, .flt .f32, .slice, .slice, .slice], false⟩),
  (47, ⟨15, true, .strct [(0, 3, true), (3, 5, true), (8, 4, true), (12, 3, true)], [.int .i64, .int .i64, .slice, .flt .f32, .flt .f32, .flt .f32, .flt .f32, .flt .f32, .flt .f32, .flt .f32, .flt .f32, .flt .f32, .slice, .slice, .slice], false⟩),
  (53, ⟨1, false, .slice 5 (.int .u8) 1, [.slice], false⟩),
  (55, ⟨1, false, .slice 59 (.pair (.str) (.pair (.int .i64) (.pair (.int .i64) (.sl (.flt .f32))))) 56, [.slice], false⟩),
  (57, ⟨1, false, .slice 3 (.int .i64) 8, [.slice], false⟩),
  (58, ⟨4, true, .strct [(0, 1, false), (1, 1, false), (2, 1, false), (3, 1, false)], [.str, .int .i64, .int .i64, .slice], false⟩),
  (59, ⟨4, true, .strct [(0, 1, false), (1, 1, false), (2, 1, false), (3, 1, false)], [.str, .int .i64, .int .i64, .slice], false⟩),
  (79, ⟨1, false, .slice 4 (.bool) 1, [.slice], false⟩),
  (83, ⟨1, false, .slice 30 (.sl (.int .i64)) 24, [.slice], false⟩),
  (86, ⟨4, true, .strct [(0, 1, false), (1, 1, false), (2, 1, false), (3, 1, false)], [.int .i64, .int .i64, .int .i64, .int .i64], true⟩),
  (87, ⟨4, true, .strct [(0, 1, false), (1, 1, false), (2, 1, false), (3, 1, false)], [.int .i64, .int .i64, .int .i64, .int .i64], true⟩),
  (130, ⟨1, false, .slice 9 (.str) 16, [.slice], false⟩),
  (139, ⟨1, false, .int .u32, [.int .u32], false⟩),
  (166, ⟨1, false, .flt .f64, [.flt .f64], false⟩),
  (181, ⟨1, false, .int .u64, [.int .u64], false⟩),
  (182, ⟨3, true, .strct [(0, 1, false), (1, 1, false), (2, 1, false)], [.slice, .int .i64, .int .u64], false⟩),
  (183, ⟨3, true, .strct [(0, 1, false), (1, 1, false), (2, 1, false)], [.slice, .int .i64, .int .u64], false⟩),
  (193, ⟨1, false, .slice 22 (.sl (.flt .f32)) 24, [.slice], false⟩),
  (207, ⟨4, true, .strct [(0, 1, false), (1, 1, false), (2, 1, false), (3, 1, false)], [.int .i64, .int .i64, .int .i64, .int .i64], true⟩),
  (213, ⟨1, false, .int .u64, [.int .u64], false⟩),
  (214, ⟨1, false, .slice 53 (.sl (.int .u8)) 24, [.slice], false⟩),
  (227, ⟨4, true, .strct [(0, 1, false), (1, 1, false), (2, 1, false), (3, 1, false)], [.other, .other, .other, .str], false⟩),
  (228, ⟨4, true, .strct [(0, 1, false), (1, 1, false), (2, 1, false), (3, 1, false)], [.other, .other, .other, .str], false⟩),
  (233, ⟨1, false, .int .u8, [.int .u8], false⟩),
  (234, ⟨1, false, .int .u8, [.int .u8], false⟩),
  (237, ⟨1, false, .int .i32, [.int .i32], false⟩),
  (238, ⟨1, false, .int .i32, [.int .i32], false⟩),
  (239, ⟨11, true, .strct [(0, 1, false), (1, 1, false), (2, 1, false), (3, 1, false), (4, 1, false), (5, 1, false), (6, 1, false), (7, 1, false), (8, 1, false), (9, 1, false), (10, 1, false)], [.int .u64, .int .u64, .int .u32, .int .u8, .int .u8, .int .u8, .int .u8, .other, .other, .int .i32, .int .i32], false⟩),
  (240, ⟨11, true, .strct [(0, 1, false), (1, 1, false), (2, 1, false), (3, 1, false), (4, 1, false), (5, 1, false), (6, 1, false), (7, 1, false), (8, 1, false), (9, 1, false), (10, 1, false)], [.int .u64, .int .u64, .int .u32, .int .u8, .int .u8, .int .u8, .int .u8, .other, .other, .int .i32, .int .i32], false⟩)]
theorem tabOK : TabOK Try.prog tab := tabOK_of (by decide +kernel)
theorem mixed : Try.prog.follows .mixedOrders = true := by rfl

theorem weak0 {E E' : Env} {H : Heap} (h : WE [] H E E') : Weak [] E H E' [] := ⟨[], rfl, rfl, h, trivial, rfl⟩
theorem out0 {a r : AV} {H : Heap} (hs : sealedB r = true) (h : Cv [] H r a) : Out [] H a r [] := ⟨hs, weak0 ⟨h, trivial⟩⟩
theorem idx {α : Type} {l : List α} {i : Nat} {K : α → Prop} (h : i < l.length) (hk : K l[i]) : ∃ e, (0 ≤ (i : Int) ∧ l[(i : Int).toNat]? = some e) ∧ K e :=
  ⟨l[i], ⟨by omega, by simp [h]⟩, hk⟩
theorem nt {b : Bool} (h : (!b) = true) : b = false := by simpa using h
theorem nf {b : Bool} (h : (!b) = false) : b = true := by simpa using h
theorem lt_of_dec {a b : Nat} (h : decide ((a : Int) < (b : Int)) = true) : a < b := by simpa using h
theorem ge_of_dec {a b : Nat} (h : decide ((a : Int) < (b : Int)) = false) : b ≤ a := by simpa using h
theorem wrap_id {n : Int} (h0 : -9223372036854775808 ≤ n) (h1 : n < 9223372036854775808) : IntKind.i64.wrap n = n := by
  have h2 : IntKind.i64.wrap n = if n % 18446744073709551616 ≥ 9223372036854775808 then n % 18446744073709551616 - 18446744073709551616 else n % 18446744073709551616 := by
    simp only [IntKind.wrap, IntKind.signed, IntKind.bits, Bool.true_and]
    simp
  rw [h2]
  split <;> omega
theorem wrap_succ {i n : Nat} (h : i < n) (hn : n ≤ maxLen) : IntKind.i64.wrap ((i : Int) + 1) = ((i + 1 : Nat) : Int) := by
  unfold maxLen at hn
  rw [wrap_id] <;> omega
end Go.R

open Go Go.V Go.Proofs
namespace Go.R
set_option maxRecDepth 100000

def heldI : List Int → Int → Int
  | [], k => k
  | x :: l, k => if x ≠ k then -1 else heldI l (IntKind.i64.wrap (k + 1))

/-- heldInt64S -/
theorem c_heldInt64S (l : List Int) (k : Int) (hl : l.length ≤ maxLen) : Con Try.prog 129 [.sl false (.int .i64) l, .val (.int .i64 k)] (.val (.int .i64 (heldI l k))) [] := by
  refine con_of tabOK mixed ⟨21, [0,1,4,5,9,17], [], []⟩ rfl (by decide) rfl rfl rfl rfl ?_
  conv => whnf
  refine ⟨Nat × Int, fun p => [(0, .sl false (.int .i64) l), (1, .val (.int .i64 p.2)), (5, .val (.int .i64 p.1))], fun _ => [], fun p => p.1 ≤ l.length ∧ heldI l k = heldI (l.drop p.1) p.2, fun p => l.length - p.1, (0, k), ?_, ?_, fun p hi => ?_⟩
  · exact weak0 ⟨⟨trivial, rfl⟩, rfl, rfl, trivial⟩
  · exact ⟨Nat.zero_le _, rfl⟩
  obtain ⟨i, k'⟩ := p
  obtain ⟨hi, hk⟩ := hi
  simp only at hi hk
  conv => whnf
  refine ⟨fun h => ?_, fun h => ?_⟩
  · have hlt : i < l.length := lt_of_dec h
    rw [List.drop_eq_getElem_cons hlt, heldI] at hk
    conv => whnf
    refine idx hlt ?_
    conv => whnf
    refine ⟨fun h => ?_, fun h => ?_⟩
    · rw [if_pos (of_decide_eq_true h)] at hk
      conv => whnf
      exact out0 rfl (show _ = _ by rw [hk])
    · rw [if_neg (of_decide_eq_false h)] at hk
      conv => whnf
      refine ⟨(i + 1, IntKind.i64.wrap (k' + 1)), weak0 ⟨⟨trivial, rfl⟩, rfl, ?_, trivial⟩, ⟨hlt, hk⟩, ?_⟩
      · show _ = _
        rw [wrap_succ hlt hl]
      · show l.length - (i + 1) < l.length - i
        omega
  · have hlt : i = l.length := Nat.le_antisymm hi (ge_of_dec h)
    conv => whnf
    exact out0 rfl (show _ = _ by rw [hk, hlt]; simp [heldI])

def heldF : List Nat → Int → Int
  | [], k => k
  | x :: l, k => if !feq .f32 x (fofInt .f32 k) then -1 else heldF l (IntKind.i64.wrap (k + 1))

/-- heldFloat32S -/
theorem c_heldFloat32S (l : List Nat) (k : Int) (hl : l.length ≤ maxLen) : Con Try.prog 118 [.sl false (.flt .f32) l, .val (.int .i64 k)] (.val (.int .i64 (heldF l k))) [] := by
  refine con_of tabOK mixed ⟨22, [0,1,4,5,9,18], [], []⟩ rfl (by decide) rfl rfl rfl rfl ?_
  conv => whnf
  refine ⟨Nat × Int, fun p => [(0, .sl false (.flt .f32) l), (1, .val (.int .i64 p.2)), (5, .val (.int .i64 p.1))], fun _ => [], fun p => p.1 ≤ l.length ∧ heldF l k = heldF (l.drop p.1) p.2, fun p => l.length - p.1, (0, k), ?_, ?_, fun p hi => ?_⟩
  · exact weak0 ⟨⟨trivial, rfl⟩, rfl, rfl, trivial⟩
  · exact ⟨Nat.zero_le _, rfl⟩
  obtain ⟨i, k'⟩ := p
  obtain ⟨hi, hk⟩ := hi
  simp only at hi hk
  conv => whnf
  refine ⟨fun h => ?_, fun h => ?_⟩
  · have hlt : i < l.length := lt_of_dec h
    rw [List.drop_eq_getElem_cons hlt, heldF] at hk
    conv => whnf
    refine idx hlt ?_
    conv => whnf
    refine ⟨fun h => ?_, fun h => ?_⟩
    · rw [if_pos h] at hk
      conv => whnf
      exact out0 rfl (show _ = _ by rw [hk])
    · rw [if_neg (by rw [h]; exact Bool.false_ne_true)] at hk
      conv => whnf
      refine ⟨(i + 1, IntKind.i64.wrap (k' + 1)), weak0 ⟨⟨trivial, rfl⟩, rfl, ?_, trivial⟩, ⟨hlt, hk⟩, ?_⟩
      · show _ = _
        rw [wrap_succ hlt hl]
      · show l.length - (i + 1) < l.length - i
        omega
  · have hlt : i = l.length := Nat.le_antisymm hi (ge_of_dec h)
    conv => whnf
    exact out0 rfl (show _ = _ by rw [hk, hlt]; simp [heldF])

/-- sameFloat -/
def sameF (a b : Nat) : Bool :=
  if !feq .f64 a a || !feq .f64 b b then !feq .f64 a a && !feq .f64 b b
  else if feq .f64 a 0 && feq .f64 b 0 then fgt .f64 (fdiv .f64 4607182418800017408 a) 0 == fgt .f64 (fdiv .f64 4607182418800017408 b) 0
  else feq .f64 a b

theorem c_sameFloat (a b : Nat) : Con Try.prog 124 [.flt .f64 a, .flt .f64 b] (.val (.bool (sameF a b))) [] := by
  refine con_of tabOK mixed ⟨37, [0,1,4,12,26], [], []⟩ rfl (by decide) rfl rfl rfl rfl ?_
  have hs : sameF a b = if !feq .f64 a a || !feq .f64 b b then !feq .f64 a a && !feq .f64 b b
    else if feq .f64 a 0 && feq .f64 b 0 then fgt .f64 (fdiv .f64 4607182418800017408 a) 0 == fgt .f64 (fdiv .f64 4607182418800017408 b) 0
    else feq .f64 a b := rfl
  conv => whnf
  refine ⟨fun h1 => ?_, fun h1 => ?_⟩
  · conv => whnf
    refine ⟨fun h2 => ?_, fun h2 => ?_⟩
    · conv => whnf
      exact out0 rfl (show _ = _ by rw [hs, h1]; simp)
    · rw [h1] at h2; cases h2
  · conv => whnf
    refine ⟨fun h2 => ?_, fun h2 => ?_⟩
    · conv => whnf
      refine ⟨fun h3 => ?_, fun h3 => ?_⟩
      · rw [h1] at h3; cases h3
      · conv => whnf
        exact out0 rfl (show _ = _ by rw [hs, h1, h2]; simp)
    · conv => whnf
      refine ⟨fun h3 => ?_, fun h3 => ?_⟩
      · conv => whnf
        refine ⟨fun h4 => ?_, fun h4 => ?_⟩
        · conv => whnf
          exact out0 rfl (show _ = _ by rw [hs, h1, h2, h3, h4]; simp)
        · conv => whnf
          exact out0 rfl (show _ = _ by rw [hs, h1, h2, h3, h4]; simp)
      · conv => whnf
        exact out0 rfl (show _ = _ by rw [hs, h1, h2, h3]; simp)
end Go.R

open Go Go.V Go.Proofs
namespace Go.R
set_option maxRecDepth 100000

theorem ne_of_dec {a b : Nat} (h : decide ((a : Int) ≠ (b : Int)) = true) : a ≠ b := fun e => (of_decide_eq_true h) (by rw [e])
theorem eq_of_dec {a b : Nat} (h : decide ((a : Int) ≠ (b : Int)) = false) : a = b := by
  have := of_decide_eq_false h
  exact Decidable.byContradiction fun e => this fun e' => e (by omega)

def eqF : List Nat → List Nat → Bool
  | [], [] => true
  | x :: l, y :: r => sameF (fcvt .f32 .f64 x) (fcvt .f32 .f64 y) && eqF l r
  | _, _ => false

theorem eqF_ne : ∀ (l r : List Nat), l.length ≠ r.length → eqF l r = false := by
  intro l
  induction l with
  | nil => intro r h; cases r with
    | nil => exact absurd rfl h
    | cons y r => rfl
  | cons x l ih => intro r h; cases r with
    | nil => rfl
    | cons y r => simp only [eqF, ih r (by simpa using h), Bool.and_false]

/-- eqFloat32S -/
theorem c_eqFloat32S (l r : List Nat) (hl : l.length ≤ maxLen) : Con Try.prog 123 [.sl false (.flt .f32) l, .sl false (.flt .f32) r] (.val (.bool (eqF l r))) [] := by
  refine con_of tabOK mixed ⟨29, [0,1,4,5,10,14,28], [], []⟩ rfl (by decide) rfl rfl rfl rfl ?_
  conv => whnf
  refine ⟨fun h => ?_, fun h => ?_⟩
  · conv => whnf
    refine out0 rfl (show _ = _ from ?_)
    rw [eqF_ne l r (ne_of_dec h)]
  have heq : l.length = r.length := eq_of_dec h
  conv => whnf
  refine ⟨Nat, fun i => [(0, .sl false (.flt .f32) l), (1, .sl false (.flt .f32) r), (5, .val (.int .i64 i))], fun _ => [], fun i => i ≤ l.length ∧ eqF l r = eqF (l.drop i) (r.drop i), fun i => l.length - i, 0, ?_, ?_, fun i hi => ?_⟩
  · exact weak0 ⟨⟨trivial, rfl⟩, ⟨trivial, rfl⟩, rfl, trivial⟩
  · exact ⟨Nat.zero_le _, rfl⟩
  obtain ⟨hi, hk⟩ := hi
  conv => whnf
  refine ⟨fun h => ?_, fun h => ?_⟩
  · have hlt : i < l.length := lt_of_dec h
    have hlt2 : i < r.length := by omega
    rw [List.drop_eq_getElem_cons hlt, List.drop_eq_getElem_cons hlt2, eqF] at hk
    conv => whnf
    refine ⟨by decide +kernel, ?_⟩
    conv => whnf
    refine idx hlt ?_
    conv => whnf
    refine idx hlt2 ?_
    conv => whnf
    refine ⟨_, c_sameFloat _ _, ?_⟩
    conv => whnf
    refine ⟨fun h => ?_, fun h => ?_⟩
    · conv => whnf
      refine out0 rfl (show _ = _ from ?_)
      rw [hk]
      have h' : sameF (fcvt .f32 .f64 l[i]) (fcvt .f32 .f64 r[i]) = false := by simpa using h
      rw [h']; rfl
    · conv => whnf
      have h' : sameF (fcvt .f32 .f64 l[i]) (fcvt .f32 .f64 r[i]) = true := by simpa using h
      rw [h', Bool.true_and] at hk
      refine ⟨i + 1, weak0 ⟨⟨trivial, rfl⟩, ⟨trivial, rfl⟩, ?_, trivial⟩, ⟨hlt, hk⟩, ?_⟩
      · show _ = _
        rw [wrap_succ hlt hl]
      · show l.length - (i + 1) < l.length - i
        omega
  · have hlt : i = l.length := Nat.le_antisymm hi (ge_of_dec h)
    conv => whnf
    refine out0 rfl (show _ = _ from ?_)
    rw [hk, hlt, List.drop_length, heq, List.drop_length]
    rfl

/-- eqInt64S -/
theorem c_eqInt64S (l r : List Int) (hl : l.length ≤ maxLen) : Con Try.prog 125 [.sl false (.int .i64) l, .sl false (.int .i64) r] (.val (.bool (decide (l = r)))) [] := by
  refine con_of tabOK mixed ⟨26, [0,1,4,5,10,14,25], [], []⟩ rfl (by decide) rfl rfl rfl rfl ?_
  conv => whnf
  refine ⟨fun h => ?_, fun h => ?_⟩
  · have hne := ne_of_dec h
    conv => whnf
    refine out0 rfl (show _ = _ from ?_)
    have : decide (l = r) = false := decide_eq_false fun e => hne (by rw [e])
    rw [this]
  have heq : l.length = r.length := eq_of_dec h
  conv => whnf
  refine ⟨Nat, fun i => [(0, .sl false (.int .i64) l), (1, .sl false (.int .i64) r), (5, .val (.int .i64 i))], fun _ => [], fun i => i ≤ l.length ∧ l.take i = r.take i, fun i => l.length - i, 0, ?_, ?_, fun i hi => ?_⟩
  · exact weak0 ⟨⟨trivial, rfl⟩, ⟨trivial, rfl⟩, rfl, trivial⟩
  · exact ⟨Nat.zero_le _, rfl⟩
  obtain ⟨hi, hk⟩ := hi
  conv => whnf
  refine ⟨fun h => ?_, fun h => ?_⟩
  · have hlt : i < l.length := lt_of_dec h
    have hlt2 : i < r.length := by omega
    conv => whnf
    refine ⟨by decide +kernel, ?_⟩
    conv => whnf
    refine idx hlt ?_
    conv => whnf
    refine idx hlt2 ?_
    conv => whnf
    refine ⟨fun h => ?_, fun h => ?_⟩
    · conv => whnf
      refine out0 rfl (show _ = _ from ?_)
      have hne := of_decide_eq_true h
      have : decide (l = r) = false := decide_eq_false fun e => hne (by subst e; rfl)
      rw [this]
    · conv => whnf
      have he : l[i] = r[i] := Decidable.byContradiction (of_decide_eq_false h)
      refine ⟨i + 1, weak0 ⟨⟨trivial, rfl⟩, ⟨trivial, rfl⟩, ?_, trivial⟩, ⟨hlt, ?_⟩, ?_⟩
      · show _ = _
        rw [wrap_succ hlt hl]
      · rw [List.take_succ_eq_append_getElem hlt, List.take_succ_eq_append_getElem hlt2, hk, he]
      · show l.length - (i + 1) < l.length - i
        omega
  · have hlt : i = l.length := Nat.le_antisymm hi (ge_of_dec h)
    conv => whnf
    refine out0 rfl (show _ = _ from ?_)
    have : decide (l = r) = true := decide_eq_true (by
      rw [hlt, List.take_length, heq, List.take_length] at hk
      exact hk)
    rw [this]

theorem set_mid {α : Type} {l : List α} {i : Nat} {z : α} (h : i < l.length) : (l.take i ++ List.replicate (l.length - i) z).set i l[i] = l.take (i + 1) ++ List.replicate (l.length - (i + 1)) z := by
  have e1 : (l.take i).length = i := by rw [List.length_take]; omega
  rw [show l.length - i = (l.length - (i + 1)) + 1 by omega, List.replicate_succ, List.set_append_right _ _ (by omega), e1, Nat.sub_self, List.set_cons_zero, List.take_succ_eq_append_getElem h,
    List.append_assoc, List.singleton_append]
theorem get_mid {α : Type} {l : List α} {i : Nat} {z : α} (h : i < l.length) : (l.take i ++ List.replicate (l.length - i) z)[(i : Int).toNat]? = some z := by
  have e1 : (l.take i).length = i := by rw [List.length_take]; omega
  rw [Int.toNat_natCast, List.getElem?_append_right (by omega), e1, Nat.sub_self, show l.length - i = (l.length - (i + 1)) + 1 by omega, List.replicate_succ]
  rfl

/-- toFloat32S: a copy -/
theorem c_toFloat32S (l : List Nat) (hl : l.length ≤ 35184372088832) : Con Try.prog 137 [.sl false (.flt .f32) l] (.own 0) [(0, .row 25 (.flt .f32) l)] := by
  refine con_of tabOK mixed ⟨22, [0,2,3,4,11], [], []⟩ rfl (by decide) rfl rfl rfl rfl ?_
  conv => whnf
  refine ⟨⟨rfl, by omega, by omega, by omega⟩, ?_⟩
  conv => whnf
  refine ⟨Nat, fun i => [(0, .sl false (.flt .f32) l), (3, .own 0), (4, .val (.int .i64 i))], fun i => [(0, .row 25 (.flt .f32) (l.take i ++ List.replicate (l.length - i) (0 : Nat)))], fun i => i ≤ l.length, fun i => l.length - i, 0, ?_, Nat.zero_le _, fun i hi => ?_⟩
  · refine ⟨[(0, 0)], rfl, rfl, ⟨⟨trivial, rfl⟩, rfl, rfl, trivial⟩, ⟨⟨rfl, ?_⟩, trivial⟩, rfl⟩
    show _ = _
    simp [zeroS]
  conv => whnf
  refine ⟨fun h => ?_, fun h => ?_⟩
  · have hlt : i < l.length := lt_of_dec h
    conv => whnf
    refine idx hlt ?_
    conv => whnf
    refine ⟨⟨by omega, by simp; omega⟩, ?_⟩
    conv => whnf
    refine ⟨0, get_mid hlt, ?_⟩
    conv => whnf
    refine ⟨i + 1, ⟨[(0, 0)], rfl, rfl, ⟨⟨trivial, rfl⟩, rfl, ?_, trivial⟩, ⟨⟨rfl, ?_⟩, trivial⟩, rfl⟩, hlt, ?_⟩
    · show _ = _
      rw [wrap_succ hlt (by unfold maxLen; omega)]
    · show _ = _
      simp only [Int.toNat_natCast]
      rw [set_mid hlt]
    · show l.length - (i + 1) < l.length - i
      omega
  · have hlt : i = l.length := Nat.le_antisymm hi (ge_of_dec h)
    conv => whnf
    refine ⟨rfl, [(0, 0)], rfl, rfl, ⟨rfl, trivial⟩, ⟨⟨rfl, ?_⟩, trivial⟩, rfl⟩
    show _ = _
    subst hlt
    simp
end Go.R

open Go Go.V Go.Proofs
namespace Go.R
set_option maxRecDepth 100000

/-- The marks: k, k + 1, ... -/
def marksI : Nat → Int → List Int
  | 0, _ => []
  | n + 1, k => k :: marksI n (IntKind.i64.wrap (k + 1))
def marksF : Nat → Int → List Nat
  | 0, _ => []
  | n + 1, k => fofInt .f32 k :: marksF n (IntKind.i64.wrap (k + 1))
def afterI : Nat → Int → Int
  | 0, k => k
  | n + 1, k => afterI n (IntKind.i64.wrap (k + 1))

theorem marksI_len : ∀ n k, (marksI n k).length = n
  | 0, _ => rfl
  | n + 1, k => by simp [marksI, marksI_len n]
theorem marksF_len : ∀ n k, (marksF n k).length = n
  | 0, _ => rfl
  | n + 1, k => by simp [marksF, marksF_len n]
theorem marksI_snoc : ∀ n k, marksI (n + 1) k = marksI n k ++ [afterI n k]
  | 0, k => rfl
  | n + 1, k => by rw [marksI, marksI_snoc n, marksI, afterI, List.cons_append]
theorem marksF_snoc : ∀ n k, marksF (n + 1) k = marksF n k ++ [fofInt .f32 (afterI n k)]
  | 0, k => rfl
  | n + 1, k => by rw [marksF, marksF_snoc n, marksF, afterI, List.cons_append]
theorem afterI_succ : ∀ n k, afterI (n + 1) k = IntKind.i64.wrap (afterI n k + 1)
  | 0, k => rfl
  | n + 1, k => by rw [afterI, afterI_succ n, afterI]

theorem set_at {α : Type} {a l : List α} {i : Nat} {y : α} (ha : a.length = i) (h : i < l.length) : (a ++ l.drop i).set i y = a ++ [y] ++ l.drop (i + 1) := by
  rw [List.set_append_right _ _ (by omega), ha, Nat.sub_self, List.drop_eq_getElem_cons h, List.set_cons_zero, List.append_assoc, List.singleton_append]
theorem get_at {α : Type} {a l : List α} {i : Nat} (ha : a.length = i) (h : i < l.length) : (a ++ l.drop i)[(i : Int).toNat]? = some l[i] := by
  rw [Int.toNat_natCast, List.getElem?_append_right (by omega), ha, Nat.sub_self, List.drop_eq_getElem_cons h]
  rfl

/-- markInt64S -/
theorem c_markInt64S (l : List Int) (k : Int) (hl : l.length ≤ maxLen) :
    ConW Try.prog 127 [.own 0, .val (.int .i64 k)] [(0, .row 2 (.int .i64) l)] (.val (.int .i64 (afterI l.length k))) [(0, .row 2 (.int .i64) (marksI l.length k))] := by
  refine conW_of tabOK mixed ⟨19, [0,1,4,5,9], [], [.own 0]⟩ rfl (by decide) rfl rfl rfl rfl rfl ?_
  conv => whnf
  refine ⟨Nat, fun i => [(0, .own 0), (1, .val (.int .i64 (afterI i k))), (5, .val (.int .i64 i))], fun i => [(0, .row 2 (.int .i64) (marksI i k ++ l.drop i))], fun i => i ≤ l.length, fun i => l.length - i, 0, ?_, Nat.zero_le _, fun i hi => ?_⟩
  · refine ⟨[(0, 0)], rfl, rfl, ⟨rfl, rfl, rfl, trivial⟩, ⟨⟨rfl, ?_⟩, trivial⟩, rfl, rfl⟩
    show _ = _
    rfl
  have hi : i ≤ l.length := hi
  have hlen : (marksI i k ++ l.drop i).length = l.length := by rw [List.length_append, marksI_len, List.length_drop]; omega
  conv => whnf
  refine ⟨fun h => ?_, fun h => ?_⟩
  · have hlt : i < l.length := by have := lt_of_dec h; omega
    conv => whnf
    refine ⟨⟨by omega, by omega⟩, ?_⟩
    conv => whnf
    refine ⟨l[i], get_at (marksI_len i k) hlt, ?_⟩
    conv => whnf
    refine ⟨i + 1, ⟨[(0, 0)], rfl, rfl, ⟨rfl, ?_, ?_, trivial⟩, ⟨⟨rfl, ?_⟩, trivial⟩, rfl, rfl⟩, hlt, ?_⟩
    · show _ = _
      rw [afterI_succ]
    · show _ = _
      rw [wrap_succ hlt hl]
    · show _ = _
      simp only [Int.toNat_natCast]
      rw [set_at (marksI_len i k) hlt, marksI_snoc]
    · show l.length - (i + 1) < l.length - i
      omega
  · have hlt : i = l.length := by have := ge_of_dec h; omega
    conv => whnf
    refine ⟨rfl, [(0, 0)], rfl, rfl, ⟨?_, trivial⟩, ⟨⟨rfl, ?_⟩, trivial⟩, rfl, rfl⟩
    · show _ = _
      rw [hlt]
    · show _ = _
      rw [hlt, List.drop_length, List.append_nil]

/-- markFloat32S -/
theorem c_markFloat32S (l : List Nat) (k : Int) (hl : l.length ≤ maxLen) :
    ConW Try.prog 117 [.own 0, .val (.int .i64 k)] [(0, .row 25 (.flt .f32) l)] (.val (.int .i64 (afterI l.length k))) [(0, .row 25 (.flt .f32) (marksF l.length k))] := by
  refine conW_of tabOK mixed ⟨20, [0,1,4,5,9], [], [.own 0]⟩ rfl (by decide) rfl rfl rfl rfl rfl ?_
  conv => whnf
  refine ⟨Nat, fun i => [(0, .own 0), (1, .val (.int .i64 (afterI i k))), (5, .val (.int .i64 i))], fun i => [(0, .row 25 (.flt .f32) (marksF i k ++ l.drop i))], fun i => i ≤ l.length, fun i => l.length - i, 0, ?_, Nat.zero_le _, fun i hi => ?_⟩
  · refine ⟨[(0, 0)], rfl, rfl, ⟨rfl, rfl, rfl, trivial⟩, ⟨⟨rfl, ?_⟩, trivial⟩, rfl, rfl⟩
    show _ = _
    rfl
  have hi : i ≤ l.length := hi
  have hlen : (marksF i k ++ l.drop i).length = l.length := by rw [List.length_append, marksF_len, List.length_drop]; omega
  conv => whnf
  refine ⟨fun h => ?_, fun h => ?_⟩
  · have hlt : i < l.length := by have := lt_of_dec h; omega
    conv => whnf
    refine ⟨⟨by omega, by omega⟩, ?_⟩
    conv => whnf
    refine ⟨l[i], get_at (marksF_len i k) hlt, ?_⟩
    conv => whnf
    refine ⟨i + 1, ⟨[(0, 0)], rfl, rfl, ⟨rfl, ?_, ?_, trivial⟩, ⟨⟨rfl, ?_⟩, trivial⟩, rfl, rfl⟩, hlt, ?_⟩
    · show _ = _
      rw [afterI_succ]
    · show _ = _
      rw [wrap_succ hlt hl]
    · show _ = _
      simp only [Int.toNat_natCast]
      rw [set_at (marksF_len i k) hlt, marksF_snoc]
    · show l.length - (i + 1) < l.length - i
      omega
  · have hlt : i = l.length := by have := ge_of_dec h; omega
    conv => whnf
    refine ⟨rfl, [(0, 0)], rfl, rfl, ⟨?_, trivial⟩, ⟨⟨rfl, ?_⟩, trivial⟩, rfl, rfl⟩
    · show _ = _
      rw [hlt]
    · show _ = _
      rw [hlt, List.drop_length, List.append_nil]
end Go.R

open Go Go.V Go.Proofs
namespace Go.R
set_option maxRecDepth 100000

theorem c_within (n lo hi : Int) : Con Try.prog 94 [.val (.int .i64 n), .val (.int .i64 lo), .val (.int .i64 hi)] (.val (.bool (decide (lo ≤ n) && decide (n ≤ hi)))) [] := by
  refine con_of tabOK mixed ⟨15, [0,1,2,3,4,5,6,7,8,9,10,11,12,13,14], [], []⟩ rfl (by decide) rfl rfl rfl rfl ?_
  conv => whnf
  refine ⟨fun h => ?_, fun h => ?_⟩
  · conv => whnf
    exact out0 rfl (show _ = _ by rw [h, Bool.true_and])
  · conv => whnf
    exact out0 rfl (show _ = _ by rw [h, Bool.false_and])

theorem c_isMany (l : List Nat) (m : Int) : Con Try.prog 90 [.sl false (.flt .f32) l, .val (.int .i64 m)] (.val (.bool (decide (m ≤ (l.length : Int)) && decide ((l.length : Int) ≤ 128)))) [] := by
  refine con_of tabOK mixed ⟨9, [0,1,2,3,4,5,6,7,8], [], []⟩ rfl (by decide) rfl rfl rfl rfl ?_
  conv => whnf
  refine .inl ⟨_, _, c_within _ _ _, rfl, ?_⟩
  conv => whnf
  exact out0 rfl rfl

theorem c_IsNaN (x : Nat) : Con Try.prog 204 [.flt .f64 x] (.val (.bool (!feq .f64 x x))) [] := by
  refine con_of tabOK mixed ⟨6, [0,1,2,3,4,5], [], []⟩ rfl (by decide) rfl rfl rfl rfl ?_
  conv => whnf
  exact out0 rfl rfl


theorem wrap_u64 {n : Int} (h0 : 0 ≤ n) (h1 : n < 18446744073709551616) : IntKind.u64.wrap n = n := by
  have h2 : IntKind.u64.wrap n = n % 18446744073709551616 := by
    simp only [IntKind.wrap, IntKind.signed, IntKind.bits]
    simp
  rw [h2]; omega

theorem abs_bits (b : Nat) (h : b < 18446744073709551616) : (ibit .andNot .u64 b 9223372036854775808).toNat = b % 9223372036854775808 := by
  have e1 : ~~~(BitVec.ofInt 64 9223372036854775808) = BitVec.ofNat 64 9223372036854775807 := by decide
  have e2 : (BitVec.ofInt 64 (b : Int) &&& ~~~(BitVec.ofInt 64 9223372036854775808)).toNat = b % 9223372036854775808 := by
    rw [e1, BitVec.toNat_and, BitVec.toNat_ofNat]
    have e3 : (BitVec.ofInt 64 (b : Int)).toNat = b := by
      rw [BitVec.toNat_ofInt]
      omega
    rw [e3]
    exact Nat.and_two_pow_sub_one_eq_mod b 63
  show (IntKind.u64.wrap (((BitVec.ofInt 64 (b : Int) &&& ~~~(BitVec.ofInt 64 9223372036854775808)).toNat : Nat) : Int)).toNat = _
  rw [e2, wrap_u64 (by omega) (by omega), Int.toNat_natCast]

theorem abs_word {b x : Nat} (h : FV .f64 b x) : FV .f64 (ibit .andNot .u64 b 9223372036854775808).toNat (fabs x) := by
  have e0 : (2 : Nat) ^ FloatKind.f64.format.width = 18446744073709551616 := by decide +kernel
  have e2 : FloatKind.f64.format.signWeight = 9223372036854775808 := by decide +kernel
  have hb : b < 18446744073709551616 := by have := h.1; rw [e0] at this; exact this
  rw [abs_bits b hb]
  have nan : ∀ y : Nat, isNan .f64 (y % 9223372036854775808) = isNan .f64 y := fun y => by
    rw [nan_iff, nan_iff, e2, Nat.mod_mod]
  refine ⟨by rw [e0]; omega, ?_⟩
  by_cases hn : isNan .f64 b = true
  · have hx : isNan .f64 x = true := by rw [← h.nan]; exact hn
    unfold fabs canon
    rw [nan, nan, hn, hx]; rfl
  · have := h.eq_of (by simpa using hn)
    subst this
    rfl

theorem c_Abs (x : Nat) : Con Try.prog 206 [.flt .f64 x] (.flt .f64 (fabs x)) [] := by
  refine con_flt1 fun b hb => con_word (c := (ibit .andNot .u64 b 9223372036854775808).toNat) ?_ (abs_word hb)
  refine con_of tabOK mixed ⟨7, [0,1,2,3,4,5,6], [], []⟩ rfl (by decide) rfl rfl rfl rfl ?_
  conv => whnf
  refine .inl ⟨_, _, con_bits rfl (by decide) rfl rfl rfl b, rfl, ?_⟩
  conv => whnf
  refine .inl ⟨_, _, con_frombits rfl (by decide) rfl rfl rfl _, rfl, ?_⟩
  conv => whnf
  exact out0 rfl rfl

theorem c_IsInf0 (x : Nat) : Con Try.prog 205 [.flt .f64 x, .val (.int .i64 0)] (.val (.bool (fgt .f64 (fabs x) 9218868437227405311))) [] := by
  refine con_of tabOK mixed ⟨15, [0,1,2,3,4,5,6,7,8,9,10,11,12,13,14], [], []⟩ rfl (by decide) rfl rfl rfl rfl ?_
  conv => whnf
  refine ⟨fun h => ?_, fun h => ?_⟩
  · conv => whnf
    refine .inl ⟨_, _, c_Abs x, rfl, ?_⟩
    conv => whnf
    exact out0 rfl rfl
  · cases h


theorem c_finite (x : Nat) : Con Try.prog 199 [.flt .f64 x] (.val (.bool (finF x))) [] := by
  refine con_of tabOK mixed ⟨11, [0,1,2,3,4,5,6,7,8,9,10], [], []⟩ rfl (by decide) rfl rfl rfl rfl ?_
  conv => whnf
  refine .inl ⟨_, _, c_IsNaN x, rfl, ?_⟩
  conv => whnf
  refine ⟨fun h => ?_, fun h => ?_⟩
  · conv => whnf
    refine .inl ⟨_, _, c_IsInf0 x, rfl, ?_⟩
    conv => whnf
    refine out0 rfl (show _ = _ from ?_)
    have h' : feq .f64 x x = true := by simpa using h
    rw [finF, h', Bool.true_and]
  · conv => whnf
    refine out0 rfl (show _ = _ from ?_)
    have h' : feq .f64 x x = false := by simpa using h
    rw [finF, h', Bool.false_and]

theorem c_IsFinite (x : Nat) : Con Try.prog 172 [.flt .f32 x] (.val (.bool (finF (fcvt .f32 .f64 x)))) [] := by
  refine con_of tabOK mixed ⟨6, [0,1,2,3,4,5], [], []⟩ rfl (by decide) rfl rfl rfl rfl ?_
  conv => whnf
  refine .inl ⟨_, _, c_finite _, rfl, ?_⟩
  conv => whnf
  exact out0 rfl rfl

def massF (x : Nat) : Bool := finF (fcvt .f32 .f64 x) && (fgt .f32 x 0 || feq .f32 x 0)

theorem c_aMass (x : Nat) : Con Try.prog 185 [.flt .f32 x] (.val (.bool (massF x))) [] := by
  refine con_of tabOK mixed ⟨9, [0,1,2,3,4,5,6,7,8], [], []⟩ rfl (by decide) rfl rfl rfl rfl ?_
  conv => whnf
  refine .inl ⟨_, _, c_IsFinite _, rfl, ?_⟩
  conv => whnf
  refine ⟨fun h => ?_, fun h => ?_⟩
  · conv => whnf
    exact out0 rfl (show _ = _ by rw [massF, h, Bool.true_and])
  · conv => whnf
    exact out0 rfl (show _ = _ by rw [massF, h, Bool.false_and])

theorem c_areMasses1 (x : Nat) : Con Try.prog 184 [.flt .f32 x] (.val (.bool (!massF x))) [] := by
  refine con_of tabOK mixed ⟨6, [0,1,2,3,4,5], [], []⟩ rfl (by decide) rfl rfl rfl rfl ?_
  conv => whnf
  refine .inl ⟨_, _, c_aMass _, rfl, ?_⟩
  conv => whnf
  exact out0 rfl rfl

def idxF (p : Nat → Bool) (l : List Nat) : Int := match l.findIdx? p with
  | some i => i
  | none => -1

theorem findIdx_at {p : Nat → Bool} {l : List Nat} {i : Nat} (hi : i < l.length) (hb : ∀ x ∈ l.take i, p x = false) (hp : p l[i] = true) : l.findIdx? p = some i := by
  rw [List.findIdx?_eq_some_iff_getElem]
  refine ⟨hi, hp, fun j hj => ?_⟩
  have : l[j] ∈ l.take i := by
    rw [List.mem_take_iff_getElem]
    exact ⟨j, by omega, rfl⟩
  simp [hb _ this]

theorem c_IndexFunc (p : Nat → Bool) (g : FuncId) (hp : ∀ x, Con Try.prog g [.flt .f32 x] (.val (.bool (p x))) []) (l : List Nat) (hl : l.length ≤ maxLen) :
    Con Try.prog 198 [.sl false (.flt .f32) l, .fn g []] (.val (.int .i64 (idxF p l))) [] := by
  refine con_of tabOK mixed ⟨19, [0,1,4,5,7,8,9,16,18], [], []⟩ rfl (by decide) rfl rfl rfl rfl ?_
  conv => whnf
  refine ⟨Nat, fun i => [(0, .sl false (.flt .f32) l), (1, .fn g []), (7, .val (.int .i64 l.length)), (8, .val (.int .i64 i))], fun _ => [], fun i => i ≤ l.length ∧ ∀ x ∈ l.take i, p x = false, fun i => l.length - i, 0, ?_, ?_, fun i hi => ?_⟩
  · exact weak0 ⟨⟨trivial, rfl⟩, ⟨rfl, rfl⟩, rfl, rfl, trivial⟩
  · exact ⟨Nat.zero_le _, by simp⟩
  obtain ⟨hi, hk⟩ := hi
  conv => whnf
  refine ⟨fun h => ?_, fun h => ?_⟩
  · have hlt : i < l.length := lt_of_dec h
    conv => whnf
    refine idx hlt ?_
    conv => whnf
    refine .inl ⟨_, _, hp _, rfl, ?_⟩
    conv => whnf
    refine ⟨fun h => ?_, fun h => ?_⟩
    · conv => whnf
      refine out0 rfl (show _ = _ from ?_)
      rw [idxF, findIdx_at hlt hk h]
    · conv => whnf
      refine ⟨i + 1, weak0 ⟨⟨trivial, rfl⟩, ⟨rfl, rfl⟩, rfl, ?_, trivial⟩, ⟨hlt, fun x hx => ?_⟩, ?_⟩
      · show _ = _
        rw [wrap_succ hlt hl]
      · rw [List.take_succ_eq_append_getElem hlt, List.mem_append, List.mem_singleton] at hx
        rcases hx with hx | rfl
        · exact hk x hx
        · exact h
      · show l.length - (i + 1) < l.length - i
        omega
  · have hlt : i = l.length := Nat.le_antisymm hi (ge_of_dec h)
    conv => whnf
    refine out0 rfl (show _ = _ from ?_)
    have : l.findIdx? p = none := by
      rw [List.findIdx?_eq_none_iff]
      intro x hx
      exact hk x (by rw [hlt, List.take_length]; exact hx)
    rw [idxF, this]

theorem idxF_any (p : Nat → Bool) (l : List Nat) : decide (0 ≤ idxF p l) = l.any p := by
  unfold idxF
  cases h : l.findIdx? p with
  | none =>
    rw [List.findIdx?_eq_none_iff] at h
    have : l.any p = false := by
      rw [List.any_eq_false]
      intro x hx; rw [h x hx]; exact Bool.false_ne_true
    rw [this]; rfl
  | some i =>
    rw [List.findIdx?_eq_some_iff_getElem] at h
    obtain ⟨h1, h2, _⟩ := h
    have : l.any p = true := List.any_eq_true.2 ⟨_, List.getElem_mem h1, h2⟩
    rw [this]
    exact decide_eq_true (Int.natCast_nonneg i)

theorem c_ContainsFunc (p : Nat → Bool) (g : FuncId) (hp : ∀ x, Con Try.prog g [.flt .f32 x] (.val (.bool (p x))) []) (l : List Nat) (hl : l.length ≤ maxLen) :
    Con Try.prog 170 [.sl false (.flt .f32) l, .fn g []] (.val (.bool (l.any p))) [] := by
  refine con_of tabOK mixed ⟨9, [0,1,2,3,4,5,6,7,8], [], []⟩ rfl (by decide) rfl rfl rfl rfl ?_
  conv => whnf
  refine .inl ⟨_, _, c_IndexFunc p g hp l hl, rfl, ?_⟩
  conv => whnf
  exact out0 rfl (show _ = _ by rw [idxF_any])

theorem c_areMasses (l : List Nat) (hl : l.length ≤ maxLen) : Con Try.prog 146 [.sl false (.flt .f32) l] (.val (.bool (l.all massF))) [] := by
  refine con_of tabOK mixed ⟨6, [0,1,2,3,4,5], [], []⟩ rfl (by decide) rfl rfl rfl rfl ?_
  conv => whnf
  refine .inl ⟨_, _, c_ContainsFunc _ _ c_areMasses1 l hl, rfl, ?_⟩
  conv => whnf
  exact out0 rfl (show _ = _ by rw [List.not_any_eq_all_not]; simp)
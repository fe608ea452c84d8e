/- What an operation that only computes, reads or makes memory to be read leaves behind, on abstract values. -/
import Derived.Calls
import Derived.Below
import Derived.Laws.FloatArith
import Derived.Deep.Draws
import Derived.Laws.Slices
import Derived.Laws.Cells
import Derived.WalkKit
import Derived.WalkLawsBesides
set_option linter.unusedVariables false
set_option linter.unusedSimpArgs false
set_option linter.unnecessarySimpa false
namespace Go.V
/-- What is known of the world all along (a seat whose rows list variables has a text of its own in this one's place). -/
def INV (_ : World) : Prop := True
end Go.V

namespace Go.V
open Go.RowKit

def qnan : FloatKind → Nat
  | .f32 => 2143289344
  | .f64 => 9221120237041090560

def isNan (k : FloatKind) (b : Nat) : Bool := (k.format.read b).isNaN
def canon (k : FloatKind) (b : Nat) : Nat := if isNan k b then qnan k else b

/-- The word b stands for the canonical word x. -/
def FV (k : FloatKind) (b x : Nat) : Prop := b < 2 ^ k.format.width ∧ canon k b = x

theorem isNan_qnan (k : FloatKind) : isNan k (qnan k) = true := by cases k <;> decide +kernel
theorem qnan_lt (k : FloatKind) : qnan k < 2 ^ k.format.width := by cases k <;> decide +kernel
theorem canon_lt {k : FloatKind} {b : Nat} (h : b < 2 ^ k.format.width) : canon k b < 2 ^ k.format.width := by
  unfold canon; split
  · exact qnan_lt k
  · exact h
theorem canon_canon (k : FloatKind) (b : Nat) : canon k (canon k b) = canon k b := by
  unfold canon
  by_cases h : isNan k b = true
  · simp [h, isNan_qnan]
  · simp [h]
theorem isNan_canon (k : FloatKind) (b : Nat) : isNan k (canon k b) = isNan k b := by
  unfold canon
  by_cases h : isNan k b = true
  · simp [h, isNan_qnan]
  · simp [h]
theorem canon_of_not {k : FloatKind} {b : Nat} (h : isNan k b = false) : canon k b = b := by simp [canon, h]
theorem FV.self {k : FloatKind} {b : Nat} (h : b < 2 ^ k.format.width) : FV k b (canon k b) := ⟨h, rfl⟩
theorem FV.lt {k : FloatKind} {b x : Nat} (h : FV k b x) : x < 2 ^ k.format.width := h.2 ▸ canon_lt h.1
theorem FV.nan {k : FloatKind} {b x : Nat} (h : FV k b x) : isNan k b = isNan k x := by rw [← h.2, isNan_canon]
theorem FV.eq_of {k : FloatKind} {b x : Nat} (h : FV k b x) (hn : isNan k b = false) : b = x := by rw [← h.2, canon_of_not hn]

theorem nan_iff (k : FloatKind) (b : Nat) : isNan k b = decide (k.format.infRung < b % k.format.signWeight) := by
  unfold isNan Ieee.Format.read
  dsimp only
  have hb : k.format.binade ≤ k.format.infRung := by cases k <;> decide +kernel
  split
  · rename_i h; simp only [Ieee.Datum.isNaN]; symm; simp only [decide_eq_false_iff_not]; omega
  · split
    · rename_i h; simp only [Ieee.Datum.isNaN]; symm; simp only [decide_eq_false_iff_not]; omega
    · split
      · rename_i h; simp only [Ieee.Datum.isNaN]; symm; simp only [decide_eq_false_iff_not]; omega
      · simp only [Ieee.Datum.isNaN]; symm; simp only [decide_eq_true_eq]; omega

theorem cut_nan (k : FloatKind) (x y t : Nat) : (Question.nanBits k x y).cut t < 2 ^ k.format.width ∧ isNan k ((Question.nanBits k x y).cut t) = true := by
  rw [nan_iff]
  cases k
  · have e1 : (2 : Nat) ^ FloatKind.f32.format.width = 4294967296 := by decide +kernel
    have e2 : FloatKind.f32.format.signWeight = 2147483648 := by decide +kernel
    have e3 : FloatKind.f32.format.infRung = 2139095040 := by decide +kernel
    rw [e1, e2, e3]
    have e4 : (Question.nanBits .f32 x y).cut t = (t % 2) * 2147483648 + 2139095040 + 1 + (t / 2) % 8388607 := rfl
    rw [e4, decide_eq_true_eq]
    have hc := Nat.mod_lt (t / 2) (show 0 < 8388607 by omega)
    generalize (t / 2) % 8388607 = c at *
    rcases Nat.mod_two_eq_zero_or_one t with h | h <;> rw [h] <;> omega
  · have e1 : (2 : Nat) ^ FloatKind.f64.format.width = 18446744073709551616 := by decide +kernel
    have e2 : FloatKind.f64.format.signWeight = 9223372036854775808 := by decide +kernel
    have e3 : FloatKind.f64.format.infRung = 9218868437227405312 := by decide +kernel
    rw [e1, e2, e3]
    have e4 : (Question.nanBits .f64 x y).cut t = (t % 2) * 9223372036854775808 + 9218868437227405312 + 1 + (t / 2) % 4503599627370495 := rfl
    rw [e4, decide_eq_true_eq]
    have hc := Nat.mod_lt (t / 2) (show 0 < 4503599627370495 by omega)
    generalize (t / 2) % 4503599627370495 = c at *
    rcases Nat.mod_two_eq_zero_or_one t with h | h <;> rw [h] <;> omega
theorem cut_conv (k : FloatKind) (x t : Nat) : (Question.nanConv k x).cut t < 2 ^ k.format.width ∧ isNan k ((Question.nanConv k x).cut t) = true := by
  have := cut_nan k 0 0 t
  cases k <;> exact this
theorem cut_minmax (k : FloatKind) (m : Bool) (x y t : Nat) : (Question.nanMinMax k m x y).cut t < 2 ^ k.format.width ∧ isNan k ((Question.nanMinMax k m x y).cut t) = true := by
  have := cut_nan k 0 0 t
  cases k <;> exact this

def fres (k : FloatKind) (r : Option Nat) : Nat := match r with | some r => canon k r | none => qnan k
def fadd (k : FloatKind) (x y : Nat) : Nat := fres k (k.format.add x y)
def fsub (k : FloatKind) (x y : Nat) : Nat := fres k (k.format.sub x y)
def fmul (k : FloatKind) (x y : Nat) : Nat := fres k (k.format.mul x y)
def fdiv (k : FloatKind) (x y : Nat) : Nat := fres k (k.format.div x y)
def fneg (k : FloatKind) (x : Nat) : Nat := canon k (Op.negFloat k x)
def feq (k : FloatKind) (x y : Nat) : Bool := k.format.order x y == some .eq
def flt (k : FloatKind) (x y : Nat) : Bool := k.format.order x y == some .lt
def fgt (k : FloatKind) (x y : Nat) : Bool := k.format.order x y == some .gt
def fofInt (k : FloatKind) (n : Int) : Nat := canon k (k.nearest n)

theorem order_nan_left {k : FloatKind} {a b : Nat} (h : isNan k a = true) : k.format.order a b = none := by
  unfold isNan Ieee.Datum.isNaN at h
  unfold Ieee.Format.order
  cases ha : k.format.read a <;> simp [ha] at h
  simp [Ieee.Datum.order]
theorem order_nan_right {k : FloatKind} {a b : Nat} (h : isNan k b = true) : k.format.order a b = none := by
  unfold isNan Ieee.Datum.isNaN at h
  unfold Ieee.Format.order
  cases hb : k.format.read b <;> simp [hb] at h
  cases k.format.read a <;> simp [Ieee.Datum.order]

section
variable {k : FloatKind} {a b : Nat}
theorem add_nan_left (h : isNan k a = true) : k.format.add a b = none := by
  unfold isNan Ieee.Datum.isNaN at h; unfold Ieee.Format.add
  cases ha : k.format.read a <;> simp [ha] at h
  simp [Ieee.Datum.sum]
theorem add_nan_right (h : isNan k b = true) : k.format.add a b = none := by
  unfold isNan Ieee.Datum.isNaN at h; unfold Ieee.Format.add
  cases hb : k.format.read b <;> simp [hb] at h
  cases k.format.read a <;> simp [Ieee.Datum.sum]
theorem sub_nan_left (h : isNan k a = true) : k.format.sub a b = none := by
  unfold isNan Ieee.Datum.isNaN at h; unfold Ieee.Format.sub
  cases ha : k.format.read a <;> simp [ha] at h
  simp [Ieee.Datum.sum]
theorem sub_nan_right (h : isNan k b = true) : k.format.sub a b = none := by
  unfold isNan Ieee.Datum.isNaN at h; unfold Ieee.Format.sub
  cases hb : k.format.read b <;> simp [hb] at h
  cases k.format.read a <;> simp [Ieee.Datum.sum, Ieee.Datum.opposite]
theorem mul_nan_left (h : isNan k a = true) : k.format.mul a b = none := by
  unfold isNan Ieee.Datum.isNaN at h; unfold Ieee.Format.mul
  cases ha : k.format.read a <;> simp [ha] at h
  simp [Ieee.Datum.product]
theorem mul_nan_right (h : isNan k b = true) : k.format.mul a b = none := by
  unfold isNan Ieee.Datum.isNaN at h; unfold Ieee.Format.mul
  cases hb : k.format.read b <;> simp [hb] at h
  cases k.format.read a <;> simp [Ieee.Datum.product]
theorem div_nan_left (h : isNan k a = true) : k.format.div a b = none := by
  unfold isNan Ieee.Datum.isNaN at h; unfold Ieee.Format.div
  cases ha : k.format.read a <;> simp [ha] at h
  simp [Ieee.Datum.quotient]
theorem div_nan_right (h : isNan k b = true) : k.format.div a b = none := by
  unfold isNan Ieee.Datum.isNaN at h; unfold Ieee.Format.div
  cases hb : k.format.read b <;> simp [hb] at h
  cases k.format.read a <;> simp [Ieee.Datum.quotient]
end

/-- A binary operation that gives nothing at a NaN. -/
theorem bin_same {α : Type} {k : FloatKind} {f : Nat → Nat → Option α} (hl : ∀ a b, isNan k a = true → f a b = none) (hr : ∀ a b, isNan k b = true → f a b = none)
    {a b x y : Nat} (ha : FV k a x) (hb : FV k b y) : f a b = f x y := by
  by_cases h1 : isNan k a = true
  · rw [hl a b h1, hl x y (by rw [← ha.nan]; exact h1)]
  · by_cases h2 : isNan k b = true
    · rw [hr a b h2, hr x y (by rw [← hb.nan]; exact h2)]
    · rw [ha.eq_of (by simpa using h1), hb.eq_of (by simpa using h2)]
section
variable {k : FloatKind} {a b x y : Nat} (ha : FV k a x) (hb : FV k b y)
include ha hb
theorem add_same : k.format.add a b = k.format.add x y := bin_same (fun _ _ => add_nan_left) (fun _ _ => add_nan_right) ha hb
theorem sub_same : k.format.sub a b = k.format.sub x y := bin_same (fun _ _ => sub_nan_left) (fun _ _ => sub_nan_right) ha hb
theorem mul_same : k.format.mul a b = k.format.mul x y := bin_same (fun _ _ => mul_nan_left) (fun _ _ => mul_nan_right) ha hb
theorem div_same : k.format.div a b = k.format.div x y := bin_same (fun _ _ => div_nan_left) (fun _ _ => div_nan_right) ha hb
theorem order_same : k.format.order a b = k.format.order x y := bin_same (fun _ _ => order_nan_left) (fun _ _ => order_nan_right) ha hb
end

theorem signWeight_eq (k : FloatKind) : 2 ^ (k.format.exponentBits + k.format.fractionBits) = k.format.signWeight := rfl
theorem width_eq (k : FloatKind) : 2 ^ k.format.width = 2 * k.format.signWeight := by cases k <;> decide +kernel
theorem sw_pow (k : FloatKind) : ∃ n, k.format.signWeight = 2 ^ n := ⟨_, rfl⟩

theorem xor_top (n b : Nat) (h : b < 2 * 2 ^ n) : (b ^^^ 2 ^ n) % 2 ^ n = b % 2 ^ n ∧ b ^^^ 2 ^ n < 2 * 2 ^ n := by
  constructor
  · apply Nat.eq_of_testBit_eq
    intro i
    simp only [Nat.testBit_mod_two_pow, Nat.testBit_xor, Nat.testBit_two_pow]
    by_cases hi : i < n
    · have : ¬ n = i := by omega
      simp [hi, this]
    · simp [hi]
  · have e : 2 * 2 ^ n = 2 ^ (n + 1) := by rw [Nat.pow_succ, Nat.mul_comm]
    rw [e] at h ⊢
    exact Nat.xor_lt_two_pow h (Nat.pow_lt_pow_right (by omega) (by omega))

theorem neg_nan {k : FloatKind} {b : Nat} (h : b < 2 ^ k.format.width) : isNan k (Op.negFloat k b) = isNan k b ∧ Op.negFloat k b < 2 ^ k.format.width := by
  rw [width_eq] at h
  have := xor_top (k.format.exponentBits + k.format.fractionBits) b (by rw [signWeight_eq]; exact h)
  rw [signWeight_eq] at this
  refine ⟨?_, by rw [width_eq]; unfold Op.negFloat; rw [signWeight_eq]; exact this.2⟩
  rw [nan_iff, nan_iff]
  unfold Op.negFloat
  rw [signWeight_eq, this.1]

theorem FV.neg {k : FloatKind} {b x : Nat} (h : FV k b x) : FV k (Op.negFloat k b) (fneg k x) := by
  refine ⟨(neg_nan h.1).2, ?_⟩
  unfold fneg
  by_cases hn : isNan k b = true
  · have h1 := (neg_nan h.1).1
    have h2 := (neg_nan h.lt).1
    rw [← h.nan, hn] at h2
    rw [hn] at h1
    simp [canon, h1, h2]
  · rw [h.eq_of (by simpa using hn)]

/-- What a float operation leaves: the result stands for the canonical one, and at most one draw. -/
def FRes (k : FloatKind) (w : World) (x : Nat) (v : Value) (w' : World) : Prop := ∃ b n, v = .float k b ∧ FV k b x ∧ w' = w.drewN n

theorem fres_run {P : Program} {k : FloatKind} {w : World} {a b : Nat} (r : Option Nat) (hr : ∀ z, r = some z → z < 2 ^ k.format.width) :
    ∃ v w', ((match r with | some r => pure (Value.float k r) | none => do pure (.float k (← choose (.nanBits k a b))) : Sem Value)).run P w = .ok v w' ∧ FRes k w (fres k r) v w' := by
  cases r with
  | some z => exact ⟨_, _, rfl, z, 0, rfl, FV.self (hr z rfl), rfl⟩
  | none =>
    refine ⟨_, _, rfl, _, 1, rfl, ⟨(cut_nan k a b _).1, ?_⟩, rfl⟩
    simp [fres, canon, (cut_nan k a b _).2]

theorem run_fadd {P : Program} {k : FloatKind} {w : World} {a b x y : Nat} (t : TypeId) (ha : FV k a x) (hb : FV k b y) :
    ∃ v w', (binOp .add t (.float k a) (.float k b)).run P w = .ok v w' ∧ FRes k w (fadd k x y) v w' := by
  have := fres_run (P := P) (k := k) (w := w) (a := a) (b := b) (k.format.add a b) (fun z hz => k.format.add_lt hz)
  rw [add_same ha hb] at this
  unfold fadd
  obtain ⟨v, w', h1, h2⟩ := this
  refine ⟨v, w', ?_, h2⟩
  rw [← h1]
  simp only [binOp, Op.floatArith, ne_eq, not_true_eq_false, if_false, add_same ha hb]
  cases k.format.add x y <;> rfl
theorem run_fsub {P : Program} {k : FloatKind} {w : World} {a b x y : Nat} (t : TypeId) (ha : FV k a x) (hb : FV k b y) :
    ∃ v w', (binOp .sub t (.float k a) (.float k b)).run P w = .ok v w' ∧ FRes k w (fsub k x y) v w' := by
  have := fres_run (P := P) (k := k) (w := w) (a := a) (b := b) (k.format.sub a b) (fun z hz => k.format.sub_lt hz)
  rw [sub_same ha hb] at this
  unfold fsub
  obtain ⟨v, w', h1, h2⟩ := this
  refine ⟨v, w', ?_, h2⟩
  rw [← h1]
  simp only [binOp, Op.floatArith, ne_eq, not_true_eq_false, if_false, sub_same ha hb]
  cases k.format.sub x y <;> rfl
theorem run_fmul {P : Program} {k : FloatKind} {w : World} {a b x y : Nat} (t : TypeId) (ha : FV k a x) (hb : FV k b y) :
    ∃ v w', (binOp .mul t (.float k a) (.float k b)).run P w = .ok v w' ∧ FRes k w (fmul k x y) v w' := by
  have := fres_run (P := P) (k := k) (w := w) (a := a) (b := b) (k.format.mul a b) (fun z hz => k.format.mul_lt hz)
  rw [mul_same ha hb] at this
  unfold fmul
  obtain ⟨v, w', h1, h2⟩ := this
  refine ⟨v, w', ?_, h2⟩
  rw [← h1]
  simp only [binOp, Op.floatArith, ne_eq, not_true_eq_false, if_false, mul_same ha hb]
  cases k.format.mul x y <;> rfl
theorem run_fdiv {P : Program} {k : FloatKind} {w : World} {a b x y : Nat} (t : TypeId) (ha : FV k a x) (hb : FV k b y) :
    ∃ v w', (binOp .quo t (.float k a) (.float k b)).run P w = .ok v w' ∧ FRes k w (fdiv k x y) v w' := by
  have := fres_run (P := P) (k := k) (w := w) (a := a) (b := b) (k.format.div a b) (fun z hz => k.format.div_lt hz)
  rw [div_same ha hb] at this
  unfold fdiv
  obtain ⟨v, w', h1, h2⟩ := this
  refine ⟨v, w', ?_, h2⟩
  rw [← h1]
  simp only [binOp, Op.floatArith, ne_eq, not_true_eq_false, if_false, div_same ha hb]
  cases k.format.div x y <;> rfl

/-- 'float64(x)', 'float32(x)': the nearest one; a NaN is one. -/
def fcvt (s k : FloatKind) (x : Nat) : Nat :=
  if s = k then x else match s.decode x with
  | .nan _ _ => qnan k
  | .infinity g => canon k (k.encode (.infinity g))
  | .number g m e => canon k (k.encode (.number g m e))
/-- A finite number does not become too great. -/
def fcvtOk (s k : FloatKind) (x : Nat) : Bool :=
  if s = k then true else match s.decode x with
  | .number g m e => !(k.decode (k.encode (.number g m e))).isInfinity
  | _ => true
theorem run_fcvt {P : Program} {s k : FloatKind} {w : World} {a x : Nat} {src dst : TypeId} (hs : (P.underlying src).isSome = true) (hd : P.underlying dst = some (.float k))
    (ha : FV s a x) (ho : fcvtOk s k x = true) :
    ∃ v w', (convert src dst (.float s a)).run P w = .ok v w' ∧ FRes k w (fcvt s k x) v w' := by
  obtain ⟨u, hs'⟩ := Option.isSome_iff_exists.1 hs
  have key : ∃ v w', (Conv.floatToFloat s a k).run P w = .ok v w' ∧ FRes k w (fcvt s k x) v w' := by
    unfold Conv.floatToFloat fcvt
    unfold fcvtOk at ho
    by_cases e : s = k
    · subst e
      exact ⟨_, _, by simp only [if_true]; rfl, a, 0, rfl, by simpa using ha, rfl⟩
    · simp only [e, if_false] at ho ⊢
      by_cases hn : isNan s a = true
      · have hx := ha.nan; rw [hn] at hx
        unfold isNan at hn hx
        unfold FloatKind.decode at ho ⊢
        cases h1 : s.format.read a <;> simp [h1, Ieee.Datum.isNaN] at hn
        cases h2 : s.format.read x <;> simp [h2, Ieee.Datum.isNaN] at hx
        refine ⟨_, _, rfl, _, 1, rfl, ⟨(cut_conv k a _).1, ?_⟩, rfl⟩
        simp [canon, (cut_conv k a _).2]
      · have hx := ha.eq_of (by simpa using hn)
        subst hx
        unfold isNan at hn
        unfold FloatKind.decode at ho ⊢
        cases h1 : s.format.read a with
        | nan g f => simp [h1, Ieee.Datum.isNaN] at hn
        | infinity g => exact ⟨_, _, rfl, _, 0, rfl, FV.self (k.format.write_lt _), rfl⟩
        | number g m e' =>
          rw [h1] at ho
          dsimp only at ho ⊢
          have ho' : (k.format.read (k.encode (Ieee.Datum.number g m e'))).isInfinity = false := by simpa using ho
          simp only [ho', Bool.false_eq_true, if_false]
          exact ⟨_, _, rfl, _, 0, rfl, FV.self (k.format.write_lt _), rfl⟩
  obtain ⟨v, w', h1, h2⟩ := key
  refine ⟨v, w', ?_, h2⟩
  rw [← h1]
  cases u <;> simp [convert, run_underlying hs', run_underlying hd]

theorem fofInt_FV (k : FloatKind) (n : Int) : FV k (floatOfInt k n) (fofInt k n) := ⟨k.format.write_lt (.number (n < 0) n.natAbs 0), rfl⟩

theorem read32 {x : Nat} {g : Bool} {m : Nat} {e : Int} (h : FloatKind.f32.decode x = .number g m e) : m < 2 ^ 24 ∧ -149 ≤ e ∧ e ≤ 104 := by
  have e1 : FloatKind.f32.format.binade = 8388608 := by decide +kernel
  have e2 : FloatKind.f32.format.infRung = 2139095040 := by decide +kernel
  have e3 : FloatKind.f32.format.leastPlace = -149 := by decide +kernel
  unfold FloatKind.decode Ieee.Format.read at h
  simp only [e1, e2, e3] at h
  generalize x % FloatKind.f32.format.signWeight = r at h
  split at h
  · cases h; omega
  · split at h
    · simp only [Ieee.Datum.number.injEq] at h
      obtain ⟨_, rfl, rfl⟩ := h
      omega
    · split at h <;> cases h

/-- A number of single precision is one of double precision. -/
theorem widen_ok (x : Nat) : fcvtOk .f32 .f64 x = true := by
  unfold fcvtOk
  rw [if_neg (by decide)]
  split
  · rename_i g m e h
    obtain ⟨hm, he1, he2⟩ := read32 h
    have e1 : FloatKind.f64.format.binade = 4503599627370496 := by decide +kernel
    have e2 : FloatKind.f64.format.infRung = 9218868437227405312 := by decide +kernel
    have e3 : FloatKind.f64.format.leastPlace = -1074 := by decide +kernel
    have e4 : FloatKind.f64.format.signWeight = 9223372036854775808 := by decide +kernel
    have e5 : FloatKind.f64.format.fractionBits = 52 := by decide +kernel
    have key : ∃ r, r < 9218868437227405312 ∧ FloatKind.f64.encode (.number g m e) = FloatKind.f64.format.word g r := by
      show ∃ r, r < 9218868437227405312 ∧ FloatKind.f64.format.nearest g m e = FloatKind.f64.format.word g r
      unfold Ieee.Format.nearest
      by_cases h0 : m = 0
      · rw [if_pos h0]; exact ⟨0, by decide, rfl⟩
      · rw [if_neg h0]
        have hl : m.log2 < 24 := (Nat.log2_lt h0).2 hm
        have hlast : max (e + (m.log2 : Int) - (FloatKind.f64.format.fractionBits : Int)) (-1074) = e + (m.log2 : Int) - 52 := by
          rw [e5]; omega
        simp only [e1, e2, e3, hlast]
        refine ⟨_, ?_, rfl⟩
        have h1 : (e + (m.log2 : Int) - 52 - e).toNat = 0 := by omega
        have h2 : (e - (e + (m.log2 : Int) - 52)).toNat = 52 - m.log2 := by omega
        have h3 : (e + (m.log2 : Int) - 52 - -1074).toNat ≤ 1149 := by omega
        rw [h1, h2]
        have hcut : Ieee.Toward.even.cut g (m <<< (52 - m.log2)) 0 = m <<< (52 - m.log2) := by
          simp only [Ieee.Toward.cut, Nat.zero_min, Nat.shiftLeft_zero, Nat.div_one, Nat.mod_one]
          rfl
        rw [hcut]
        have hb : m <<< (52 - m.log2) < 9007199254740992 := by
          rw [Nat.shiftLeft_eq]
          have h4 : m < 2 ^ (m.log2 + 1) := Nat.lt_log2_self
          calc m * 2 ^ (52 - m.log2) < 2 ^ (m.log2 + 1) * 2 ^ (52 - m.log2) := Nat.mul_lt_mul_of_pos_right h4 (Nat.two_pow_pos _)
            _ = 2 ^ 53 := by rw [← Nat.pow_add]; congr 1; omega
            _ = 9007199254740992 := by decide
        generalize m <<< (52 - m.log2) = q at hb
        generalize (e + (m.log2 : Int) - 52 - -1074).toNat = p at h3
        refine Nat.lt_of_le_of_lt (Nat.min_le_left _ _) ?_
        exact Nat.lt_of_lt_of_le (Nat.add_lt_add_of_le_of_lt (Nat.mul_le_mul_right _ h3) hb) (by decide)
    obtain ⟨r, hr, hk⟩ := key
    rw [hk]
    have hmod : FloatKind.f64.format.word g r % FloatKind.f64.format.signWeight = r := by
      unfold Ieee.Format.word
      rw [e4]
      cases g <;> simp <;> omega
    unfold FloatKind.decode Ieee.Format.read
    simp only [hmod, e1, e2]
    split
    · rfl
    · rfl
  · rfl

end Go.V

namespace Go.V
open Go.RowKit

inductive STy where
  | int (k : IntKind) | bool | flt (k : FloatKind) | cpx (k : FloatKind) | str | sl (e : STy) | pair (a b : STy)
  deriving DecidableEq

@[reducible] def STy.S : STy → Type
  | .int _ => Int
  | .bool => Bool
  | .flt _ => Nat
  | .cpx _ => Nat × Nat
  | .str => ByteArray
  | .sl e => List e.S
  | .pair a b => a.S × b.S

def STy.n : STy → Nat
  | .pair a b => a.n + b.n
  | _ => 1

theorem STy.n_pos (t : STy) : 0 < t.n := by
  induction t <;> simp [STy.n]
  omega

/-- Abstract values. 'sl': a slice that is only read ('true': in memory made since the call began); 'own': a slice of the call's own, told by the heap; 'ptrR': the address of cells that are only read; 'ptrO', 'ptrE': into a box or an element of the call's own. -/
inductive AV where
  | tt | ff
  | val (v : Value)
  | flt (k : FloatKind) (x : Nat)
  | cpx (k : FloatKind) (x y : Nat)
  | sl (fr : Bool) (t : STy) (l : List t.S)
  | agg (cs : List AV)
  | tup (cs : List AV)
  | ptrR (cs : List AV)
  | own (id : Nat)
  | ptrO (id off : Nat)
  | ptrE (id i off : Nat)
  | fn (f : FuncId) (caps : List AV)
  | junk

inductive Cont where
  | box (cs : List AV)
  | row (e : TypeId) (t : STy) (l : List t.S)
  | dead

abbrev Env := List (Nat × AV)
abbrev Heap := List (Nat × Cont)

def eget : Env → Nat → AV
  | [], _ => .junk
  | (s, a) :: E, t => bif Nat.beq s t then a else eget E t
def hget : Heap → Nat → Option Cont
  | [], _ => none
  | (s, a) :: E, t => bif Nat.beq s t then some a else hget E t

theorem beq_eq (a b : Nat) : Nat.beq a b = decide (a = b) := by
  cases h : Nat.beq a b
  · symm; simpa using Nat.ne_of_beq_eq_false h
  · symm; simpa using Nat.eq_of_beq_eq_true h
theorem eget_cons (s : Nat) (a : AV) (E : Env) (t : Nat) : eget ((s, a) :: E) t = if s = t then a else eget E t := by
  simp only [eget, beq_eq, Bool.cond_decide]
theorem hget_cons (s : Nat) (a : Cont) (E : Heap) (t : Nat) : hget ((s, a) :: E) t = if s = t then some a else hget E t := by
  simp only [hget, beq_eq, Bool.cond_decide]
theorem hget_append (A B : Heap) (t : Nat) : hget (A ++ B) t = match hget A t with | some c => some c | none => hget B t := by
  induction A with
  | nil => rfl
  | cons p A ih =>
    obtain ⟨s, a⟩ := p
    rw [List.cons_append, hget_cons, hget_cons, ih]
    split <;> rfl

/-- The cells of one element. -/
def STy.enc (fr : Bool) : (t : STy) → t.S → List AV
  | .int k, x => [.val (.int k x)]
  | .bool, b => [.val (.bool b)]
  | .flt k, x => [.flt k x]
  | .cpx k, p => [.cpx k p.1 p.2]
  | .str, s => [.val (.string s)]
  | .sl e, l => [.sl fr e l]
  | .pair a b, p => a.enc fr p.1 ++ b.enc fr p.2

def cellsAt (w : World) (b o : Nat) (us : List Value) : Prop := ∀ j u, us[j]? = some u → w.cell? ⟨b, o + j, none⟩ = some u

def RdSl {α : Type} (w : World) (F : Nat → Prop) (n : Nat) (R : α → List Value → Prop) (l : List α) (v : Value) : Prop :=
  (l = [] ∧ ∃ a cap, v = .slice a 0 cap) ∨
  ∃ b off cap, v = .slice (some ⟨b, off, none⟩) l.length cap ∧ l.length ≤ cap ∧ F b ∧ b < w.heap.size ∧
    ∀ i x, l[i]? = some x → ∃ us, us.length = n ∧ R x us ∧ cellsAt w b (off + i * n) us

def RdC (w : World) (F : Nat → Prop) : (t : STy) → t.S → List Value → Prop
  | .int k, x, us => us = [.int k x]
  | .bool, b, us => us = [.bool b]
  | .flt k, x, us => ∃ b, us = [.float k b] ∧ FV k b x
  | .cpx k, p, us => ∃ a b, us = [.complex k a b] ∧ FV k a p.1 ∧ FV k b p.2
  | .str, s, us => us = [.string s]
  | .sl e, l, us => ∃ v, us = [v] ∧ RdSl w F e.n (RdC w F e) l v
  | .pair a b, p, us => ∃ us1 us2, us = us1 ++ us2 ∧ RdC w F a p.1 us1 ∧ RdC w F b p.2 us2

mutual
def Rel (w : World) (F G : Nat → Prop) (φ : Nat → Value) (H : Heap) : AV → Value → Prop
  | .tt, u => u = .bool true
  | .ff, u => u = .bool false
  | .val v, u => u = v
  | .flt k x, u => ∃ b, u = .float k b ∧ FV k b x
  | .cpx k x y, u => ∃ a b, u = .complex k a b ∧ FV k a x ∧ FV k b y
  | .sl fr t l, u => RdSl w (bif fr then G else F) t.n (RdC w (bif fr then G else F) t) l u
  | .agg cs, u => ∃ us : List Value, u = .agg us.toArray ∧ RelL w F G φ H cs us
  | .tup cs, u => ∃ us : List Value, u = .tuple us.toArray ∧ RelL w F G φ H cs us
  | .ptrR cs, u => ∃ b off us, u = .pointer (some ⟨b, off, none⟩) ∧ F b ∧ b < w.heap.size ∧ RelL w F G φ H cs us ∧ cellsAt w b off us
  | .own id, u => (hget H id).isSome = true ∧ ∀ e t l, hget H id = some (.row e t l) → u = φ id
  | .ptrO id off, u => (hget H id).isSome = true ∧ ∀ cs, hget H id = some (.box cs) → ∃ b, φ id = .pointer (some ⟨b, 0, none⟩) ∧ u = .pointer (some ⟨b, off, none⟩)
  | .ptrE id i off, u => (hget H id).isSome = true ∧ ∀ e t l, hget H id = some (.row e t l) → ∃ b c, φ id = .slice (some ⟨b, 0, none⟩) l.length c ∧ u = .pointer (some ⟨b, i * t.n + off, none⟩)
  | .fn f caps, u => ∃ us : List Value, u = .func (.func f) #[] us.toArray ∧ RelL w F G φ H caps us
  | .junk, _ => True
def RelL (w : World) (F G : Nat → Prop) (φ : Nat → Value) (H : Heap) : List AV → List Value → Prop
  | [], us => us = []
  | c :: cs, us => ∃ v vs, us = v :: vs ∧ Rel w F G φ H c v ∧ RelL w F G φ H cs vs
end

/-- From one world to another, at the blocks that 'F' names. -/
def Keeps (w w' : World) (F F' : Nat → Prop) : Prop := ∀ b, F b → b < w.heap.size → w'.heap[b]? = w.heap[b]? ∧ F' b

theorem cellsAt.keep {w w' : World} {b o : Nat} {us : List Value} (h : w'.heap[b]? = w.heap[b]?) (hc : cellsAt w b o us) : cellsAt w' b o us := by
  intro j u hj
  have := hc j u hj
  rw [← this]
  exact World.cell?_of_block (w := w) (a := ⟨b, o + j, none⟩) h

theorem RdSl.keep {α : Type} {w w' : World} {F F' : Nat → Prop} {n : Nat} {R R' : α → List Value → Prop} {l : List α} {v : Value}
    (hs : w.heap.size ≤ w'.heap.size) (hk : Keeps w w' F F') (hR : ∀ x us, R x us → R' x us) (h : RdSl w F n R l v) : RdSl w' F' n R' l v := by
  rcases h with ⟨h1, h2⟩ | ⟨b, off, cap, h1, h2, h3, h4, h5⟩
  · exact .inl ⟨h1, h2⟩
  · obtain ⟨k1, k2⟩ := hk b h3 h4
    refine .inr ⟨b, off, cap, h1, h2, k2, by omega, fun i x hx => ?_⟩
    obtain ⟨us, e1, e2, e3⟩ := h5 i x hx
    exact ⟨us, e1, hR _ _ e2, e3.keep k1⟩

theorem RdC.keep {w w' : World} {F F' : Nat → Prop} (hs : w.heap.size ≤ w'.heap.size) (hk : Keeps w w' F F') :
    ∀ (t : STy) (x : t.S) (us : List Value), RdC w F t x us → RdC w' F' t x us := by
  intro t
  induction t with
  | int k => exact fun _ _ h => h
  | bool => exact fun _ _ h => h
  | flt k => exact fun _ _ h => h
  | cpx k => exact fun _ _ h => h
  | str => exact fun _ _ h => h
  | sl e ih =>
    rintro l us ⟨v, h1, h2⟩
    exact ⟨v, h1, h2.keep hs hk ih⟩
  | pair a b iha ihb =>
    rintro p us ⟨u1, u2, h1, h2, h3⟩
    exact ⟨u1, u2, h1, iha _ _ h2, ihb _ _ h3⟩

theorem RdC.length {w : World} {F : Nat → Prop} : ∀ (t : STy) (x : t.S) (us : List Value), RdC w F t x us → us.length = t.n := by
  intro t
  induction t with
  | int k => rintro x us rfl; rfl
  | bool => rintro x us rfl; rfl
  | flt k => rintro x us ⟨b, rfl, _⟩; rfl
  | cpx k => rintro x us ⟨a, b, rfl, _⟩; rfl
  | str => rintro x us rfl; rfl
  | sl e ih => rintro l us ⟨v, rfl, _⟩; rfl
  | pair a b iha ihb =>
    rintro p us ⟨u1, u2, rfl, h2, h3⟩
    simp [STy.n, iha _ _ h2, ihb _ _ h3]

section
variable {w w' : World} {F F' G G' : Nat → Prop} {φ φ' : Nat → Value} {H H' : Heap}

theorem RelL.append : ∀ {cs ds : List AV} {us vs : List Value}, RelL w F G φ H cs us → RelL w F G φ H ds vs → RelL w F G φ H (cs ++ ds) (us ++ vs)
  | [], _, _, _, h, k => by simp only [RelL] at h; subst h; exact k
  | c :: cs, _, _, _, h, k => by
    simp only [RelL] at h
    obtain ⟨v, vs, rfl, h1, h2⟩ := h
    exact ⟨v, _, rfl, h1, RelL.append h2 k⟩

theorem RelL.length : ∀ {cs : List AV} {us : List Value}, RelL w F G φ H cs us → us.length = cs.length
  | [], _, h => by simp only [RelL] at h; subst h; rfl
  | c :: cs, _, h => by
    simp only [RelL] at h
    obtain ⟨v, vs, rfl, h1, h2⟩ := h
    simp [RelL.length h2]

theorem RelL.get : ∀ {cs : List AV} {us : List Value}, RelL w F G φ H cs us → ∀ (j : Nat) (c : AV), cs[j]? = some c → ∃ u, us[j]? = some u ∧ Rel w F G φ H c u
  | [], _, _, j, c, hj => by simp at hj
  | c :: cs, _, h, j, c', hj => by
    simp only [RelL] at h
    obtain ⟨v, vs, rfl, h1, h2⟩ := h
    cases j with
    | zero => simp at hj; subst hj; exact ⟨v, rfl, h1⟩
    | succ j => simpa using RelL.get h2 j c' (by simpa using hj)

theorem RelL.drop : ∀ {cs : List AV} {us : List Value} (n : Nat), RelL w F G φ H cs us → RelL w F G φ H (cs.drop n) (us.drop n)
  | [], _, n, h => by simp only [RelL] at h; subst h; simp [RelL]
  | c :: cs, _, 0, h => by simpa using h
  | c :: cs, _, n + 1, h => by
    simp only [RelL] at h
    obtain ⟨v, vs, rfl, h1, h2⟩ := h
    simpa using RelL.drop n h2

theorem RelL.take : ∀ {cs : List AV} {us : List Value} (n : Nat), RelL w F G φ H cs us → RelL w F G φ H (cs.take n) (us.take n)
  | [], _, n, h => by simp only [RelL] at h; subst h; simp [RelL]
  | c :: cs, _, 0, h => by simp [RelL]
  | c :: cs, _, n + 1, h => by
    simp only [RelL] at h
    obtain ⟨v, vs, rfl, h1, h2⟩ := h
    simp only [List.take_succ_cons, RelL]
    exact ⟨v, _, rfl, h1, RelL.take n h2⟩

theorem enc_rel (fr : Bool) : ∀ (t : STy) (x : t.S) (us : List Value), RdC w (bif fr then G else F) t x us → RelL w F G φ H (t.enc fr x) us := by
  intro t
  induction t with
  | int k => rintro x us rfl; exact ⟨_, _, rfl, rfl, rfl⟩
  | bool => rintro x us rfl; exact ⟨_, _, rfl, rfl, rfl⟩
  | flt k => rintro x us ⟨b, rfl, h⟩; exact ⟨_, _, rfl, ⟨b, rfl, h⟩, rfl⟩
  | cpx k => rintro x us ⟨a, b, rfl, h, h'⟩; exact ⟨_, _, rfl, ⟨a, b, rfl, h, h'⟩, rfl⟩
  | str => rintro x us rfl; exact ⟨_, _, rfl, rfl, rfl⟩
  | sl e ih => rintro l us ⟨v, rfl, h⟩; exact ⟨_, _, rfl, by simp only [Rel]; exact h, rfl⟩
  | pair a b iha ihb =>
    rintro p us ⟨u1, u2, rfl, h2, h3⟩
    exact RelL.append (iha _ _ h2) (ihb _ _ h3)

/-- How what is said of the heap of the call's own goes on. -/
structure HKeeps (φ φ' : Nat → Value) (H H' : Heap) : Prop where
  there : ∀ id, (hget H id).isSome = true → (hget H' id).isSome = true
  row : ∀ id e t l, (hget H id).isSome = true → hget H' id = some (.row e t l) → ∃ l0, hget H id = some (.row e t l0) ∧ l0.length = l.length ∧ φ' id = φ id
  box : ∀ id cs, (hget H id).isSome = true → hget H' id = some (.box cs) → ∃ cs0, hget H id = some (.box cs0) ∧ φ' id = φ id

theorem HKeeps.refl (φ : Nat → Value) (H : Heap) : HKeeps φ φ H H := ⟨fun _ h => h, fun _ _ _ l _ h => ⟨l, h, rfl, rfl⟩, fun _ cs _ h => ⟨cs, h, rfl⟩⟩

mutual
theorem Rel.keep (hs : w.heap.size ≤ w'.heap.size) (hF : Keeps w w' F F') (hG : Keeps w w' G G') (hH : HKeeps φ φ' H H') :
    ∀ (av : AV) (u : Value), Rel w F G φ H av u → Rel w' F' G' φ' H' av u
  | .tt, u, h => h
  | .ff, u, h => h
  | .val v, u, h => h
  | .flt k x, u, h => h
  | .cpx k x y, u, h => h
  | .sl fr t l, u, h => by
    simp only [Rel] at h ⊢
    cases fr
    · exact h.keep hs hF (RdC.keep hs hF t)
    · exact h.keep hs hG (RdC.keep hs hG t)
  | .agg cs, u, h => by
    simp only [Rel] at h ⊢
    obtain ⟨us, h1, h2⟩ := h
    exact ⟨us, h1, RelL.keep hs hF hG hH cs us h2⟩
  | .tup cs, u, h => by
    simp only [Rel] at h ⊢
    obtain ⟨us, h1, h2⟩ := h
    exact ⟨us, h1, RelL.keep hs hF hG hH cs us h2⟩
  | .ptrR cs, u, h => by
    simp only [Rel] at h ⊢
    obtain ⟨b, off, us, h1, h2, h3, h4, h5⟩ := h
    obtain ⟨k1, k2⟩ := hF b h2 h3
    exact ⟨b, off, us, h1, k2, by omega, RelL.keep hs hF hG hH cs us h4, h5.keep k1⟩
  | .own id, u, h => by
    simp only [Rel] at h ⊢
    refine ⟨hH.there id h.1, fun e t l hl => ?_⟩
    obtain ⟨l0, e1, _, e3⟩ := hH.row id e t l h.1 hl
    rw [e3]; exact h.2 e t l0 e1
  | .ptrO id off, u, h => by
    simp only [Rel] at h ⊢
    refine ⟨hH.there id h.1, fun cs hl => ?_⟩
    obtain ⟨cs0, e1, e3⟩ := hH.box id cs h.1 hl
    rw [e3]; exact h.2 cs0 e1
  | .ptrE id i off, u, h => by
    simp only [Rel] at h ⊢
    refine ⟨hH.there id h.1, fun e t l hl => ?_⟩
    obtain ⟨l0, e1, e2, e3⟩ := hH.row id e t l h.1 hl
    rw [e3, ← e2]; exact h.2 e t l0 e1
  | .fn f caps, u, h => by
    simp only [Rel] at h ⊢
    obtain ⟨us, h1, h2⟩ := h
    exact ⟨us, h1, RelL.keep hs hF hG hH caps us h2⟩
  | .junk, u, h => trivial
theorem RelL.keep (hs : w.heap.size ≤ w'.heap.size) (hF : Keeps w w' F F') (hG : Keeps w w' G G') (hH : HKeeps φ φ' H H') :
    ∀ (cs : List AV) (us : List Value), RelL w F G φ H cs us → RelL w' F' G' φ' H' cs us
  | [], us, h => h
  | c :: cs, us, h => by
    simp only [RelL] at h ⊢
    obtain ⟨v, vs, h1, h2, h3⟩ := h
    exact ⟨v, vs, h1, Rel.keep hs hF hG hH c v h2, RelL.keep hs hF hG hH cs vs h3⟩
end
end

def blk : Value → Option Nat
  | .pointer (some a) => some a.block
  | .slice (some a) _ _ => some a.block
  | _ => none

def GoodC (w : World) (F G : Nat → Prop) (φ : Nat → Value) (H : Heap) (id : Nat) : Cont → Prop
  | .box cs => ∃ b T us, φ id = .pointer (some ⟨b, 0, none⟩) ∧ w.heap[b]? = some (.cells us.toArray T (0, 0)) ∧ RelL w F G φ H cs us
  | .row e t l => (l = [] ∧ φ id = .slice none 0 0) ∨ ∃ b cap vs, φ id = .slice (some ⟨b, 0, none⟩) l.length cap ∧
      w.heap[b]? = some (.cells vs e (0, 0)) ∧ l.length ≤ cap ∧ cap ≤ maxLen ∧ vs.size = cap * t.n ∧
      ∀ i x, l[i]? = some x → ∃ us, us.length = t.n ∧ RdC w G t x us ∧ ∀ j u, us[j]? = some u → vs[i * t.n + j]? = some u
  | .dead => True

/-- A part of the heap that is there. -/
def hlive (H : Heap) (id : Nat) : Prop := ∃ C, hget H id = some C ∧ C ≠ .dead

def Fr (φ : Nat → Value) (H : Heap) (b : Nat) : Prop := ∀ id, hlive H id → blk (φ id) ≠ some b
/-- What a walk starts from: of the blocks that are there, 'S' names those that stay as they are, 'D' those that nobody else has in hand. -/
structure Base where
  w : World
  S : Nat → Prop
  D : Nat → Prop
  lt : ∀ b, S b → b < w.heap.size
  new : ∀ b, w.heap.size ≤ b → D b
  ga : List AV
  gv : List Value

def Base.all (w : World) : Base := ⟨w, fun b => b < w.heap.size, fun b => w.heap.size ≤ b, fun _ h => h, fun _ h => h, [], []⟩

def Gr (B : Base) (φ : Nat → Value) (H : Heap) (b : Nat) : Prop := B.D b ∧ Fr φ H b

/-- From one world to another, with all that stays. -/
structure Onto (B : Base) (w w' : World) : Prop where
  os : w'.os = w.os
  tape : w'.tape = w.tape
  output : w'.output = w.output
  size : w.heap.size ≤ w'.heap.size
  block : ∀ b, B.S b → w'.heap[b]? = w.heap[b]?

theorem Onto.trans {B : Base} {w w1 w2 : World} (h : Onto B w w1) (k : Onto B w1 w2) : Onto B w w2 :=
  ⟨k.os.trans h.os, k.tape.trans h.tape, k.output.trans h.output, Nat.le_trans h.size k.size, fun b hb => (k.block b hb).trans (h.block b hb)⟩
theorem Onto.refl (B : Base) (w : World) : Onto B w w := ⟨rfl, rfl, rfl, Nat.le_refl _, fun _ _ => rfl⟩
theorem Below.onto {B : Base} {w w' : World} (h : Below w.heap.size w w') (hs : B.w.heap.size ≤ w.heap.size) : Onto B w w' :=
  ⟨h.os, h.tape, h.output, h.size, fun b hb => h.block b (Nat.lt_of_lt_of_le (B.lt b hb) hs)⟩
theorem Base.new' {B : Base} {w : World} (hs : B.w.heap.size ≤ w.heap.size) {b : Nat} (hb : w.heap.size ≤ b) : B.D b ∧ ¬ B.S b :=
  ⟨B.new b (Nat.le_trans hs hb), fun h => by have := B.lt b h; omega⟩

/-- What is known all along stays true, whatever is made. -/
def KeepB (B : Base) : Prop := ∀ w', Onto B B.w w' → INV w'

structure Sim (w0 : Base) (w : World) (φ : Nat → Value) (H : Heap) : Prop where
  below : Onto w0 w0.w w
  good : ∀ id C, hget H id = some C → GoodC w (Fr φ H) (Gr w0 φ H) φ H id C
  fresh : ∀ id b, hlive H id → blk (φ id) = some b → w0.D b ∧ ¬ w0.S b
  inj : ∀ id id' b, hlive H id → hlive H id' → blk (φ id) = some b → blk (φ id') = some b → id = id'
  keep : KeepB w0

/-- What the frame and the world are like. -/
structure St (N : Nat) (w0 : Base) (E : Env) (H : Heap) (φ : Nat → Value) (a : Act) (w : World) : Prop where
  sim : Sim w0 w φ H
  env : ∀ s, Rel w (Fr φ H) (Gr w0 φ H) φ H (eget E s) (a.tmps.getD s undef)
  defers : a.defers = []
  size : a.tmps.size = N
  gh : RelL w (Fr φ H) (Gr w0 φ H) φ H w0.ga w0.gv

theorem GoodC.block_lt {w : World} {F G : Nat → Prop} {φ : Nat → Value} {H : Heap} {id : Nat} {C : Cont} (h : GoodC w F G φ H id C) (hd : C ≠ .dead) {b : Nat} (hb : blk (φ id) = some b) : b < w.heap.size := by
  have key : ∀ o, w.heap[b]? = some o → b < w.heap.size := fun o ho => by
    rcases Nat.lt_or_ge b w.heap.size with h | h
    · exact h
    · simp [Array.getElem?_eq_none h] at ho
  cases C with
  | box cs =>
    obtain ⟨b', T, us, h1, h2, h3⟩ := h
    rw [h1] at hb; simp [blk] at hb; subst hb
    exact key _ h2
  | row e t l =>
    rcases h with ⟨_, h1⟩ | ⟨b', cap, vs, h1, h2, _⟩
    · rw [h1] at hb; simp [blk] at hb
    · rw [h1] at hb; simp [blk] at hb; subst hb
      exact key _ h2
  | dead => exact absurd rfl hd

theorem GoodC.keep {w w' : World} {F F' G G' : Nat → Prop} {φ φ' : Nat → Value} {H H' : Heap} {id : Nat} {C : Cont}
    (hs : w.heap.size ≤ w'.heap.size) (hF : Keeps w w' F F') (hG : Keeps w w' G G') (hH : HKeeps φ φ' H H') (hφ : C ≠ .dead → φ' id = φ id)
    (hb : C ≠ .dead → ∀ b, blk (φ id) = some b → w'.heap[b]? = w.heap[b]?) (h : GoodC w F G φ H id C) : GoodC w' F' G' φ' H' id C := by
  cases C with
  | box cs =>
    obtain ⟨b, T, us, h1, h2, h3⟩ := h
    have hφ := hφ (by intro h; cases h)
    have hb := hb (by intro h; cases h)
    exact ⟨b, T, us, by rw [hφ, h1], by rw [hb b (by rw [h1]; rfl)]; exact h2, RelL.keep hs hF hG hH cs us h3⟩
  | dead => trivial
  | row e t l =>
    have hφ := hφ (by intro h; cases h)
    have hb := hb (by intro h; cases h)
    rcases h with ⟨h0, h1⟩ | ⟨b, cap, vs, h1, h2, h3, h3', h4, h5⟩
    · exact .inl ⟨h0, by rw [hφ, h1]⟩
    · refine .inr ⟨b, cap, vs, by rw [hφ, h1], by rw [hb b (by rw [h1]; rfl)]; exact h2, h3, h3', h4, fun i x hx => ?_⟩
      obtain ⟨us, e1, e2, e3⟩ := h5 i x hx
      exact ⟨us, e1, RdC.keep hs hG t x us e2, e3⟩

theorem Sim.block_lt {w0 : Base} {w : World} {φ : Nat → Value} {H : Heap} (h : Sim w0 w φ H) {id : Nat} (hi : hlive H id) {b : Nat} (hb : blk (φ id) = some b) : b < w.heap.size :=
  let ⟨C, h1, h2⟩ := hi
  (h.good id C h1).block_lt h2 hb

theorem keeps_below {w w' : World} (F : Nat → Prop) (h : Below w.heap.size w w') : Keeps w w' F F := fun b hF hb => ⟨h.block b hb, hF⟩

/-- New memory only: all that is known stays. -/
theorem Sim.ext {w0 : Base} {w w' : World} {φ : Nat → Value} {H : Heap} (h : Sim w0 w φ H) (hb : Below w.heap.size w w') : Sim w0 w' φ H where
  below := h.below.trans (Below.onto hb h.below.size)
  good := fun id C hi => (h.good id C hi).keep hb.size (keeps_below _ hb) (keeps_below _ hb) (HKeeps.refl _ _) (fun _ => rfl) (fun hd b hk => hb.block b (h.block_lt ⟨C, hi, hd⟩ hk))
  fresh := h.fresh
  inj := h.inj
  keep := h.keep

theorem Onto.all {B : Base} {w w' : World} (h : Onto B B.w w) (k : Onto (Base.all w) w w') : Onto B B.w w' :=
  ⟨k.os.trans h.os, k.tape.trans h.tape, k.output.trans h.output, Nat.le_trans h.size k.size, fun b hb => (k.block b (Nat.lt_of_lt_of_le (B.lt b hb) h.size)).trans (h.block b hb)⟩
theorem Sim.keepAll {w0 : Base} {w : World} {φ : Nat → Value} {H : Heap} (h : Sim w0 w φ H) : KeepB (Base.all w) := fun _ k => h.keep _ (h.below.all k)

theorem Rel.ext {w0 : Base} {w w' : World} {φ : Nat → Value} {H : Heap} (hb : Below w.heap.size w w') {av : AV} {u : Value}
    (h : Rel w (Fr φ H) (Gr w0 φ H) φ H av u) : Rel w' (Fr φ H) (Gr w0 φ H) φ H av u :=
  Rel.keep hb.size (keeps_below _ hb) (keeps_below _ hb) (HKeeps.refl _ _) av u h

theorem St.ext {N : Nat} {w0 : Base} {w w' : World} {E : Env} {H : Heap} {φ : Nat → Value} {a : Act} (h : St N w0 E H φ a w) (hb : Below w.heap.size w w') : St N w0 E H φ a w' where
  sim := h.sim.ext hb
  env := fun s => (h.env s).ext hb
  defers := h.defers
  size := h.size
  gh := RelL.keep hb.size (keeps_below _ hb) (keeps_below _ hb) (HKeeps.refl _ _) _ _ h.gh

theorem getD_set (a : Array Value) (d s : Nat) (v x : Value) (h : d < a.size) : (a.setIfInBounds d v).getD s x = if d = s then v else a.getD s x := by
  simp only [Array.getD_eq_getD_getElem?, Array.getElem?_setIfInBounds]
  by_cases e : d = s
  · subst e; simp [h]
  · simp [e]

theorem St.put {N : Nat} {w0 : Base} {w : World} {E : Env} {H : Heap} {φ : Nat → Value} {a : Act} (h : St N w0 E H φ a w) {d : Nat} (hd : d < N) {av : AV} {v : Value}
    (hv : Rel w (Fr φ H) (Gr w0 φ H) φ H av v) : St N w0 ((d, av) :: E) H φ (a.put (some d) v) w where
  sim := h.sim
  env := fun s => by
    rw [eget_cons]
    simp only [Act.put]
    rw [getD_set _ _ _ _ _ (by rw [h.size]; exact hd)]
    by_cases e : d = s
    · simp only [e, if_true]; exact hv
    · simp only [e, if_false]; exact h.env s
  defers := h.defers
  size := by simp [Act.put, h.size]
  gh := h.gh

/-- A part of what is known. -/
theorem St.weak {N : Nat} {w0 : Base} {w : World} {E E' : Env} {H : Heap} {φ : Nat → Value} {a : Act} (h : St N w0 E H φ a w) (he : ∀ s, eget E' s = eget E s ∨ eget E' s = .junk) : St N w0 E' H φ a w where
  sim := h.sim
  env := fun s => by
    rcases he s with e | e
    · rw [e]; exact h.env s
    · rw [e]; simp only [Rel]
  defers := h.defers
  size := h.size
  gh := h.gh

end Go.V

namespace Go.V
open Go.RowKit

inductive TK where
  | int (k : IntKind) | flt (k : FloatKind) | cpx (k : FloatKind) | bool | str
  | slice (e : Nat) (t : STy) (bytes : Nat)
  | strct (fs : List (Nat × Nat × Bool))
  | arr (len esz : Nat)
  | other
inductive ZV where
  | int (k : IntKind) | bool | flt (k : FloatKind) | cpx (k : FloatKind) | str | slice | other
  deriving DecidableEq
structure TD where
  n : Nat
  ag : Bool
  k : TK
  z : List ZV
  eqi : Bool
abbrev Tab := List (Nat × TD)
def tget : Tab → Nat → Option TD
  | [], _ => none
  | (s, a) :: E, t => bif Nat.beq s t then some a else tget E t

def zcOf : Value → ZV
  | .int k n => if n = 0 then .int k else .other
  | .bool b => if b then .other else .bool
  | .float k n => if n = 0 then .flt k else .other
  | .complex k n m => if n = 0 ∧ m = 0 then .cpx k else .other
  | .string s => if s = .empty then .str else .other
  | .slice a n c => if a.isNone ∧ n = 0 ∧ c = 0 then .slice else .other
  | _ => .other
def zav : ZV → AV
  | .int k => .val (.int k 0)
  | .bool => .val (.bool false)
  | .flt k => .flt k 0
  | .cpx k => .cpx k 0 0
  | .str => .val (.string .empty)
  | .slice => .val (.slice none 0 0)
  | .other => .junk

def zty : STy → List ZV
  | .int k => [.int k]
  | .bool => [.bool]
  | .flt k => [.flt k]
  | .cpx k => [.cpx k]
  | .str => [.str]
  | .sl _ => [.slice]
  | .pair a b => zty a ++ zty b

def aggOf : TypeDesc → Bool
  | .struct _ => true
  | .array _ _ => true
  | _ => false

def kB (P : Program) : TK → TypeDesc → Bool
  | .int k, .int k' => decide (k = k')
  | .flt k, .float k' => decide (k = k')
  | .cpx k, .complex k' => decide (k = k')
  | .bool, .bool => true
  | .str, .string => true
  | .slice e t b, .slice e' => decide (e = e') && (match P.info? e with | some i => decide (i.size = t.n) && decide (i.bytes = b) && (match i.zero with | some z => decide (z.cells.toList.map zcOf = zty t) | none => false) | none => false)
  | .strct fs, .struct fields => decide (fields.toList.map (fun f => (f.offset, (P.info? f.type).map (·.size), (P.underlying f.type).map aggOf)) = fs.map (fun p => (p.1, some p.2.1, some p.2.2)))
  | .arr len esz, .array len' e => decide (len = len') && (match P.info? e with | some i => decide (i.size = esz) | none => false)
  | .other, _ => true
  | _, _ => false

/-- Whole numbers side by side, each with a name. -/
def fldsOK (P : Program) : Nat → List Field → Bool
  | _, [] => true
  | i, f :: fs => (f.name != "_") && (f.offset == i) && (match P.underlying f.type with
    | some (.int _) => true
    | _ => false) && fldsOK P (i + 1) fs
/-- A struct of whole numbers, which may be compared. -/
def eqiB (P : Program) (t n : Nat) : Bool := match P.underlying t with
  | some (.struct fs) => !P.stoodInHeld t && !P.eqGuardType P.depth t && fldsOK P 0 fs.toList && (fs.size == n)
  | _ => false

def tdB (P : Program) (t : Nat) (d : TD) : Bool :=
  match P.info? t, P.underlying t with
  | some i, some u => decide (i.size = d.n) && (match i.zero with | some z => decide (z.cells.toList.map zcOf = d.z) | none => false) && (aggOf u == d.ag) && kB P d.k u && (!d.eqi || eqiB P t d.n)
  | _, _ => false

def TabOK (P : Program) (Γ : Tab) : Prop := ∀ t d, tget Γ t = some d → tdB P t d = true

theorem tabOK_of {P : Program} {Γ : Tab} (h : Γ.all (fun p => tdB P p.1 p.2) = true) : TabOK P Γ := by
  induction Γ with
  | nil => intro t d h; simp [tget] at h
  | cons p Γ ih =>
    obtain ⟨s, a⟩ := p
    simp only [List.all_cons, Bool.and_eq_true] at h
    intro t d ht
    simp only [tget, beq_eq, Bool.cond_decide] at ht
    split at ht
    · rename_i e; cases ht; rw [← e]; exact h.1
    · exact ih h.2 t d ht

structure TDOK (P : Program) (t : Nat) (d : TD) : Prop where
  info : ∃ i z, P.info? t = some i ∧ i.size = d.n ∧ i.zero = some z ∧ z.cells.toList.map zcOf = d.z
  und : ∃ u, P.underlying t = some u ∧ aggOf u = d.ag ∧ kB P d.k u = true
  eq : d.eqi = true → eqiB P t d.n = true

theorem TabOK.ok {P : Program} {Γ : Tab} (h : TabOK P Γ) {t : Nat} {d : TD} (ht : tget Γ t = some d) : TDOK P t d := by
  have := h t d ht
  unfold tdB at this
  split at this
  · rename_i i u h1 h2
    simp only [Bool.and_eq_true, decide_eq_true_eq, beq_iff_eq] at this
    obtain ⟨⟨⟨⟨a1, a2⟩, a3⟩, a4⟩, a5⟩ := this
    split at a2
    · rename_i z hz
      exact ⟨⟨i, z, h1, a1, hz, by simpa using a2⟩, ⟨u, h2, a3, a4⟩, fun he => by rw [he] at a5; simpa using a5⟩
    · cases a2
  · cases this

theorem TDOK.size {P : Program} {t : Nat} {d : TD} (h : TDOK P t d) (w : World) : (sizeOf t).run P w = .ok d.n w := by
  obtain ⟨i, z, h1, h2, _⟩ := h.info
  simp [sizeOf, typeInfo, program, Sem.run, h1, h2]
theorem TDOK.isAgg {P : Program} {t : Nat} {d : TD} (h : TDOK P t d) (w : World) : (isAgg t).run P w = .ok d.ag w := by
  obtain ⟨u, h1, h2, _⟩ := h.und
  rw [← h2]
  unfold Go.isAgg
  simp only [Sem.run_bind, run_underlying h1, Result.andThen_ok]
  cases u <;> rfl

/-! ### Operands -/

def cOk (k : FloatKind) (b : Nat) : Bool :=
  match k with
  | .f32 => Nat.blt b 4294967296 && Nat.ble (b % 2147483648) 2139095040
  | .f64 => Nat.blt b 18446744073709551616 && Nat.ble (b % 9223372036854775808) 9218868437227405312

theorem cOk_FV {k : FloatKind} {b : Nat} (h : cOk k b = true) : FV k b b := by
  have e2 : FloatKind.f32.format.signWeight = 2147483648 := by decide +kernel
  have e3 : FloatKind.f32.format.infRung = 2139095040 := by decide +kernel
  have e4 : FloatKind.f64.format.signWeight = 9223372036854775808 := by decide +kernel
  have e5 : FloatKind.f64.format.infRung = 9218868437227405312 := by decide +kernel
  cases k
  · simp only [cOk, Bool.and_eq_true, Nat.blt_eq, Nat.ble_eq] at h
    refine ⟨by rw [width_eq, e2]; omega, canon_of_not ?_⟩
    rw [nan_iff, e2, e3, decide_eq_false_iff_not]; omega
  · simp only [cOk, Bool.and_eq_true, Nat.blt_eq, Nat.ble_eq] at h
    refine ⟨by rw [width_eq, e4]; omega, canon_of_not ?_⟩
    rw [nan_iff, e4, e5, decide_eq_false_iff_not]; omega

def avC : Value → AV
  | .bool true => .tt
  | .bool false => .ff
  | .float k b => bif cOk k b then .flt k b else .junk
  | .complex k a b => bif cOk k a && cOk k b then .cpx k a b else .junk
  | v => .val v

def avOf (E : Env) : Operand → AV
  | .tmp t => eget E t
  | .const v => avC v
  | .func f => .fn f []
  | .global _ => .junk

def force (a : AV) (K : AV → Prop) : Prop :=
  match a with
  | .tt => K .tt
  | .ff => K .ff
  | .val v => K (.val v)
  | .flt k x => K (.flt k x)
  | .cpx k x y => K (.cpx k x y)
  | .sl fr t l => K (.sl fr t l)
  | .agg cs => K (.agg cs)
  | .tup cs => K (.tup cs)
  | .ptrR cs => K (.ptrR cs)
  | .own id => K (.own id)
  | .ptrO id off => K (.ptrO id off)
  | .ptrE id i off => K (.ptrE id i off)
  | .fn f caps => K (.fn f caps)
  | .junk => K .junk
theorem force_eq (a : AV) (K : AV → Prop) : force a K = K a := by cases a <;> rfl

theorem avC_rel {w : World} {F G : Nat → Prop} {φ : Nat → Value} {H : Heap} (v : Value) : Rel w F G φ H (avC v) v := by
  unfold avC
  split
  · simp only [Rel]
  · simp only [Rel]
  · rename_i k b
    cases h : cOk k b
    · simp only [cond_false, Rel]
    · simp only [cond_true, Rel]; exact ⟨b, rfl, cOk_FV h⟩
  · rename_i k a b
    cases h : (cOk k a && cOk k b)
    · simp only [cond_false, Rel]
    · simp only [Bool.and_eq_true] at h
      simp only [cond_true, Rel]; exact ⟨a, b, rfl, cOk_FV h.1, cOk_FV h.2⟩
  · simp only [Rel]

theorem St.opd {N : Nat} {w0 : Base} {w : World} {E : Env} {H : Heap} {φ : Nat → Value} {a : Act} (h : St N w0 E H φ a w) (x : Operand) :
    Rel w (Fr φ H) (Gr w0 φ H) φ H (avOf E x) (a.eval x) := by
  cases x with
  | tmp t => exact h.env t
  | const v => exact avC_rel v
  | global g => simp only [avOf, Rel]
  | func f => simp only [avOf, Rel]; exact ⟨[], rfl, rfl⟩

/-! ### What an operation does -/

def DoesV (P : Program) (o : Oper) (a : Act) (w : World) (R : Value → World → Prop) : Prop :=
  match (execOp a.eval o).run P w with
  | .ok (.value v) w' => R v w'
  | .ok .skip w' => R undef w'
  | .ok (.enter f args) w' => Calls P f args w' (fun e w'' => ∃ v, e = .returned v ∧ R v w'')
  | _ => False

theorem DoesV.value {P : Program} {o : Oper} {a : Act} {w w' : World} {v : Value} {R : Value → World → Prop}
    (h : (execOp a.eval o).run P w = .ok (.value v) w') (hr : R v w') : DoesV P o a w R := by
  unfold DoesV; rw [h]; exact hr

theorem DoesV.wp {P : Program} {o : Oper} {a : Act} {w : World} {R : Value → World → Prop} (h : DoesV P o a w R) {next : Act → World → Prop} {Q : Exit → Act → World → Prop}
    (hn : ∀ v w', R v w' → next (a.put o.dst v) w') : o.wp P a w next Q := by
  unfold DoesV at h
  unfold Oper.wp
  cases hr : (execOp a.eval o).run P w with
  | ok n w' =>
    rw [hr] at h
    cases n <;> simp only at h <;> simp only [Oper.upon] <;> first
      | exact hn _ _ h
      | exact h.mono fun e w'' ⟨v, he, hR⟩ => by subst he; exact hn _ _ hR
  | halt x w' => rw [hr] at h; exact h.elim

/-- The operation gives a value that is told by 'av', whenever its operands are as told. -/
def OkOp (P : Program) (E : Env) (H : Heap) (o : Oper) (av : AV) : Prop :=
  ∀ (w0 : Base) (w : World) (φ : Nat → Value) (a : Act), Sim w0 w φ H →
    (∀ x, x ∈ o.op.operands → Rel w (Fr φ H) (Gr w0 φ H) φ H (avOf E x) (a.eval x)) →
    DoesV P o a w (fun v w' => Below w.heap.size w w' ∧ Rel w' (Fr φ H) (Gr w0 φ H) φ H av v)

/-- .. in the very world. -/
theorem OkOp.same {P : Program} {E : Env} {H : Heap} {o : Oper} {av : AV}
    (h : ∀ (w0 : Base) (w : World) (φ : Nat → Value) (a : Act), Sim w0 w φ H →
      (∀ x, x ∈ o.op.operands → Rel w (Fr φ H) (Gr w0 φ H) φ H (avOf E x) (a.eval x)) →
      ∃ v, (execOp a.eval o).run P w = .ok (.value v) w ∧ Rel w (Fr φ H) (Gr w0 φ H) φ H av v) : OkOp P E H o av := by
  intro w0 w φ a hs hx
  obtain ⟨v, h1, h2⟩ := h w0 w φ a hs hx
  exact DoesV.value h1 ⟨Below.refl _ _, h2⟩

/-- .. after draws. -/
theorem OkOp.drawn {P : Program} {E : Env} {H : Heap} {o : Oper} {k : FloatKind} {x : Nat}
    (h : ∀ (w0 : Base) (w : World) (φ : Nat → Value) (a : Act), Sim w0 w φ H →
      (∀ x, x ∈ o.op.operands → Rel w (Fr φ H) (Gr w0 φ H) φ H (avOf E x) (a.eval x)) →
      ∃ v w', (execOp a.eval o).run P w = .ok (.value v) w' ∧ FRes k w x v w') : OkOp P E H o (.flt k x) := by
  intro w0 w φ a hs hx
  obtain ⟨v, w', h1, b, n, rfl, h3, rfl⟩ := h w0 w φ a hs hx
  exact DoesV.value h1 ⟨⟨rfl, rfl, rfl, Nat.le_refl _, fun _ _ => rfl⟩, by simp only [Rel]; exact ⟨b, rfl, h3⟩⟩

def kEq : IntKind → IntKind → Bool
  | .i8, .i8 | .i16, .i16 | .i32, .i32 | .i64, .i64 | .u8, .u8 | .u16, .u16 | .u32, .u32 | .u64, .u64 => true
  | _, _ => false
def fkEq : FloatKind → FloatKind → Bool
  | .f32, .f32 | .f64, .f64 => true
  | _, _ => false
theorem kEq_eq {k k' : IntKind} (h : kEq k k' = true) : k = k' := by cases k <;> cases k' <;> first | rfl | cases h
theorem fkEq_eq {k k' : FloatKind} (h : fkEq k k' = true) : k = k' := by cases k <;> cases k' <;> first | rfl | cases h

def ibit (op : BinOp) (k : IntKind) (x y : Int) : Int :=
  k.wrap ((match op with
  | .and => BitVec.ofInt k.bits x &&& BitVec.ofInt k.bits y
  | .or => BitVec.ofInt k.bits x ||| BitVec.ofInt k.bits y
  | .xor => BitVec.ofInt k.bits x ^^^ BitVec.ofInt k.bits y
  | _ => BitVec.ofInt k.bits x &&& ~~~(BitVec.ofInt k.bits y)).toNat)

def abinI (op : BinOp) (k k' : IntKind) (a b : Int) (K : AV → Prop) : Prop :=
  match op with
  | .shl => 0 ≤ b ∧ K (.val (.int k (k.wrap (a * 2 ^ min b.toNat k.bits))))
  | .shr => 0 ≤ b ∧ K (.val (.int k (a.fdiv (2 ^ min b.toNat k.bits))))
  | .add => bif kEq k k' then K (.val (.int k (k.wrap (a + b)))) else False
  | .sub => bif kEq k k' then K (.val (.int k (k.wrap (a - b)))) else False
  | .mul => bif kEq k k' then K (.val (.int k (k.wrap (a * b)))) else False
  | .quo => bif kEq k k' then b ≠ 0 ∧ K (.val (.int k (k.wrap (a.tdiv b)))) else False
  | .rem => bif kEq k k' then b ≠ 0 ∧ K (.val (.int k (a.tmod b))) else False
  | .and => bif kEq k k' then K (.val (.int k (ibit .and k a b))) else False
  | .or => bif kEq k k' then K (.val (.int k (ibit .or k a b))) else False
  | .xor => bif kEq k k' then K (.val (.int k (ibit .xor k a b))) else False
  | .andNot => bif kEq k k' then K (.val (.int k (ibit .andNot k a b))) else False
  | .eql => bif kEq k k' then K (.val (.bool (decide (a = b)))) else False
  | .neq => bif kEq k k' then K (.val (.bool (decide (a ≠ b)))) else False
  | .lss => bif kEq k k' then K (.val (.bool (decide (a < b)))) else False
  | .leq => bif kEq k k' then K (.val (.bool (decide (a ≤ b)))) else False
  | .gtr => bif kEq k k' then K (.val (.bool (decide (b < a)))) else False
  | .geq => bif kEq k k' then K (.val (.bool (decide (b ≤ a)))) else False

def abinF (op : BinOp) (k k' : FloatKind) (a b : Nat) (K : AV → Prop) : Prop :=
  bif fkEq k k' then
  match op with
  | .add => K (.flt k (fadd k a b))
  | .sub => K (.flt k (fsub k a b))
  | .mul => K (.flt k (fmul k a b))
  | .quo => K (.flt k (fdiv k a b))
  | .eql => K (.val (.bool (feq k a b)))
  | .neq => K (.val (.bool (!feq k a b)))
  | .lss => K (.val (.bool (flt k a b)))
  | .leq => K (.val (.bool (flt k a b || feq k a b)))
  | .gtr => K (.val (.bool (fgt k a b)))
  | .geq => K (.val (.bool (fgt k a b || feq k a b)))
  | _ => False
  else False

def abinS (op : BinOp) (a b : ByteArray) (K : AV → Prop) : Prop :=
  match op with
  | .add => a.size + b.size ≤ 9223372036854775807 ∧ K (.val (.string (a ++ b)))
  | .eql => K (.val (.bool (decide (a = b))))
  | .neq => K (.val (.bool (!decide (a = b))))
  | _ => False

def abin (op : BinOp) (x y : AV) (K : AV → Prop) : Prop :=
  match x, y with
  | .val (.int k a), .val (.int k' b) => abinI op k k' a b K
  | .flt k a, .flt k' b => abinF op k k' a b K
  | .val (.string a), .val (.string b) => abinS op a b K
  | _, _ => False

def aun (op : UnOp) (x : AV) (K : AV → Prop) : Prop :=
  match op, x with
  | .neg, .val (.int k n) => K (.val (.int k (k.wrap (0 - n))))
  | .neg, .flt k x => K (.flt k (fneg k x))
  | .neg, .cpx k x y => K (.cpx k (fneg k x) (fneg k y))
  | .not, .tt => K .ff
  | .not, .ff => K .tt
  | .not, .val (.bool b) => K (.val (.bool (!b)))
  | _, _ => False

section sound
variable {P : Program} {E : Env} {H : Heap} {K : AV → Prop}

theorem run_binop {ρ : Operand → Value} {op : BinOp} {T T' ty : TypeId} {x y : Operand} {d : Option Tmp} {pos : String} {af : Array Edge} {g : Option (Nat × Bool)} {w w' : World} {v : Value}
    (hg : (eqGuard op T x y (ρ x) (ρ y)).run P w = .ok () w) (h : (binOp op T (ρ x) (ρ y)).run P w = .ok v w') :
    (execOp ρ ⟨d, .binOp op T x y T', ty, pos, af, g⟩).run P w = .ok (.value v) w' := by
  simp only [execOp, Sem.run_bind, hg, Result.andThen_ok, h]
  rfl

theorem guard_int (op : BinOp) (T : TypeId) (x y : Operand) (k k' : IntKind) (a b : Int) (w : World) : (eqGuard op T x y (.int k a) (.int k' b)).run P w = .ok () w := by
  unfold eqGuard; cases op <;> rfl
theorem guard_flt (op : BinOp) (T : TypeId) (x y : Operand) (k k' : FloatKind) (a b : Nat) (w : World) : (eqGuard op T x y (.float k a) (.float k' b)).run P w = .ok () w := by
  unfold eqGuard; cases op <;> rfl
theorem guard_str (op : BinOp) (T : TypeId) (x y : Operand) (a b : ByteArray) (w : World) : (eqGuard op T x y (.string a) (.string b)).run P w = .ok () w := by
  unfold eqGuard; cases op <;> rfl

theorem abinI_run {op : BinOp} {T : TypeId} {k k' : IntKind} {a b : Int} (h : abinI op k k' a b K) :
    ∃ n, (K (.val n)) ∧ ∀ w : World, (binOp op T (.int k a) (.int k' b)).run P w = .ok n w := by
  have fin : ∀ {X : Prop}, (bif kEq k k' then X else False) → k = k' ∧ X := by
    intro X hX
    cases e : kEq k k'
    · rw [e] at hX; exact hX.elim
    · rw [e] at hX; exact ⟨kEq_eq e, hX⟩
  cases op <;> simp only [abinI] at h
  case shl => exact ⟨_, h.2, fun w => by have : ¬ b < 0 := by omega
                                         simp [binOp, Op.shift, this]⟩
  case shr => exact ⟨_, h.2, fun w => by have : ¬ b < 0 := by omega
                                         simp [binOp, Op.shift, this]⟩
  case quo => obtain ⟨rfl, hb, hK⟩ := fin h; exact ⟨_, hK, fun w => by simp [binOp, Op.intDiv, hb]⟩
  case rem => obtain ⟨rfl, hb, hK⟩ := fin h; exact ⟨_, hK, fun w => by simp [binOp, Op.intDiv, hb]⟩
  all_goals (obtain ⟨rfl, hK⟩ := fin h; refine ⟨_, hK, fun w => ?_⟩)
  case add => simp [binOp, Op.intArith]
  case sub => simp [binOp, Op.intArith]
  case mul => simp [binOp, Op.intArith]
  case and => simp [binOp, Op.intBits, ibit]
  case or => simp [binOp, Op.intBits, ibit]
  case xor => simp [binOp, Op.intBits, ibit]
  case andNot => simp [binOp, Op.intBits, ibit]
  case eql => simp [binOp, Op.intCmp]; rfl
  case neq => simp [binOp, Op.intCmp, bne]; rfl
  case lss => simp [binOp, Op.intCmp]
  case leq => simp [binOp, Op.intCmp]
  case gtr => simp [binOp, Op.intCmp]
  case geq => simp [binOp, Op.intCmp]

theorem abin_sound {op : BinOp} {T T' ty : TypeId} {x y : Operand} {d : Option Tmp} {pos : String} {af : Array Edge} {g : Option (Nat × Bool)}
    (h : abin op (avOf E x) (avOf E y) K) : ∃ av, K av ∧ OkOp P E H ⟨d, .binOp op T x y T', ty, pos, af, g⟩ av := by
  unfold abin at h
  split at h
  · rename_i k a k' b e1 e2
    obtain ⟨n, hK, hrun⟩ := abinI_run (P := P) (T := T) h
    refine ⟨_, hK, OkOp.same fun w0 w φ act hs hx => ⟨n, ?_, by simp only [Rel]⟩⟩
    have hx1 := hx x (by simp [Op.operands]); have hy1 := hx y (by simp [Op.operands])
    rw [e1] at hx1; rw [e2] at hy1; simp only [Rel] at hx1 hy1
    exact run_binop (by rw [hx1, hy1]; exact guard_int ..) (by rw [hx1, hy1]; exact hrun w)
  · rename_i k a k' b e1 e2
    unfold abinF at h
    have hop : ∀ {w0 : Base} {w : World} {φ : Nat → Value} {act : Act}, (∀ z, z ∈ (Op.binOp op T x y T').operands → Rel w (Fr φ H) (Gr w0 φ H) φ H (avOf E z) (act.eval z)) →
        ∃ a' b', act.eval x = .float k a' ∧ act.eval y = .float k' b' ∧ FV k a' a ∧ FV k' b' b := by
      intro w0 w φ act hx
      have hx1 := hx x (by simp [Op.operands]); have hy1 := hx y (by simp [Op.operands])
      rw [e1] at hx1; rw [e2] at hy1; simp only [Rel] at hx1 hy1
      obtain ⟨a', h1, h2⟩ := hx1
      obtain ⟨b', h3, h4⟩ := hy1
      exact ⟨a', b', h1, h3, h2, h4⟩
    cases ek : fkEq k k'
    · rw [ek] at h; exact h.elim
    · rw [ek] at h
      obtain rfl := fkEq_eq ek
      cases op <;> simp only [cond_true] at h
      case add =>
        refine ⟨_, h, OkOp.drawn fun w0 w φ act hs hx => ?_⟩
        obtain ⟨a', b', h1, h2, h3, h4⟩ := hop hx
        obtain ⟨v, w', hr, hf⟩ := run_fadd (P := P) (w := w) T h3 h4
        exact ⟨v, w', run_binop (by rw [h1, h2]; exact guard_flt ..) (by rw [h1, h2]; exact hr), hf⟩
      case sub =>
        refine ⟨_, h, OkOp.drawn fun w0 w φ act hs hx => ?_⟩
        obtain ⟨a', b', h1, h2, h3, h4⟩ := hop hx
        obtain ⟨v, w', hr, hf⟩ := run_fsub (P := P) (w := w) T h3 h4
        exact ⟨v, w', run_binop (by rw [h1, h2]; exact guard_flt ..) (by rw [h1, h2]; exact hr), hf⟩
      case mul =>
        refine ⟨_, h, OkOp.drawn fun w0 w φ act hs hx => ?_⟩
        obtain ⟨a', b', h1, h2, h3, h4⟩ := hop hx
        obtain ⟨v, w', hr, hf⟩ := run_fmul (P := P) (w := w) T h3 h4
        exact ⟨v, w', run_binop (by rw [h1, h2]; exact guard_flt ..) (by rw [h1, h2]; exact hr), hf⟩
      case quo =>
        refine ⟨_, h, OkOp.drawn fun w0 w φ act hs hx => ?_⟩
        obtain ⟨a', b', h1, h2, h3, h4⟩ := hop hx
        obtain ⟨v, w', hr, hf⟩ := run_fdiv (P := P) (w := w) T h3 h4
        exact ⟨v, w', run_binop (by rw [h1, h2]; exact guard_flt ..) (by rw [h1, h2]; exact hr), hf⟩
      all_goals first | exact h.elim | skip
      all_goals
        refine ⟨_, h, OkOp.same fun w0 w φ act hs hx => ?_⟩
        obtain ⟨a', b', h1, h2, h3, h4⟩ := hop hx
        refine ⟨_, run_binop (by rw [h1, h2]; exact guard_flt ..) (by rw [h1, h2]; simp only [binOp_float_cmp_eql, binOp_float_cmp_neq, binOp_float_cmp_lss, binOp_float_cmp_leq, binOp_float_cmp_gtr, binOp_float_cmp_geq, Sem.run_pure]; rfl), ?_⟩
        simp only [Rel, order_same h3 h4]
        rfl
  · rename_i a b e1 e2
    have hop : ∀ {w0 : Base} {w : World} {φ : Nat → Value} {act : Act}, (∀ z, z ∈ (Op.binOp op T x y T').operands → Rel w (Fr φ H) (Gr w0 φ H) φ H (avOf E z) (act.eval z)) →
        act.eval x = .string a ∧ act.eval y = .string b := by
      intro w0 w φ act hx
      have hx1 := hx x (by simp [Op.operands]); have hy1 := hx y (by simp [Op.operands])
      rw [e1] at hx1; rw [e2] at hy1; simp only [Rel] at hx1 hy1
      exact ⟨hx1, hy1⟩
    unfold abinS at h
    have heq : (a.toList == b.toList) = decide (a = b) := by
      rw [Bool.eq_iff_iff]; simp only [beq_iff_eq, decide_eq_true_eq]
      exact ⟨fun h => by
        have h' : a.data.toList = b.data.toList := by rw [ByteArray.toList_eq, ByteArray.toList_eq] at h; exact h
        cases a; cases b; simp_all, fun h => by rw [h]⟩
    cases op <;> simp only at h <;> first | exact h.elim | skip
    · refine ⟨_, h.2, OkOp.same fun w0 w φ act hs hx => ⟨_, run_binop (by rw [(hop hx).1, (hop hx).2]; exact guard_str ..) (by rw [(hop hx).1, (hop hx).2]; simp only [binOp]; exact run_string_add_sum w a b h.1), by simp only [Rel]⟩⟩
    · refine ⟨_, h, OkOp.same fun w0 w φ act hs hx => ⟨_, run_binop (by rw [(hop hx).1, (hop hx).2]; exact guard_str ..) (by rw [(hop hx).1, (hop hx).2]; simp only [binOp, Op.stringOp, Sem.run_pure]; rfl), by simp only [Rel, heq]⟩⟩
    · refine ⟨_, h, OkOp.same fun w0 w φ act hs hx => ⟨_, run_binop (by rw [(hop hx).1, (hop hx).2]; exact guard_str ..) (by rw [(hop hx).1, (hop hx).2]; simp only [binOp, Op.stringOp, Sem.run_pure]; rfl), by simp only [Rel, heq]⟩⟩
  · exact h.elim

theorem aun_sound {op : UnOp} {T ty : TypeId} {x : Operand} {d : Option Tmp} {pos : String} {af : Array Edge} {g : Option (Nat × Bool)}
    (h : aun op (avOf E x) K) : ∃ av, K av ∧ OkOp P E H ⟨d, .unOp op T x, ty, pos, af, g⟩ av := by
  have hop : ∀ {w0 : Base} {w : World} {φ : Nat → Value} {act : Act}, (∀ z, z ∈ (Op.unOp op T x).operands → Rel w (Fr φ H) (Gr w0 φ H) φ H (avOf E z) (act.eval z)) →
      Rel w (Fr φ H) (Gr w0 φ H) φ H (avOf E x) (act.eval x) := fun hx => hx x (by simp [Op.operands])
  unfold aun at h
  split at h
  · rename_i k n e
    refine ⟨_, h, OkOp.same fun w0 w φ act hs hx => ⟨_, by have := hop hx; rw [e] at this; simp only [Rel] at this; simp only [execOp, this, Op.unary, Op.intArith]; rfl, by simp only [Rel]⟩⟩
  · rename_i k x' e
    refine ⟨_, h, OkOp.same fun w0 w φ act hs hx => ?_⟩
    have := hop hx; rw [e] at this; simp only [Rel] at this
    obtain ⟨b, hb, hf⟩ := this
    exact ⟨_, by simp only [execOp, hb, Op.unary]; rfl, by simp only [Rel]; exact ⟨_, rfl, hf.neg⟩⟩
  · rename_i k x' y' e
    refine ⟨_, h, OkOp.same fun w0 w φ act hs hx => ?_⟩
    have := hop hx; rw [e] at this; simp only [Rel] at this
    obtain ⟨a, b, hb, hf, hf'⟩ := this
    exact ⟨_, by simp only [execOp, hb, Op.unary]; rfl, by simp only [Rel]; exact ⟨_, _, rfl, hf.neg, hf'.neg⟩⟩
  · rename_i e
    refine ⟨_, h, OkOp.same fun w0 w φ act hs hx => ⟨_, by have := hop hx; rw [e] at this; simp only [Rel] at this; simp only [execOp, this, Op.unary]; rfl, by simp only [Rel]; rfl⟩⟩
  · rename_i e
    refine ⟨_, h, OkOp.same fun w0 w φ act hs hx => ⟨_, by have := hop hx; rw [e] at this; simp only [Rel] at this; simp only [execOp, this, Op.unary]; rfl, by simp only [Rel]; rfl⟩⟩
  · rename_i b e
    refine ⟨_, h, OkOp.same fun w0 w φ act hs hx => ⟨_, by have := hop hx; rw [e] at this; simp only [Rel] at this; simp only [execOp, this, Op.unary]; rfl, by simp only [Rel]⟩⟩
  · exact h.elim
end sound
end Go.V

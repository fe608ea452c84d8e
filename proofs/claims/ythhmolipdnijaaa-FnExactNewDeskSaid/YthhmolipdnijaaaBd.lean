/- Desks that are valid: rivers. -/
import Derived.Test.YthhmolipdnijaaaBc
set_option linter.unusedVariables false
set_option linter.unusedSimpArgs false
set_option linter.unnecessarySimpa false
open Go Go.V Go.Proofs
namespace Go.R
set_option maxRecDepth 100000
set_option linter.unusedSimpArgs false

def inB (n lo hi : Int) : Bool := decide (lo ≤ n) && decide (n ≤ hi)
def sideB (w h : Int) : Bool := inB w 1 16 && inB h 1 16
def finB (x : Nat) : Bool := finF (fcvt .f32 .f64 x)
theorem massF_eq (x : Nat) : massF x = (finB x && (fgt .f32 x 0 || feq .f32 x 0)) := rfl
def lenF (x : Nat) : Bool := finB x && fgt .f32 x 0
def unitB (n : Int) : Bool := inB n 0 1000000000
def damB (d : Dam) : Bool := unitB d.1 && (inB d.2.1 0 d.1 && (unitB d.2.2.1 && inB d.2.2.2 0 d.1))
def hillB (h : Hill) : Bool := sideB h.1 h.2.1 && (decide ((h.2.2.length : Int) = IntKind.i64.wrap (h.1 * h.2.1)) && h.2.2.all finB)
def soilB (s : Soil) : Bool := massF s.1 && (massF s.2.1 && (massF s.2.2.1 && (massF s.2.2.2.1 && ((fgt .f32 s.2.2.2.2 0 || feq .f32 s.2.2.2.2 0) && (flt .f32 s.2.2.2.2 s.2.2.1 || feq .f32 s.2.2.2.2 s.2.2.1)))))
def sectB (s : Sect) : Bool := massF s.1 && (massF s.2.1 && ((fgt .f32 s.1 0 || fgt .f32 s.2.1 0) && (lenF s.2.2.1 && lenF s.2.2.2)))

theorem c_l00In (n lo hi : Int) : Con Try.prog 181 [.val (.int .i64 n), .val (.int .i64 lo), .val (.int .i64 hi)] (bv (inB n lo hi)) [] := by
  refine con_of tabOK mixed ⟨15, [0,1,2,3,4,5,6,7,8,9,10,11,12,13,14], [], []⟩ rfl (by decide) rfl rfl rfl rfl ?_
  repeat' (conv => whnf
           first
           | exact out0 rfl (show _ = _ by simp only [inB, *, Bool.true_and, Bool.false_and, Bool.and_true, Bool.and_false, Bool.true_or, Bool.false_or, Bool.or_true, Bool.or_false, Bool.not_true, Bool.not_false, Bool.and_self, Bool.or_self])
           | refine ⟨fun _ => ?_, fun _ => ?_⟩
           
           | refine ⟨by decide +kernel, ?_⟩)


theorem c_withinB (n lo hi : Int) : Con Try.prog 94 [.val (.int .i64 n), .val (.int .i64 lo), .val (.int .i64 hi)] (bv (inB n lo hi)) [] := c_within n lo hi
theorem c_l01FiniteB (x : Nat) : Con Try.prog 200 [fv x] (bv (finB x)) [] := by
  refine con_of tabOK mixed ⟨7, [0,1,2,3,4,5,6], [], []⟩ rfl (by decide) rfl rfl rfl rfl ?_
  conv => whnf
  exact out0 rfl (show _ = _ by rw [finB, ← fin_eq])
theorem c_IsFiniteB (x : Nat) : Con Try.prog 172 [fv x] (bv (finB x)) [] := c_IsFinite x

theorem c_l06Unit (n : Int) : Con Try.prog 183 [iv n] (bv (unitB n)) [] := by
  refine con_of tabOK mixed ⟨5, [0,1,2,3,4], [], []⟩ rfl (by decide) rfl rfl rfl rfl ?_
  repeat' (conv => whnf
           first
           | exact out0 rfl (show _ = _ by rfl)
           | refine ⟨fun _ => ?_, fun _ => ?_⟩
           | refine .inl ⟨_, _, c_l00In _ _ _, rfl, ?_⟩
           | refine ⟨by decide +kernel, ?_⟩)


theorem c_l02Sides (w h : Int) : Con Try.prog 177 [iv w, iv h] (bv (sideB w h)) [] := by
  refine con_of tabOK mixed ⟨11, [0,1,2,3,4,5,6,7,8,9,10], [], []⟩ rfl (by decide) rfl rfl rfl rfl ?_
  repeat' (conv => whnf
           first
           | exact out0 rfl (show _ = _ by simp only [sideB, *, Bool.true_and, Bool.false_and, Bool.and_true, Bool.and_false, Bool.true_or, Bool.false_or, Bool.or_true, Bool.or_false, Bool.not_true, Bool.not_false, Bool.and_self, Bool.or_self])
           | refine ⟨fun _ => ?_, fun _ => ?_⟩
           | refine .inl ⟨_, _, c_l00In _ _ _, rfl, ?_⟩
           | refine ⟨by decide +kernel, ?_⟩)


theorem c_isSide (w h : Int) : Con Try.prog 119 [iv w, iv h] (bv (sideB w h)) [] := by
  refine con_of tabOK mixed ⟨11, [0,1,2,3,4,5,6,7,8,9,10], [], []⟩ rfl (by decide) rfl rfl rfl rfl ?_
  repeat' (conv => whnf
           first
           | exact out0 rfl (show _ = _ by simp only [sideB, *, Bool.true_and, Bool.false_and, Bool.and_true, Bool.and_false, Bool.true_or, Bool.false_or, Bool.or_true, Bool.or_false, Bool.not_true, Bool.not_false, Bool.and_self, Bool.or_self])
           | refine ⟨fun _ => ?_, fun _ => ?_⟩
           | refine .inl ⟨_, _, c_withinB _ _ _, rfl, ?_⟩
           | refine ⟨by decide +kernel, ?_⟩)


theorem c_l02Least (x : Nat) : Con Try.prog 179 [fv x] (bv (massF x)) [] := by
  refine con_of tabOK mixed ⟨9, [0,1,2,3,4,5,6,7,8], [], []⟩ rfl (by decide) rfl rfl rfl rfl ?_
  repeat' (conv => whnf
           first
           | exact out0 rfl (show _ = _ by simp only [massF_eq, *, Bool.true_and, Bool.false_and, Bool.and_true, Bool.and_false, Bool.true_or, Bool.false_or, Bool.or_true, Bool.or_false, Bool.not_true, Bool.not_false, Bool.and_self, Bool.or_self])
           | refine ⟨fun _ => ?_, fun _ => ?_⟩
           | refine .inl ⟨_, _, c_l01FiniteB _, rfl, ?_⟩
           | refine ⟨by decide +kernel, ?_⟩)


theorem c_l02Above (x : Nat) : Con Try.prog 180 [fv x] (bv (lenF x)) [] := by
  refine con_of tabOK mixed ⟨9, [0,1,2,3,4,5,6,7,8], [], []⟩ rfl (by decide) rfl rfl rfl rfl ?_
  repeat' (conv => whnf
           first
           | exact out0 rfl (show _ = _ by simp only [lenF, *, Bool.true_and, Bool.false_and, Bool.and_true, Bool.and_false, Bool.true_or, Bool.false_or, Bool.or_true, Bool.or_false, Bool.not_true, Bool.not_false, Bool.and_self, Bool.or_self])
           | refine ⟨fun _ => ?_, fun _ => ?_⟩
           | refine .inl ⟨_, _, c_l01FiniteB _, rfl, ?_⟩
           | refine ⟨by decide +kernel, ?_⟩)


theorem c_aLength (x : Nat) : Con Try.prog 186 [fv x] (bv (lenF x)) [] := by
  refine con_of tabOK mixed ⟨9, [0,1,2,3,4,5,6,7,8], [], []⟩ rfl (by decide) rfl rfl rfl rfl ?_
  repeat' (conv => whnf
           first
           | exact out0 rfl (show _ = _ by simp only [lenF, *, Bool.true_and, Bool.false_and, Bool.and_true, Bool.and_false, Bool.true_or, Bool.false_or, Bool.or_true, Bool.or_false, Bool.not_true, Bool.not_false, Bool.and_self, Bool.or_self])
           | refine ⟨fun _ => ?_, fun _ => ?_⟩
           | refine .inl ⟨_, _, c_IsFiniteB _, rfl, ?_⟩
           | refine ⟨by decide +kernel, ?_⟩)


theorem c_areFinite1 (x : Nat) : Con Try.prog 171 [fv x] (bv (!finB x)) [] := by
  refine con_of tabOK mixed ⟨6, [0,1,2,3,4,5], [], []⟩ rfl (by decide) rfl rfl rfl rfl ?_
  repeat' (conv => whnf
           first
           | exact out0 rfl (show _ = _ by rfl)
           | refine ⟨fun _ => ?_, fun _ => ?_⟩
           | refine .inl ⟨_, _, c_IsFiniteB _, rfl, ?_⟩
           | refine ⟨by decide +kernel, ?_⟩)


theorem c_areFinite (l : List Nat) (hl : l.length ≤ maxLen) : Con Try.prog 120 [.sl false f3 l] (bv (l.all finB)) [] := by
  refine con_of tabOK mixed ⟨6, [0,1,2,3,4,5], [], []⟩ rfl (by decide) rfl rfl rfl rfl ?_
  conv => whnf
  refine .inl ⟨_, _, c_ContainsFunc _ _ c_areFinite1 l hl, rfl, ?_⟩
  conv => whnf
  exact out0 rfl (show _ = _ by rw [List.not_any_eq_all_not]; simp)

theorem all_bad {α : Type} {p : α → Bool} {l : List α} {i : Nat} (hlt : i < l.length) (h : p l[i] = false) : l.all p = false := by
  rw [List.all_eq_false]
  exact ⟨_, List.getElem_mem hlt, by rw [h]; exact Bool.false_ne_true⟩
theorem all_more {α : Type} {p : α → Bool} {l : List α} {i : Nat} (hlt : i < l.length) (hk : (l.take i).all p = true) (h : p l[i] = true) : (l.take (i + 1)).all p = true := by
  rw [List.take_succ_eq_append_getElem hlt, List.all_append, hk]
  simp [h]
theorem all_done {α : Type} {p : α → Bool} {l : List α} {i : Nat} (hi : i ≤ l.length) (hlt : l.length ≤ i) (hk : (l.take i).all p = true) : l.all p = true := by
  rwa [List.take_of_length_le hlt] at hk

theorem c_l02Finite (l : List Nat) (hl : l.length ≤ maxLen) : Con Try.prog 178 [.sl false f3 l] (bv (l.all finB)) [] := by
  refine con_of tabOK mixed ⟨16, [0,1,2,3,4,5,6,7,8,9,10,11,12,13,14,15], [], []⟩ rfl (by decide) rfl rfl rfl rfl ?_
  conv => whnf
  refine ⟨Nat, fun i => [(0, .sl false f3 l), (3, iv i)], fun _ => [], fun i => i ≤ l.length ∧ (l.take i).all finB = true, fun i => l.length - i, 0, ?_, ⟨Nat.zero_le _, rfl⟩, fun i hi => ?_⟩
  · exact weak0 ⟨⟨trivial, rfl⟩, rfl, trivial⟩
  obtain ⟨hi, hk⟩ := hi
  conv => whnf
  refine ⟨fun h => ?_, fun h => ?_⟩
  · have hlt : i < l.length := lt_of_dec h
    conv => whnf
    refine idx hlt ?_
    conv => whnf
    refine .inl ⟨_, _, c_l01FiniteB _, rfl, ?_⟩
    conv => whnf
    refine ⟨fun h => ?_, fun h => ?_⟩
    · conv => whnf
      exact out0 rfl (show _ = _ by rw [all_bad hlt (nt h)])
    · conv => whnf
      refine ⟨i + 1, weak0 ⟨⟨trivial, rfl⟩, ?_, trivial⟩, ⟨hlt, all_more hlt hk (nf h)⟩, ?_⟩
      · show _ = _
        rw [wrap_succ hlt hl]
      · show l.length - (i + 1) < l.length - i
        omega
  · conv => whnf
    exact out0 rfl (show _ = _ by rw [all_done hi (ge_of_dec h) hk])

theorem c_areLengths (l : List Nat) (hl : l.length ≤ maxLen) : Con Try.prog 147 [.sl false f3 l] (bv (l.all lenF)) [] := by
  refine con_of tabOK mixed ⟨15, [0,1,2,3,4,5,6,7,8,9,10,11,12,13,14], [], []⟩ rfl (by decide) rfl rfl rfl rfl ?_
  conv => whnf
  refine ⟨Nat, fun i => [(5, .sl false f3 l), (6, iv l.length), (7, iv i)], fun _ => [], fun i => i ≤ l.length ∧ (l.take i).all lenF = true, fun i => l.length - i, 0, ?_, ⟨Nat.zero_le _, rfl⟩, fun i hi => ?_⟩
  · exact weak0 ⟨⟨trivial, rfl⟩, rfl, rfl, trivial⟩
  obtain ⟨hi, hk⟩ := hi
  conv => whnf
  refine ⟨fun h => ?_, fun h => ?_⟩
  · have hlt : i < l.length := lt_of_dec h
    conv => whnf
    refine idx hlt ?_
    conv => whnf
    refine .inl ⟨_, _, c_aLength _, rfl, ?_⟩
    conv => whnf
    refine ⟨fun h => ?_, fun h => ?_⟩
    · conv => whnf
      exact out0 rfl (show _ = _ by rw [all_bad hlt (nt h)])
    · conv => whnf
      refine ⟨i + 1, weak0 ⟨⟨trivial, rfl⟩, rfl, ?_, trivial⟩, ⟨hlt, all_more hlt hk (nf h)⟩, ?_⟩
      · show _ = _
        rw [wrap_succ hlt hl]
      · show l.length - (i + 1) < l.length - i
        omega
  · conv => whnf
    exact out0 rfl (show _ = _ by rw [all_done hi (ge_of_dec h) hk])

theorem c_l02Is (h : Hill) (ra : List AV) (hl : h.2.2.length ≤ maxLen) : Con Try.prog 142 [.ptrR (hillC h ++ ra)] (bv (hillB h)) [] := by
  refine con_of tabOK mixed ⟨36, [0,1,2,3,4,5,6,7,8,9,10,11,12,13,14,15,16,17,18,19,20,21,22,23,24,25,26,27,28,29,30,31,32,33,34,35], [], []⟩ rfl (by decide) rfl rfl rfl rfl ?_
  repeat' (conv => whnf
           first
           | exact out0 rfl (show _ = _ by simp only [hillB, *, Bool.true_and, Bool.false_and, Bool.and_true, Bool.and_false, Bool.true_or, Bool.false_or, Bool.or_true, Bool.or_false, Bool.not_true, Bool.not_false, Bool.and_self, Bool.or_self])
           | refine ⟨fun _ => ?_, fun _ => ?_⟩
           | refine ⟨_, c_l02Sides _ _, ?_⟩
           | refine ⟨_, c_l02Finite _ hl, ?_⟩
           | refine ⟨by decide +kernel, ?_⟩)


theorem c_ValidHill (h : Hill) (hl : h.2.2.length ≤ maxLen) : Con Try.prog 79 [.agg (hillC h)] (bv (hillB h)) [] := by
  refine con_of tabOK mixed ⟨24, [0,1,2,3,4,5,6,7,8,9,10,11,12,13,14,15,16,17,18,19,20,21,22,23], [], []⟩ rfl (by decide) rfl rfl rfl rfl ?_
  repeat' (conv => whnf
           first
           | exact out0 rfl (show _ = _ by simp only [hillB, *, Bool.true_and, Bool.false_and, Bool.and_true, Bool.and_false, Bool.true_or, Bool.false_or, Bool.or_true, Bool.or_false, Bool.not_true, Bool.not_false, Bool.and_self, Bool.or_self])
           | refine ⟨fun _ => ?_, fun _ => ?_⟩
           | refine .inl ⟨_, _, c_isSide _ _, rfl, ?_⟩
           | refine .inl ⟨_, _, c_areFinite _ hl, rfl, ?_⟩
           | refine ⟨by decide +kernel, ?_⟩)


theorem c_l03Soil (s : Soil) (ra : List AV) : Con Try.prog 143 [.ptrR (soilC s ++ ra)] (bv (soilB s)) [] := by
  refine con_of tabOK mixed ⟨47, [0,1,2,3,4,5,6,7,8,9,10,11,12,13,14,15,16,17,18,19,20,21,22,23,24,25,26,27,28,29,30,31,32,33,34,35,36,37,38,39,40,41,42,43,44,45,46], [], []⟩ rfl (by decide) rfl rfl rfl rfl ?_
  repeat' (conv => whnf
           first
           | exact out0 rfl (show _ = _ by simp only [soilB, *, Bool.true_and, Bool.false_and, Bool.and_true, Bool.and_false, Bool.true_or, Bool.false_or, Bool.or_true, Bool.or_false, Bool.not_true, Bool.not_false, Bool.and_self, Bool.or_self])
           | refine ⟨fun _ => ?_, fun _ => ?_⟩
           | refine ⟨_, c_l02Least _, ?_⟩
           | refine ⟨by decide +kernel, ?_⟩)


theorem c_ValidSoil (s : Soil) : Con Try.prog 80 [.agg (soilC s)] (bv (soilB s)) [] := by
  refine con_of tabOK mixed ⟨25, [0,1,2,3,4,5,6,7,8,9,10,11,12,13,14,15,16,17,18,19,20,21,22,23,24], [], []⟩ rfl (by decide) rfl rfl rfl rfl ?_
  repeat' (conv => whnf
           first
           | exact out0 rfl (show _ = _ by (try simp only [List.all_cons, List.all_nil, Bool.and_true, ← Bool.and_assoc] at *); (try simp only [soilB, ← Bool.and_assoc]); simp only [*, Bool.true_and, Bool.false_and, Bool.and_true, Bool.and_false, Bool.true_or, Bool.false_or, Bool.or_true, Bool.or_false, Bool.not_true, Bool.not_false, Bool.and_self, Bool.or_self])
           | refine ⟨fun _ => ?_, fun _ => ?_⟩
           | refine .inl ⟨_, _, c_areMasses [s.1, s.2.1, s.2.2.1, s.2.2.2.1] (by simp [maxLen]), rfl, ?_⟩
           | refine ⟨by decide +kernel, ?_⟩)


theorem c_l04Is (s : Sect) (ra : List AV) : Con Try.prog 144 [.ptrR (sectC s ++ ra)] (bv (sectB s)) [] := by
  refine con_of tabOK mixed ⟨43, [0,1,2,3,4,5,6,7,8,9,10,11,12,13,14,15,16,17,18,19,20,21,22,23,24,25,26,27,28,29,30,31,32,33,34,35,36,37,38,39,40,41,42], [], []⟩ rfl (by decide) rfl rfl rfl rfl ?_
  repeat' (conv => whnf
           first
           | exact out0 rfl (show _ = _ by simp only [sectB, *, Bool.true_and, Bool.false_and, Bool.and_true, Bool.and_false, Bool.true_or, Bool.false_or, Bool.or_true, Bool.or_false, Bool.not_true, Bool.not_false, Bool.and_self, Bool.or_self])
           | refine ⟨fun _ => ?_, fun _ => ?_⟩
           | refine .inl ⟨_, _, c_l02Least _, rfl, ?_⟩
           | refine .inl ⟨_, _, c_l02Above _, rfl, ?_⟩
           | refine ⟨by decide +kernel, ?_⟩)


theorem c_ValidSection (s : Sect) : Con Try.prog 81 [.agg (sectC s)] (bv (sectB s)) [] := by
  refine con_of tabOK mixed ⟨27, [0,1,2,3,4,5,6,7,8,9,10,11,12,13,14,15,16,17,18,19,20,21,22,23,24,25,26], [], []⟩ rfl (by decide) rfl rfl rfl rfl ?_
  repeat' (conv => whnf
           first
           | exact out0 rfl (show _ = _ by (try simp only [List.all_cons, List.all_nil, Bool.and_true, ← Bool.and_assoc] at *); (try simp only [sectB, ← Bool.and_assoc]); simp only [*, Bool.true_and, Bool.false_and, Bool.and_true, Bool.and_false, Bool.true_or, Bool.false_or, Bool.or_true, Bool.or_false, Bool.not_true, Bool.not_false, Bool.and_self, Bool.or_self])
           | refine ⟨fun _ => ?_, fun _ => ?_⟩
           | refine .inl ⟨_, _, c_areMasses [s.1, s.2.1] (by simp [maxLen]), rfl, ?_⟩
           | refine .inl ⟨_, _, c_areLengths [s.2.2.1, s.2.2.2] (by simp [maxLen]), rfl, ?_⟩
           | refine ⟨by decide +kernel, ?_⟩)


theorem c_l06Dam (d : Dam) : Con Try.prog 182 [.ptrR (damC d)] (bv (damB d)) [] := by
  refine con_of tabOK mixed ⟨37, [0,1,2,3,4,5,6,7,8,9,10,11,12,13,14,15,16,17,18,19,20,21,22,23,24,25,26,27,28,29,30,31,32,33,34,35,36], [], []⟩ rfl (by decide) rfl rfl rfl rfl ?_
  repeat' (conv => whnf
           first
           | exact out0 rfl (show _ = _ by simp only [damB, *, Bool.true_and, Bool.false_and, Bool.and_true, Bool.and_false, Bool.true_or, Bool.false_or, Bool.or_true, Bool.or_false, Bool.not_true, Bool.not_false, Bool.and_self, Bool.or_self])
           | refine ⟨fun _ => ?_, fun _ => ?_⟩
           | refine ⟨_, c_l06Unit _, ?_⟩
           | refine ⟨_, c_l00In _ _ _, ?_⟩
           | refine ⟨by decide +kernel, ?_⟩)


end Go.R

open Go Go.V Go.Proofs
namespace Go.R
set_option maxRecDepth 100000
set_option linter.unusedSimpArgs false

def idxG {α : Type} (p : α → Bool) (l : List α) : Int := match l.findIdx? p with
  | some i => i
  | none => -1
theorem findIdx_atG {α : Type} {p : α → Bool} {l : List α} {i : Nat} (hi : i < l.length) (hb : ∀ x ∈ l.take i, p x = false) (hp : p l[i] = true) : l.findIdx? p = some i := by
  rw [List.findIdx?_eq_some_iff_getElem]
  refine ⟨hi, hp, fun j hj => ?_⟩
  have : l[j] ∈ l.take i := by
    rw [List.mem_take_iff_getElem]
    exact ⟨j, by omega, rfl⟩
  simp [hb _ this]
theorem idxG_any {α : Type} (p : α → Bool) (l : List α) : decide (0 ≤ idxG p l) = l.any p := by
  unfold idxG
  cases h : l.findIdx? p with
  | none =>
    rw [List.findIdx?_eq_none_iff] at h
    have : l.any p = false := by
      rw [List.any_eq_false]
      intro x hx; rw [h x hx]; exact Bool.false_ne_true
    rw [this]; rfl
  | some i =>
    rw [List.findIdx?_eq_some_iff_getElem] at h
    obtain ⟨h1, h2, _⟩ := h
    have : l.any p = true := List.any_eq_true.2 ⟨_, List.getElem_mem h1, h2⟩
    rw [this]
    exact decide_eq_true (Int.natCast_nonneg i)
theorem idxZ' {α : Type} {l : List α} {z : Int} {K : α → Prop} (h0 : 0 ≤ z) (h1 : z.toNat < l.length) (hk : K l[z.toNat]) : ∃ e, (0 ≤ z ∧ l[z.toNat]? = some e) ∧ K e :=
  ⟨l[z.toNat], ⟨h0, by simp [h1]⟩, hk⟩

theorem c_IndexI (lo hi : Int) (p : Int → Bool) (g : FuncId) (hp : ∀ x : Int, Con Try.prog g (iv x :: [.ptrR [iv lo], .ptrR [iv hi]]) (bv (p x)) []) (l : List (STy.S (i6))) (hl : l.length ≤ maxLen) :
    Con Try.prog 201 [.sl false (i6) l, .fn g [.ptrR [iv lo], .ptrR [iv hi]]] (iv (idxG p l)) [] := by
  refine con_of tabOK mixed ⟨19, [0,1,4,5,7,8,9,16,18], [], []⟩ rfl (by decide) rfl rfl rfl rfl ?_
  conv => whnf
  refine ⟨Nat, fun i => [(0, .sl false (i6) l), (1, .fn g [.ptrR [iv lo], .ptrR [iv hi]]), (7, iv l.length), (8, iv i)], fun _ => [], fun i => i ≤ l.length ∧ ∀ x ∈ l.take i, p x = false, fun i => l.length - i, 0, ?_, ?_, fun i hi => ?_⟩
  · exact weak0 ⟨⟨trivial, rfl⟩, ⟨rfl, ⟨⟨rfl, rfl⟩, ⟨rfl, rfl⟩, rfl⟩⟩, rfl, rfl, trivial⟩
  · exact ⟨Nat.zero_le _, by simp⟩
  obtain ⟨hi, hk⟩ := hi
  conv => whnf
  refine ⟨fun h => ?_, fun h => ?_⟩
  · have hlt : i < l.length := lt_of_dec h
    conv => whnf
    refine idx hlt ?_
    conv => whnf
    refine .inl ⟨_, _, hp _, rfl, ?_⟩
    conv => whnf
    refine ⟨fun h => ?_, fun h => ?_⟩
    · conv => whnf
      refine out0 rfl (show _ = _ from ?_)
      rw [idxG, findIdx_atG hlt hk h]
    · conv => whnf
      refine ⟨i + 1, weak0 ⟨⟨trivial, rfl⟩, ⟨rfl, ⟨⟨rfl, rfl⟩, ⟨rfl, rfl⟩, rfl⟩⟩, rfl, ?_, trivial⟩, ⟨hlt, fun x hx => ?_⟩, ?_⟩
      · show _ = _
        rw [wrap_succ hlt hl]
      · rw [List.take_succ_eq_append_getElem hlt, List.mem_append, List.mem_singleton] at hx
        rcases hx with hx | rfl
        · exact hk x hx
        · exact h
      · show l.length - (i + 1) < l.length - i
        omega
  · have hlt : i = l.length := Nat.le_antisymm hi (ge_of_dec h)
    conv => whnf
    refine out0 rfl (show _ = _ from ?_)
    have : l.findIdx? p = none := by
      rw [List.findIdx?_eq_none_iff]
      intro x hx
      exact hk x (by rw [hlt, List.take_length]; exact hx)
    rw [idxG, this]

theorem c_ContainsI (lo hi : Int) (p : Int → Bool) (g : FuncId) (hp : ∀ x : Int, Con Try.prog g (iv x :: [.ptrR [iv lo], .ptrR [iv hi]]) (bv (p x)) []) (l : List (STy.S (i6))) (hl : l.length ≤ maxLen) :
    Con Try.prog 187 [.sl false (i6) l, .fn g [.ptrR [iv lo], .ptrR [iv hi]]] (bv (l.any p)) [] := by
  refine con_of tabOK mixed ⟨9, [0,1,2,3,4,5,6,7,8], [], []⟩ rfl (by decide) rfl rfl rfl rfl ?_
  conv => whnf
  refine .inl ⟨_, _, c_IndexI lo hi p g hp l hl, rfl, ?_⟩
  conv => whnf
  exact out0 rfl (show _ = _ by rw [idxG_any])

theorem c_IndexD (p : Dam → Bool) (g : FuncId) (hp : ∀ x : Dam, Con Try.prog g (.agg (damC x) :: []) (bv (p x)) []) (l : List (STy.S (damT))) (hl : l.length ≤ maxLen) :
    Con Try.prog 189 [.sl false (damT) l, .fn g []] (iv (idxG p l)) [] := by
  refine con_of tabOK mixed ⟨19, [0,1,4,5,7,8,9,16,18], [], []⟩ rfl (by decide) rfl rfl rfl rfl ?_
  conv => whnf
  refine ⟨Nat, fun i => [(0, .sl false (damT) l), (1, .fn g []), (7, iv l.length), (8, iv i)], fun _ => [], fun i => i ≤ l.length ∧ ∀ x ∈ l.take i, p x = false, fun i => l.length - i, 0, ?_, ?_, fun i hi => ?_⟩
  · exact weak0 ⟨⟨trivial, rfl⟩, ⟨rfl, rfl⟩, rfl, rfl, trivial⟩
  · exact ⟨Nat.zero_le _, by simp⟩
  obtain ⟨hi, hk⟩ := hi
  conv => whnf
  refine ⟨fun h => ?_, fun h => ?_⟩
  · have hlt : i < l.length := lt_of_dec h
    conv => whnf
    refine idx hlt ?_
    conv => whnf
    refine .inl ⟨_, _, hp _, rfl, ?_⟩
    conv => whnf
    refine ⟨fun h => ?_, fun h => ?_⟩
    · conv => whnf
      refine out0 rfl (show _ = _ from ?_)
      rw [idxG, findIdx_atG hlt hk h]
    · conv => whnf
      refine ⟨i + 1, weak0 ⟨⟨trivial, rfl⟩, ⟨rfl, rfl⟩, rfl, ?_, trivial⟩, ⟨hlt, fun x hx => ?_⟩, ?_⟩
      · show _ = _
        rw [wrap_succ hlt hl]
      · rw [List.take_succ_eq_append_getElem hlt, List.mem_append, List.mem_singleton] at hx
        rcases hx with hx | rfl
        · exact hk x hx
        · exact h
      · show l.length - (i + 1) < l.length - i
        omega
  · have hlt : i = l.length := Nat.le_antisymm hi (ge_of_dec h)
    conv => whnf
    refine out0 rfl (show _ = _ from ?_)
    have : l.findIdx? p = none := by
      rw [List.findIdx?_eq_none_iff]
      intro x hx
      exact hk x (by rw [hlt, List.take_length]; exact hx)
    rw [idxG, this]

theorem c_ContainsD (p : Dam → Bool) (g : FuncId) (hp : ∀ x : Dam, Con Try.prog g (.agg (damC x) :: []) (bv (p x)) []) (l : List (STy.S (damT))) (hl : l.length ≤ maxLen) :
    Con Try.prog 149 [.sl false (damT) l, .fn g []] (bv (l.any p)) [] := by
  refine con_of tabOK mixed ⟨9, [0,1,2,3,4,5,6,7,8], [], []⟩ rfl (by decide) rfl rfl rfl rfl ?_
  conv => whnf
  refine .inl ⟨_, _, c_IndexD p g hp l hl, rfl, ?_⟩
  conv => whnf
  exact out0 rfl (show _ = _ by rw [idxG_any])

theorem c_areWithin1 (lo hi n : Int) : Con Try.prog 188 [iv n, .ptrR [iv lo], .ptrR [iv hi]] (bv (!inB n lo hi)) [] := by
  refine con_of tabOK mixed ⟨10, [0,1,2,3,4,5,6,7,8,9], [], []⟩ rfl (by decide) rfl rfl rfl rfl ?_
  repeat' (conv => whnf
           first
           | exact out0 rfl (show _ = _ by rfl)
           | refine ⟨fun _ => ?_, fun _ => ?_⟩
           | refine .inl ⟨_, _, c_withinB _ _ _, rfl, ?_⟩
           | refine ⟨by decide +kernel, ?_⟩)


theorem c_areWithin (l : List Int) (lo hi : Int) (hl : l.length ≤ maxLen) : Con Try.prog 148 [.sl false i6 l, iv lo, iv hi] (bv (l.all fun n => inB n lo hi)) [] := by
  refine con_of tabOK mixed ⟨11, [0,1,2,3,4,5,6,7,8,9,10], [], []⟩ rfl (by decide) rfl rfl rfl rfl ?_
  conv => whnf
  refine .inl ⟨_, _, c_ContainsI lo hi _ _ (c_areWithin1 lo hi) l hl, rfl, ?_⟩
  conv => whnf
  exact out0 rfl (show _ = _ by rw [List.not_any_eq_all_not]; simp)

theorem dam_eq (d : Dam) : damB d = (([d.1, d.2.2.1].all fun n => inB n 0 1000000000) && ([d.2.1, d.2.2.2].all fun n => inB n 0 d.1)) := by
  simp only [damB, unitB, List.all_cons, List.all_nil, Bool.and_true]
  cases inB d.1 0 1000000000 <;> cases inB d.2.1 0 d.1 <;> simp
theorem c_isDam (d : Dam) : Con Try.prog 151 [.agg (damC d)] (bv (damB d)) [] := by
  refine con_of tabOK mixed ⟨19, [0,1,2,3,4,5,6,7,8,9,10,11,12,13,14,15,16,17,18], [], []⟩ rfl (by decide) rfl rfl rfl rfl ?_
  repeat' (conv => whnf
           first
           | exact out0 rfl (show _ = _ by rw [dam_eq]; simp only [*, Bool.true_and, Bool.false_and, Bool.and_true, Bool.and_false, Bool.true_or, Bool.false_or, Bool.or_true, Bool.or_false, Bool.not_true, Bool.not_false, Bool.and_self, Bool.or_self])
           | refine ⟨fun _ => ?_, fun _ => ?_⟩
           | refine .inl ⟨_, _, c_areWithin [d.1, d.2.2.1] _ _ (by simp [maxLen]), rfl, ?_⟩
           | refine .inl ⟨_, _, c_areWithin [d.2.1, d.2.2.2] _ _ (by simp [maxLen]), rfl, ?_⟩
           | refine ⟨by decide +kernel, ?_⟩)


theorem c_ValidRiver1 (d : Dam) : Con Try.prog 150 [.agg (damC d)] (bv (!damB d)) [] := by
  refine con_of tabOK mixed ⟨6, [0,1,2,3,4,5], [], []⟩ rfl (by decide) rfl rfl rfl rfl ?_
  repeat' (conv => whnf
           first
           | exact out0 rfl (show _ = _ by rfl)
           | refine ⟨fun _ => ?_, fun _ => ?_⟩
           | refine .inl ⟨_, _, c_isDam _, rfl, ?_⟩
           | refine ⟨by decide +kernel, ?_⟩)


end Go.R

/- Desks that are valid: rivers as wholes, desks. -/
import Derived.Test.YthhmolipdnijaaaBd
set_option linter.unusedVariables false
set_option linter.unusedSimpArgs false
set_option linter.unnecessarySimpa false
open Go Go.V Go.Proofs
namespace Go.R
set_option maxRecDepth 100000
set_option linter.unusedSimpArgs false

def climb (ds : List Int) : Nat → Int → Bool
  | 0, x => decide (x < 0)
  | f + 1, x => decide (x < 0) || climb ds f (ds.getD x.toNat (-1))
theorem climb_done {ds : List Int} {x : Int} (h : x < 0) : ∀ f, climb ds f x = true
  | 0 => by simp [climb, h]
  | f + 1 => by simp [climb, h]
def downB (n : Nat) (x : Int) : Bool := inB x (-1) ((n : Int) - 1)
def riverB (r : River) : Bool :=
  inB r.1.length 1 12 && (decide (r.2.1.length = r.1.length) && (decide (r.2.2.length = r.1.length) && (r.1.all (downB r.1.length) && (r.2.2.all unitB && (r.2.1.all damB && (List.range r.1.length).all fun i => climb r.1 (r.1.length + 1) i)))))
theorem rb1 {r : River} (h : ¬ (1 ≤ r.1.length ∧ r.1.length ≤ 12)) : riverB r = false := by
  have : inB r.1.length 1 12 = false := by
    cases hb : inB r.1.length 1 12 with
    | false => rfl
    | true => unfold inB at hb; simp only [Bool.and_eq_true, decide_eq_true_eq] at hb; omega
  simp [riverB, this]
theorem rb2 {r : River} (h : r.2.1.length ≠ r.1.length) : riverB r = false := by simp [riverB, h]
theorem rb3 {r : River} (h : r.2.2.length ≠ r.1.length) : riverB r = false := by simp [riverB, h]
theorem rb4 {r : River} (h : r.1.all (downB r.1.length) = false) : riverB r = false := by
  unfold riverB; rw [h]; simp only [Bool.false_and, Bool.and_false]
theorem rb5 {r : River} (h : r.2.2.all unitB = false) : riverB r = false := by
  unfold riverB; rw [h]; simp only [Bool.false_and, Bool.and_false]
theorem rb6 {r : River} (h : r.2.1.all damB = false) : riverB r = false := by
  unfold riverB; rw [h]; simp only [Bool.false_and, Bool.and_false]
theorem rb7 {r : River} {i : Nat} (hi : i < r.1.length) (h : climb r.1 (r.1.length + 1) i = false) : riverB r = false := by
  have : ((List.range r.1.length).all fun i => climb r.1 (r.1.length + 1) i) = false := by
    rw [List.all_eq_false]
    exact ⟨i, List.mem_range.2 hi, by rw [h]; exact Bool.false_ne_true⟩
  unfold riverB; rw [this]; simp only [Bool.and_false]
theorem rb_good {r : River} (h0 : 1 ≤ r.1.length) (h1 : r.1.length ≤ 12) (h2 : r.2.1.length = r.1.length) (h3 : r.2.2.length = r.1.length) (h4 : r.1.all (downB r.1.length) = true)
    (h5 : r.2.2.all unitB = true) (h6 : r.2.1.all damB = true) (h7 : ∀ i, i < r.1.length → climb r.1 (r.1.length + 1) i = true) : riverB r = true := by
  have e1 : inB r.1.length 1 12 = true := by
    unfold inB; simp only [Bool.and_eq_true, decide_eq_true_eq]; omega
  have e2 : ((List.range r.1.length).all fun i => climb r.1 (r.1.length + 1) i) = true := by
    rw [List.all_eq_true]
    intro i hi
    exact h7 i (List.mem_range.1 hi)
  unfold riverB
  rw [e1, decide_eq_true h2, decide_eq_true h3, h4, h5, h6, e2]; rfl
theorem down_in {n : Nat} {x : Int} (h : downB n x = true) : -1 ≤ x ∧ x < n := by
  unfold downB inB at h; simp only [Bool.and_eq_true, decide_eq_true_eq] at h; omega
theorem down_at {l : List Int} (h : l.all (downB l.length) = true) {z : Int} (h1 : z.toNat < l.length) : -1 ≤ l[z.toNat] ∧ l[z.toNat] < l.length := by
  rw [List.all_eq_true] at h
  exact down_in (h _ (List.getElem_mem h1))
theorem climb_step {ds : List Int} {f : Nat} {x : Int} (h0 : 0 ≤ x) (h1 : x.toNat < ds.length) : climb ds (f + 1) x = climb ds f ds[x.toNat] := by
  have : decide (x < 0) = false := decide_eq_false (by omega)
  simp only [climb, this, Bool.false_or]
  congr 1
  simp [h1]
theorem wn1 {n : Nat} (h : n ≤ maxLen) : IntKind.i64.wrap ((n : Int) - 1) = (n : Int) - 1 := by
  unfold maxLen at h
  exact wrap_id (by omega) (by omega)

theorem c_l06Is (r : River) (l1 : r.1.length ≤ maxLen) : Con Try.prog 145 [.ptrR (riverC r)] (bv (riverB r)) [] := by
  refine con_of tabOK mixed ⟨102, [0,2,3,4,5,6,7,44,47,81,84,89,94], [], []⟩ rfl (by decide) rfl rfl rfl rfl ?_
  conv => whnf
  refine ⟨by decide +kernel, ?_⟩
  conv => whnf
  refine ⟨fun a1 => ?_, fun a1 => ?_⟩
  · conv => whnf
    exact out0 rfl (show _ = _ by rw [rb1 (by have := of_decide_eq_true a1; omega)])
  conv => whnf
  refine ⟨fun a2 => ?_, fun a2 => ?_⟩
  · conv => whnf
    exact out0 rfl (show _ = _ by rw [rb1 (by have := of_decide_eq_true a2; omega)])
  conv => whnf
  refine ⟨fun a3 => ?_, fun a3 => ?_⟩
  · conv => whnf
    exact out0 rfl (show _ = _ by rw [rb2 (ne_of_dec a3)])
  conv => whnf
  refine ⟨fun a4 => ?_, fun a4 => ?_⟩
  · conv => whnf
    exact out0 rfl (show _ = _ by rw [rb3 (ne_of_dec a4)])
  have hn0 : 1 ≤ r.1.length := by have := of_decide_eq_false a1; omega
  have hn1 : r.1.length ≤ 12 := by have := of_decide_eq_false a2; omega
  have h2 : r.2.1.length = r.1.length := eq_of_dec a3
  have h3 : r.2.2.length = r.1.length := eq_of_dec a4
  conv => whnf
  refine ⟨Nat, fun i => [(0, .ptrR (riverC r)), (3, iv r.1.length), (4, iv i)], fun _ => [], fun i => i ≤ r.1.length ∧ (r.1.take i).all (downB r.1.length) = true ∧ (r.2.1.take i).all damB = true ∧ (r.2.2.take i).all unitB = true, fun i => r.1.length - i, 0, ?_, ⟨Nat.zero_le _, rfl, rfl, rfl⟩, fun i hi => ?_⟩
  · exact weak0 ⟨⟨⟨trivial, rfl⟩, ⟨trivial, rfl⟩, ⟨trivial, rfl⟩, rfl⟩, rfl, rfl, trivial⟩
  obtain ⟨hi, k1, k2, k3⟩ := hi
  conv => whnf
  refine ⟨fun h => ?_, fun h => ?_⟩
  · have hlt : i < r.1.length := lt_of_dec h
    have hlt2 : i < r.2.1.length := by omega
    have hlt3 : i < r.2.2.length := by omega
    conv => whnf
    refine idx hlt ?_
    conv => whnf
    refine .inl ⟨_, _, c_l00In _ _ _, rfl, ?_⟩
    conv => whnf
    refine ⟨fun b1 => ?_, fun b1 => ?_⟩ <;> rw [wn1 l1] at b1
    · conv => whnf
      exact out0 rfl (show _ = _ by rw [rb4 (all_bad hlt (nt b1))])
    conv => whnf
    refine idx hlt2 ?_
    conv => whnf
    refine .inl ⟨_, _, c_l06Dam _, rfl, ?_⟩
    conv => whnf
    refine ⟨fun b2 => ?_, fun b2 => ?_⟩
    · conv => whnf
      exact out0 rfl (show _ = _ by rw [rb6 (all_bad hlt2 (nt b2))])
    conv => whnf
    refine idx hlt3 ?_
    conv => whnf
    refine .inl ⟨_, _, c_l06Unit _, rfl, ?_⟩
    conv => whnf
    refine ⟨fun b3 => ?_, fun b3 => ?_⟩
    · conv => whnf
      exact out0 rfl (show _ = _ by rw [rb5 (all_bad hlt3 (nt b3))])
    conv => whnf
    refine ⟨i + 1, weak0 ⟨⟨⟨trivial, rfl⟩, ⟨trivial, rfl⟩, ⟨trivial, rfl⟩, rfl⟩, rfl, ?_, trivial⟩, ⟨hlt, all_more hlt k1 (nf b1), all_more hlt2 k2 (nf b2), all_more hlt3 k3 (nf b3)⟩, ?_⟩
    · show _ = _
      rw [wrap_succ hlt l1]
    · show r.1.length - (i + 1) < r.1.length - i
      omega
  have hge : r.1.length ≤ i := ge_of_dec h
  have h4 : r.1.all (downB r.1.length) = true := all_done hi hge k1
  have h6 : r.2.1.all damB = true := all_done (by omega) (by omega) k2
  have h5 : r.2.2.all unitB = true := all_done (by omega) (by omega) k3
  clear k1 k2 k3 hge hi h
  conv => whnf
  refine ⟨Nat, fun i => [(0, .ptrR (riverC r)), (3, iv r.1.length), (5, iv i)], fun _ => [], fun i => i ≤ r.1.length ∧ ∀ j, j < i → climb r.1 (r.1.length + 1) j = true, fun i => r.1.length - i, 0, ?_, ⟨Nat.zero_le _, fun j hj => absurd hj (Nat.not_lt_zero _)⟩, fun i hi => ?_⟩
  · exact weak0 ⟨⟨⟨trivial, rfl⟩, ⟨trivial, rfl⟩, ⟨trivial, rfl⟩, rfl⟩, rfl, rfl, trivial⟩
  obtain ⟨hi, hc⟩ := hi
  conv => whnf
  refine ⟨fun h => ?_, fun h => ?_⟩
  · have hlt : i < r.1.length := lt_of_dec h
    conv => whnf
    refine ⟨Nat × Int, fun q => [(0, .ptrR (riverC r)), (3, iv r.1.length), (5, iv i), (6, iv q.2), (7, iv q.1)], fun _ => [], fun q => q.1 ≤ r.1.length + 1 ∧ -1 ≤ q.2 ∧ q.2 < r.1.length ∧ climb r.1 (r.1.length + 1) i = climb r.1 (r.1.length + 1 - q.1) q.2, fun q => r.1.length + 1 - q.1, (0, (i : Int)), ?_, ⟨Nat.zero_le _, by show (-1 : Int) ≤ (i : Int); omega, by show (i : Int) < _; omega, rfl⟩, fun q hq => ?_⟩
    · exact weak0 ⟨⟨⟨trivial, rfl⟩, ⟨trivial, rfl⟩, ⟨trivial, rfl⟩, rfl⟩, rfl, rfl, rfl, rfl, trivial⟩
    obtain ⟨k, x⟩ := q
    obtain ⟨hk, hx0, hx1, hcl⟩ := hq
    replace hk : k ≤ r.1.length + 1 := hk
    replace hx0 : -1 ≤ x := hx0
    replace hx1 : x < r.1.length := hx1
    replace hcl : climb r.1 (r.1.length + 1) i = climb r.1 (r.1.length + 1 - k) x := hcl
    conv => whnf
    refine ⟨fun h => ?_, fun h => ?_⟩
    · have hx : 0 ≤ x := of_decide_eq_true h
      have hxl : x.toNat < r.1.length := by omega
      conv => whnf
      refine ⟨fun h => ?_, fun h => ?_⟩
      · have hkn : r.1.length < k := by have := of_decide_eq_true h; omega
        conv => whnf
        have hf : climb r.1 (r.1.length + 1) i = false := by
          rw [hcl, show r.1.length + 1 - k = 0 by omega]
          exact decide_eq_false (by omega)
        exact out0 rfl (show _ = _ by rw [rb7 hlt hf])
      · have hkn : k ≤ r.1.length := by have := of_decide_eq_false h; omega
        conv => whnf
        refine idxZ' hx hxl ?_
        conv => whnf
        refine ⟨(k + 1, r.1[x.toNat]), weak0 ⟨⟨⟨trivial, rfl⟩, ⟨trivial, rfl⟩, ⟨trivial, rfl⟩, rfl⟩, rfl, rfl, rfl, ?_, trivial⟩, ⟨?_, (down_at h4 hxl).1, (down_at h4 hxl).2, ?_⟩, ?_⟩
        · show _ = _
          rw [wrap_succ (n := r.1.length + 1) (by omega) (by unfold maxLen; omega)]
        · show k + 1 ≤ r.1.length + 1
          omega
        · show _ = climb r.1 (r.1.length + 1 - (k + 1)) _
          rw [hcl, show r.1.length + 1 - k = (r.1.length + 1 - (k + 1)) + 1 by omega, climb_step hx hxl]
        · show r.1.length + 1 - (k + 1) < r.1.length + 1 - k
          omega
    · have hx : x < 0 := by have := of_decide_eq_false h; omega
      conv => whnf
      refine ⟨i + 1, weak0 ⟨⟨⟨trivial, rfl⟩, ⟨trivial, rfl⟩, ⟨trivial, rfl⟩, rfl⟩, rfl, ?_, trivial⟩, ⟨hlt, fun j hj => ?_⟩, ?_⟩
      · show _ = _
        rw [wrap_succ (n := r.1.length) (by omega) (by unfold maxLen; omega)]
      · by_cases hj2 : j = i
        · subst hj2
          rw [hcl]
          exact climb_done hx _
        · exact hc j (by omega)
      · show r.1.length - (i + 1) < r.1.length - i
        omega
  · have hlt : i = r.1.length := Nat.le_antisymm hi (ge_of_dec h)
    conv => whnf
    exact out0 rfl (show _ = _ by rw [rb_good hn0 hn1 h2 h3 h4 h5 h6 (fun j hj => hc j (by omega))])

theorem c_ValidRiver (r : River) (l1 : r.1.length ≤ maxLen) (l2 : r.2.1.length ≤ maxLen) (l3 : r.2.2.length ≤ maxLen) : Con Try.prog 82 [.agg (riverC r)] (bv (riverB r)) [] := by
  refine con_of tabOK mixed ⟨66, [0,1,2,3,4,5,6,45,48,49,50,54,59], [], []⟩ rfl (by decide) rfl rfl rfl rfl ?_
  conv => whnf
  refine .inl ⟨_, _, c_withinB _ _ _, rfl, ?_⟩
  conv => whnf
  refine ⟨fun a1 => ?_, fun a1 => ?_⟩
  · conv => whnf
    exact out0 rfl (show _ = _ by rw [rb1 (fun h => by have a1 := nt a1; unfold inB at a1; simp only [Bool.and_eq_false_iff, decide_eq_false_iff_not] at a1; omega)])
  conv => whnf
  refine ⟨fun a3 => ?_, fun a3 => ?_⟩
  · conv => whnf
    exact out0 rfl (show _ = _ by rw [rb2 (ne_of_dec a3)])
  conv => whnf
  refine ⟨fun a4 => ?_, fun a4 => ?_⟩
  · conv => whnf
    exact out0 rfl (show _ = _ by rw [rb3 (ne_of_dec a4)])
  have hn : 1 ≤ r.1.length ∧ r.1.length ≤ 12 := by
    have a1 := nf a1; unfold inB at a1; simp only [Bool.and_eq_true, decide_eq_true_eq] at a1; omega
  obtain ⟨hn0, hn1⟩ := hn
  have h2 : r.2.1.length = r.1.length := eq_of_dec a3
  have h3 : r.2.2.length = r.1.length := eq_of_dec a4
  conv => whnf
  refine .inl ⟨_, _, c_areWithin _ _ _ l1, rfl, ?_⟩
  conv => whnf
  refine ⟨fun b1 => ?_, fun b1 => ?_⟩ <;> rw [wn1 l1] at b1
  · conv => whnf
    exact out0 rfl (show _ = _ by rw [rb4 (nt b1)])
  conv => whnf
  refine .inl ⟨_, _, c_areWithin _ _ _ l3, rfl, ?_⟩
  conv => whnf
  refine ⟨fun b2 => ?_, fun b2 => ?_⟩
  · conv => whnf
    exact out0 rfl (show _ = _ by rw [rb5 (nt b2)])
  conv => whnf
  refine .inl ⟨_, _, c_ContainsD _ _ c_ValidRiver1 _ l2, rfl, ?_⟩
  have hd : (r.2.1.any fun d => !damB d) = !r.2.1.all damB := by
    rw [← List.not_all_eq_any_not]
  conv => whnf
  refine ⟨fun b3 => ?_, fun b3 => ?_⟩ <;> rw [hd] at b3
  · conv => whnf
    exact out0 rfl (show _ = _ by rw [rb6 (nt b3)])
  have h4 : r.1.all (downB r.1.length) = true := nf b1
  have h5 : r.2.2.all unitB = true := nf b2
  have h6 : r.2.1.all damB = true := nf b3
  conv => whnf
  refine ⟨Nat, fun i => [(1, .ptrR (riverC r)), (3, iv r.1.length), (48, iv r.1.length), (49, iv i)], fun _ => [], fun i => i ≤ r.1.length ∧ ∀ j, j < i → climb r.1 (r.1.length + 1) j = true, fun i => r.1.length - i, 0, ?_, ⟨Nat.zero_le _, fun j hj => absurd hj (Nat.not_lt_zero _)⟩, fun i hi => ?_⟩
  · exact weak0 ⟨⟨⟨trivial, rfl⟩, ⟨trivial, rfl⟩, ⟨trivial, rfl⟩, rfl⟩, rfl, rfl, rfl, trivial⟩
  obtain ⟨hi, hc⟩ := hi
  conv => whnf
  refine ⟨fun h => ?_, fun h => ?_⟩
  · have hlt : i < r.1.length := lt_of_dec h
    conv => whnf
    refine ⟨Nat × Int, fun q => [(1, .ptrR (riverC r)), (3, iv r.1.length), (48, iv r.1.length), (49, iv i), (5, iv q.2), (6, iv q.1)], fun _ => [], fun q => q.1 ≤ r.1.length + 1 ∧ -1 ≤ q.2 ∧ q.2 < r.1.length ∧ climb r.1 (r.1.length + 1) i = climb r.1 (r.1.length + 1 - q.1) q.2, fun q => r.1.length + 1 - q.1, (0, (i : Int)), ?_, ⟨Nat.zero_le _, by show (-1 : Int) ≤ (i : Int); omega, by show (i : Int) < _; omega, rfl⟩, fun q hq => ?_⟩
    · exact weak0 ⟨⟨⟨trivial, rfl⟩, ⟨trivial, rfl⟩, ⟨trivial, rfl⟩, rfl⟩, rfl, rfl, rfl, rfl, rfl, trivial⟩
    obtain ⟨k, x⟩ := q
    obtain ⟨hk, hx0, hx1, hcl⟩ := hq
    replace hk : k ≤ r.1.length + 1 := hk
    replace hx0 : -1 ≤ x := hx0
    replace hx1 : x < r.1.length := hx1
    replace hcl : climb r.1 (r.1.length + 1) i = climb r.1 (r.1.length + 1 - k) x := hcl
    conv => whnf
    refine ⟨fun h => ?_, fun h => ?_⟩
    · have hx : 0 ≤ x := of_decide_eq_true h
      have hxl : x.toNat < r.1.length := by omega
      conv => whnf
      refine ⟨fun h => ?_, fun h => ?_⟩
      · have hkn : r.1.length < k := by have := of_decide_eq_true h; omega
        conv => whnf
        have hf : climb r.1 (r.1.length + 1) i = false := by
          rw [hcl, show r.1.length + 1 - k = 0 by omega]
          exact decide_eq_false (by omega)
        exact out0 rfl (show _ = _ by rw [rb7 hlt hf])
      · have hkn : k ≤ r.1.length := by have := of_decide_eq_false h; omega
        conv => whnf
        refine idxZ' hx hxl ?_
        conv => whnf
        refine ⟨(k + 1, r.1[x.toNat]), weak0 ⟨⟨⟨trivial, rfl⟩, ⟨trivial, rfl⟩, ⟨trivial, rfl⟩, rfl⟩, rfl, rfl, rfl, rfl, ?_, trivial⟩, ⟨?_, (down_at h4 hxl).1, (down_at h4 hxl).2, ?_⟩, ?_⟩
        · show _ = _
          rw [wrap_succ (n := r.1.length + 1) (by omega) (by unfold maxLen; omega)]
        · show k + 1 ≤ r.1.length + 1
          omega
        · show _ = climb r.1 (r.1.length + 1 - (k + 1)) _
          rw [hcl, show r.1.length + 1 - k = (r.1.length + 1 - (k + 1)) + 1 by omega, climb_step hx hxl]
        · show r.1.length + 1 - (k + 1) < r.1.length + 1 - k
          omega
    · have hx : x < 0 := by have := of_decide_eq_false h; omega
      conv => whnf
      refine ⟨i + 1, weak0 ⟨⟨⟨trivial, rfl⟩, ⟨trivial, rfl⟩, ⟨trivial, rfl⟩, rfl⟩, rfl, rfl, ?_, trivial⟩, ⟨hlt, fun j hj => ?_⟩, ?_⟩
      · show _ = _
        rw [wrap_succ (n := r.1.length) (by omega) (by unfold maxLen; omega)]
      · by_cases hj2 : j = i
        · subst hj2
          rw [hcl]
          exact climb_done hx _
        · exact hc j (by omega)
      · show r.1.length - (i + 1) < r.1.length - i
        omega
  · have hlt : i = r.1.length := Nat.le_antisymm hi (ge_of_dec h)
    conv => whnf
    exact out0 rfl (show _ = _ by rw [rb_good hn0 hn1 h2 h3 h4 h5 h6 (fun j hj => hc j (by omega))])

def deskB (d : Desk) : Bool := hillB d.1 && (soilB d.2.1 && (sectB d.2.2.1 && riverB d.2.2.2))
theorem c_l08Is (d : Desk) (h0 : d.1.2.2.length ≤ maxLen) (h1 : d.2.2.2.1.length ≤ maxLen) : Con Try.prog 78 [.ptrR (deskC d)] (bv (deskB d)) [] := by
  refine con_of tabOK mixed ⟨25, [0,1,2,3,4,5,6,7,8,9,10,11,12,13,14,15,16,17,18,19,20,21,22,23,24], [], []⟩ rfl (by decide) rfl rfl rfl rfl ?_
  repeat' (conv => whnf
           first
           | exact out0 rfl (show _ = _ by simp only [deskB, *, Bool.true_and, Bool.false_and, Bool.and_true, Bool.and_false, Bool.true_or, Bool.false_or, Bool.or_true, Bool.or_false, Bool.not_true, Bool.not_false, Bool.and_self, Bool.or_self])
           | refine ⟨fun _ => ?_, fun _ => ?_⟩
           | refine .inl ⟨_, _, c_l02Is d.1 _ h0, rfl, ?_⟩
           | refine .inl ⟨_, _, c_l03Soil d.2.1 _, rfl, ?_⟩
           | refine .inl ⟨_, _, c_l04Is d.2.2.1 _, rfl, ?_⟩
           | refine .inl ⟨_, _, c_l06Is d.2.2.2 h1, rfl, ?_⟩
           | refine ⟨by decide +kernel, ?_⟩)


theorem c_specValid (d : Desk) (h0 : d.1.2.2.length ≤ maxLen) (h1 : d.2.2.2.1.length ≤ maxLen) : Con Try.prog 18 [.agg (deskC d)] (bv (deskB d)) [] := by
  refine con_of tabOK mixed ⟨4, [0,1,2,3], [], []⟩ rfl (by decide) rfl rfl rfl rfl ?_
  repeat' (conv => whnf
           first
           | exact out0 rfl (show _ = _ by rfl)
           | refine ⟨fun _ => ?_, fun _ => ?_⟩
           | refine .inl ⟨_, _, c_l08Is d h0 h1, rfl, ?_⟩
           | refine ⟨by decide +kernel, ?_⟩)


theorem c_implValid (d : Desk) (h0 : d.1.2.2.length ≤ maxLen) (h1 : d.2.2.2.1.length ≤ maxLen) (h2 : d.2.2.2.2.1.length ≤ maxLen) (h3 : d.2.2.2.2.2.length ≤ maxLen) : Con Try.prog 19 [.agg (deskC d)] (bv (deskB d)) [] := by
  refine con_of tabOK mixed ⟨21, [0,1,2,3,4,5,6,7,8,9,10,11,12,13,14,15,16,17,18,19,20], [], []⟩ rfl (by decide) rfl rfl rfl rfl ?_
  repeat' (conv => whnf
           first
           | exact out0 rfl (show _ = _ by simp only [deskB, *, Bool.true_and, Bool.false_and, Bool.and_true, Bool.and_false, Bool.true_or, Bool.false_or, Bool.or_true, Bool.or_false, Bool.not_true, Bool.not_false, Bool.and_self, Bool.or_self])
           | refine ⟨fun _ => ?_, fun _ => ?_⟩
           | refine .inl ⟨_, _, c_ValidHill d.1 h0, rfl, ?_⟩
           | refine .inl ⟨_, _, c_ValidSoil d.2.1, rfl, ?_⟩
           | refine .inl ⟨_, _, c_ValidSection d.2.2.1, rfl, ?_⟩
           | refine .inl ⟨_, _, c_ValidRiver d.2.2.2 h1 h2 h3, rfl, ?_⟩
           | refine ⟨by decide +kernel, ?_⟩)


theorem c_FnExactValidDesk (a : Desk) (la : Lists a) : Con Try.prog 5 [.agg (deskC a)] (bv true) [] := by
  refine con_of tabOK mixed ⟨27, [0,1,2,3,4,5,6,7,8,9,10,11,12,13,14,15,16,17,18,19,20,21,22,23,24,25,26], [5], []⟩ rfl (by decide) rfl rfl rfl rfl ?_
  conv => whnf
  refine .inl ⟨_, _, c_szDesk a _, rfl, ?_⟩
  conv => whnf
  refine ⟨fun _ => ?_, fun h => ?_⟩
  · conv => whnf
    exact out0 rfl rfl
  obtain ⟨sa, m, hm, hm2⟩ := small_of la (left := 1048576) (Nat.le_refl _) (of_decide_eq_false h)
  conv => whnf
  refine .inl ⟨_, _, c_toDeskF a sa, rfl, ?_⟩
  conv => whnf
  refine .inl ⟨_, _, c_specValid a la.hill la.downs, rfl, ?_⟩
  conv => whnf
  refine .inl ⟨_, _, c_toDeskF a sa, rfl, ?_⟩
  conv => whnf
  refine .inl ⟨_, _, c_implValid a la.hill la.downs la.dams la.wants, rfl, ?_⟩
  conv => whnf
  refine ⟨fun h => ?_, fun _ => ?_⟩
  · have : (!(deskB a == deskB a)) = true := h
    simp at this
  conv => whnf
  refine ⟨by decide +kernel, ?_⟩
  conv => whnf
  refine ⟨_, c_toDeskF a sa, ?_⟩
  conv => whnf
  refine ⟨_, c_eqDesk a la.hill la.downs la.dams la.wants, ?_⟩
  conv => whnf
  refine ⟨fun h => (by cases h), fun _ => ?_⟩
  conv => whnf
  exact out0 rfl rfl
end Go.R

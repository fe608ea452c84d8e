/- Desks: copies. -/
import Derived.Test.YthhmolipdnijaaaAa
set_option linter.unusedVariables false
set_option linter.unusedSimpArgs false
set_option linter.unnecessarySimpa false
open Go Go.V Go.Proofs
namespace Go.R
set_option maxRecDepth 100000

theorem vw {n : Nat} {z : Int} (h : z = (n : Int)) (h1 : n ≤ 1048576 * 4) : Value.int .i64 (IntKind.i64.wrap z) = Value.int .i64 (n : Int) := by
  rw [h, wrap_id (by omega) (by omega)]
theorem vi {a b : Nat} (h : a = b) : Value.int .i64 (a : Int) = Value.int .i64 (b : Int) := by rw [h]
theorem wrap_nat' {n : Nat} {z : Int} (h : z = (n : Int)) (h1 : n ≤ 1048576 * 4) : IntKind.i64.wrap z = (n : Int) := by
  subst h; rw [wrap_id] <;> omega
theorem len_leN {α : Type} {l : List α} (h : l.length ≤ 1048576) : l.length ≤ maxLen := by unfold maxLen; omega

abbrev iv (n : Int) : AV := .val (.int .i64 n)
abbrev fv (x : Nat) : AV := .flt .f32 x
abbrev bv (b : Bool) : AV := .val (.bool b)
abbrev i6 : STy := .int .i64
abbrev f3 : STy := .flt .f32
abbrev damT : STy := .pair i6 (.pair i6 (.pair i6 i6))
abbrev Dam := Int × Int × Int × Int
abbrev Hill := Int × Int × List Nat
abbrev Soil := Nat × Nat × Nat × Nat × Nat
abbrev Sect := Nat × Nat × Nat × Nat
abbrev River := List Int × List Dam × List Int
abbrev Desk := Hill × Soil × Sect × River
abbrev damC (d : Dam) : List AV := [iv d.1, iv d.2.1, iv d.2.2.1, iv d.2.2.2]
abbrev hillC (h : Hill) : List AV := [iv h.1, iv h.2.1, .sl false f3 h.2.2]
abbrev soilC (s : Soil) : List AV := [fv s.1, fv s.2.1, fv s.2.2.1, fv s.2.2.2.1, fv s.2.2.2.2]
abbrev sectC (s : Sect) : List AV := [fv s.1, fv s.2.1, fv s.2.2.1, fv s.2.2.2]
abbrev riverC (r : River) : List AV := [.sl false i6 r.1, .sl false damT r.2.1, .sl false i6 r.2.2]
abbrev deskC (d : Desk) : List AV := hillC d.1 ++ soilC d.2.1 ++ sectC d.2.2.1 ++ riverC d.2.2.2

/-- How much is left. -/
def szv (n : Nat) (left : Int) : Int := if IntKind.i64.wrap (left - n) < 0 then -1 else IntKind.i64.wrap (left - n)
def szs : List Nat → Int → Int
  | [], left => left
  | n :: ns, left => if szv n left < 0 then -1 else szs ns (szv n left)
theorem szv_ok {n left : Nat} (hn : n ≤ maxLen) (hl : left ≤ 1048576) (h : ¬ szv n left < 0) : n ≤ left ∧ szv n left = ((left - n : Nat) : Int) := by
  unfold maxLen at hn
  have e : IntKind.i64.wrap ((left : Int) - n) = (left : Int) - n := wrap_id (by omega) (by omega)
  unfold szv at h ⊢
  rw [e] at h ⊢
  split at h
  · exact absurd (by decide) h
  · rename_i h1
    rw [if_neg h1]
    omega
theorem szs_ok : ∀ {ns : List Nat} {left : Nat}, (∀ n ∈ ns, n ≤ maxLen) → left ≤ 1048576 → ¬ szs ns left < 0 → (∀ n ∈ ns, n ≤ left) ∧ ∃ m : Nat, szs ns left = (m : Int) ∧ m ≤ left
  | [], left, _, _, _ => ⟨fun n h => by simp at h, left, rfl, Nat.le_refl _⟩
  | n :: ns, left, hn, hl, h => by
    simp only [szs] at h ⊢
    split at h
    · exact absurd (by decide) h
    · rename_i h1
      obtain ⟨a1, a2⟩ := szv_ok (hn n (by simp)) hl h1
      rw [if_neg h1]
      rw [a2] at h ⊢
      obtain ⟨b1, m, b2, b3⟩ := szs_ok (ns := ns) (left := left - n) (fun k hk => hn k (by simp [hk])) (by omega) h
      refine ⟨fun k hk => ?_, m, b2, by omega⟩
      simp only [List.mem_cons] at hk
      rcases hk with rfl | hk
      · exact a1
      · have := b1 k hk; omega

theorem c_szFloat32S (l : List (STy.S (.flt .f32))) (k : Int) : Con Try.prog 131 [.sl false (.flt .f32) l, iv k] (iv (szv l.length k)) [] := by
  refine con_of tabOK mixed ⟨12, [0,1,2,3,4,5,6,7,8,9,10,11], [], []⟩ rfl (by decide) rfl rfl rfl rfl ?_
  conv => whnf
  refine ⟨fun h => ?_, fun h => ?_⟩
  · conv => whnf
    exact out0 rfl (show _ = _ by rw [szv, if_pos (of_decide_eq_true h)])
  · conv => whnf
    exact out0 rfl (show _ = _ by rw [szv, if_neg (of_decide_eq_false h)])

theorem c_szInt64S (l : List (STy.S (.int .i64))) (k : Int) : Con Try.prog 132 [.sl false (.int .i64) l, iv k] (iv (szv l.length k)) [] := by
  refine con_of tabOK mixed ⟨12, [0,1,2,3,4,5,6,7,8,9,10,11], [], []⟩ rfl (by decide) rfl rfl rfl rfl ?_
  conv => whnf
  refine ⟨fun h => ?_, fun h => ?_⟩
  · conv => whnf
    exact out0 rfl (show _ = _ by rw [szv, if_pos (of_decide_eq_true h)])
  · conv => whnf
    exact out0 rfl (show _ = _ by rw [szv, if_neg (of_decide_eq_false h)])

theorem c_szDamS (l : List (STy.S (damT))) (k : Int) : Con Try.prog 133 [.sl false (damT) l, iv k] (iv (szv l.length k)) [] := by
  refine con_of tabOK mixed ⟨12, [0,1,2,3,4,5,6,7,8,9,10,11], [], []⟩ rfl (by decide) rfl rfl rfl rfl ?_
  conv => whnf
  refine ⟨fun h => ?_, fun h => ?_⟩
  · conv => whnf
    exact out0 rfl (show _ = _ by rw [szv, if_pos (of_decide_eq_true h)])
  · conv => whnf
    exact out0 rfl (show _ = _ by rw [szv, if_neg (of_decide_eq_false h)])

theorem c_szHill (h : Hill) (k : Int) : Con Try.prog 64 [.agg (hillC h), iv k] (iv (szs [h.2.2.length] k)) [] := by
  refine con_of tabOK mixed ⟨12, [0,1,2,3,4,5,6,7,8,9,10,11], [], []⟩ rfl (by decide) rfl rfl rfl rfl ?_
  conv => whnf
  refine .inl ⟨_, _, c_szFloat32S _ _, rfl, ?_⟩
  conv => whnf
  refine ⟨fun h => ?_, fun h => ?_⟩
  · conv => whnf
    exact out0 rfl (show _ = _ by rw [szs, if_pos (of_decide_eq_true h)])
  · conv => whnf
    exact out0 rfl (show _ = _ by rw [szs, if_neg (of_decide_eq_false h), szs])

theorem c_szRiver (r : River) (k : Int) : Con Try.prog 65 [.agg (riverC r), iv k] (iv (szs [r.1.length, r.2.1.length, r.2.2.length] k)) [] := by
  refine con_of tabOK mixed ⟨24, [0,1,2,3,4,5,6,7,8,9,10,11,12,13,14,15,16,17,18,19,20,21,22,23], [], []⟩ rfl (by decide) rfl rfl rfl rfl ?_
  conv => whnf
  refine .inl ⟨_, _, c_szInt64S _ _, rfl, ?_⟩
  conv => whnf
  refine ⟨fun h => ?_, fun h1 => ?_⟩
  · conv => whnf
    exact out0 rfl (show _ = _ by rw [szs, if_pos (of_decide_eq_true h)])
  conv => whnf
  refine .inl ⟨_, _, c_szDamS _ _, rfl, ?_⟩
  conv => whnf
  refine ⟨fun h => ?_, fun h2 => ?_⟩
  · conv => whnf
    exact out0 rfl (show _ = _ by rw [szs, if_neg (of_decide_eq_false h1), szs, if_pos (of_decide_eq_true h)])
  conv => whnf
  refine .inl ⟨_, _, c_szInt64S _ _, rfl, ?_⟩
  conv => whnf
  refine ⟨fun h => ?_, fun h3 => ?_⟩
  · conv => whnf
    exact out0 rfl (show _ = _ by rw [szs, if_neg (of_decide_eq_false h1), szs, if_neg (of_decide_eq_false h2), szs, if_pos (of_decide_eq_true h)])
  conv => whnf
  exact out0 rfl (show _ = _ by rw [szs, if_neg (of_decide_eq_false h1), szs, if_neg (of_decide_eq_false h2), szs, if_neg (of_decide_eq_false h3), szs])

theorem szs_app : ∀ (a b : List Nat) (k : Int), szs (a ++ b) k = if a ≠ [] ∧ szs a k < 0 then -1 else szs b (szs a k)
  | [], b, k => by simp [szs]
  | n :: a, b, k => by
    simp only [List.cons_append, szs]
    split
    · simp
    · rename_i h
      rw [szs_app a b]
      cases a with
      | nil => simp [szs, h]
      | cons m a => simp

theorem c_szDesk (d : Desk) (k : Int) : Con Try.prog 14 [.agg (deskC d), iv k] (iv (szs ([d.1.2.2.length] ++ [d.2.2.2.1.length, d.2.2.2.2.1.length, d.2.2.2.2.2.length]) k)) [] := by
  refine con_of tabOK mixed ⟨18, [0,1,2,3,4,5,6,7,8,9,10,11,12,13,14,15,16,17], [], []⟩ rfl (by decide) rfl rfl rfl rfl ?_
  conv => whnf
  refine .inl ⟨_, _, c_szHill d.1 _, rfl, ?_⟩
  rw [szs_app]
  conv => whnf
  refine ⟨fun h => ?_, fun h1 => ?_⟩
  · conv => whnf
    exact out0 rfl (show _ = _ by rw [if_pos ⟨by simp, of_decide_eq_true h⟩])
  have h1 := of_decide_eq_false h1
  rw [if_neg (fun h => h1 h.2)]
  conv => whnf
  refine .inl ⟨_, _, c_szRiver d.2.2.2 _, rfl, ?_⟩
  conv => whnf
  refine ⟨fun h => ?_, fun h2 => ?_⟩
  · conv => whnf
    refine out0 rfl (show _ = _ from ?_)
    have h := of_decide_eq_true h
    congr 1
    have : ∀ (ns : List Nat) (k : Int), ns ≠ [] → szs ns k < 0 → szs ns k = -1 := by
      intro ns
      induction ns with
      | nil => intro k hk; exact absurd rfl hk
      | cons n ns ih =>
        intro k _ hk
        simp only [szs] at hk ⊢
        split
        · rfl
        · rename_i hv
          rw [if_neg hv] at hk
          cases ns with
          | nil => exact absurd hk hv
          | cons m ns => exact ih _ (by simp) hk
    exact (this _ _ (by simp) h).symm
  conv => whnf
  exact out0 rfl rfl

theorem c_eqDam (d : Dam) : Con Try.prog 174 [.agg (damC d), .agg (damC d)] (bv true) [] := by
  refine con_of tabOK mixed ⟨25, [0,1,2,3,4,5,6,7,8,9,10,11,12,13,14,15,16,17,18,19,20,21,22,23,24], [], []⟩ rfl (by decide) rfl rfl rfl rfl ?_
  repeat' (conv => whnf
           first
           | exact out0 rfl rfl
           | refine ⟨fun h => absurd rfl (of_decide_eq_true h), fun _ => ?_⟩
           | refine ⟨fun h => (by cases h), fun _ => ?_⟩
           )


theorem c_eqDamS (l : List Dam) (hl : l.length ≤ maxLen) : Con Try.prog 126 [.sl false damT l, .sl false damT l] (bv true) [] := by
  refine con_of tabOK mixed ⟨27, [0,1,4,5,10,14,26], [], []⟩ rfl (by decide) rfl rfl rfl rfl ?_
  conv => whnf
  refine ⟨fun h => absurd rfl (of_decide_eq_true h), fun _ => ?_⟩
  conv => whnf
  refine ⟨Nat, fun i => [(0, .sl false damT l), (1, .sl false damT l), (5, .val (.int .i64 i))], fun _ => [], fun i => i ≤ l.length, fun i => l.length - i, 0, ?_, Nat.zero_le _, fun i hi => ?_⟩
  · exact weak0 ⟨⟨trivial, rfl⟩, ⟨trivial, rfl⟩, rfl, trivial⟩
  have hi : i ≤ l.length := hi
  conv => whnf
  refine ⟨fun h => ?_, fun h => ?_⟩
  · have hlt : i < l.length := lt_of_dec h
    conv => whnf
    refine ⟨by decide +kernel, ?_⟩
    conv => whnf
    refine idx hlt ?_
    conv => whnf
    refine idx hlt ?_
    conv => whnf
    refine ⟨_, c_eqDam l[i], ?_⟩
    conv => whnf
    refine ⟨fun h => (by cases h), fun _ => ?_⟩
    conv => whnf
    refine ⟨i + 1, weak0 ⟨⟨trivial, rfl⟩, ⟨trivial, rfl⟩, ?_, trivial⟩, hlt, ?_⟩
    · show _ = _
      rw [wrap_succ hlt hl]
    · show l.length - (i + 1) < l.length - i
      omega
  · conv => whnf
    exact out0 rfl rfl

theorem sameF_self (a : Nat) : sameF a a = true := by
  unfold sameF
  cases h : feq .f64 a a
  · simp
  · cases h0 : feq .f64 a 0 <;> simp
theorem eqF_self : ∀ l : List Nat, eqF l l = true
  | [] => rfl
  | x :: l => by rw [eqF, sameF_self, eqF_self l]; rfl
theorem c_sameS (a : Nat) : Con Try.prog 124 [.flt .f64 a, .flt .f64 a] (bv true) [] := by
  have := c_sameFloat a a
  rw [sameF_self] at this
  exact this
theorem c_eqFS (l : List Nat) (hl : l.length ≤ maxLen) : Con Try.prog 123 [.sl false f3 l, .sl false f3 l] (bv true) [] := by
  have := c_eqFloat32S l l hl
  rw [eqF_self] at this
  exact this
theorem c_eqIS (l : List Int) (hl : l.length ≤ maxLen) : Con Try.prog 125 [.sl false i6 l, .sl false i6 l] (bv true) [] := by
  have := c_eqInt64S l l hl
  rw [decide_eq_true rfl] at this
  exact this

theorem c_eqHill (h : Hill) (hl : h.2.2.length ≤ maxLen) : Con Try.prog 56 [.agg (hillC h), .agg (hillC h)] (bv true) [] := by
  refine con_of tabOK mixed ⟨21, [0,1,2,3,4,5,6,7,8,9,10,11,12,13,14,15,16,17,18,19,20], [], []⟩ rfl (by decide) rfl rfl rfl rfl ?_
  repeat' (conv => whnf
           first
           | exact out0 rfl rfl
           | refine ⟨fun h => absurd rfl (of_decide_eq_true h), fun _ => ?_⟩
           | refine ⟨fun h => (by cases h), fun _ => ?_⟩
           | refine .inl ⟨_, _, c_eqFS _ hl, rfl, ?_⟩)


theorem c_eqSoil (s : Soil) : Con Try.prog 57 [.agg (soilC s), .agg (soilC s)] (bv true) [] := by
  refine con_of tabOK mixed ⟨45, [0,1,2,3,4,5,6,7,8,9,10,11,12,13,14,15,16,17,18,19,20,21,22,23,24,25,26,27,28,29,30,31,32,33,34,35,36,37,38,39,40,41,42,43,44], [], []⟩ rfl (by decide) rfl rfl rfl rfl ?_
  repeat' (conv => whnf
           first
           | exact out0 rfl rfl
           | refine ⟨fun h => absurd rfl (of_decide_eq_true h), fun _ => ?_⟩
           | refine ⟨fun h => (by cases h), fun _ => ?_⟩
           | refine .inl ⟨_, _, c_sameS _, rfl, ?_⟩)


theorem c_eqSection (s : Sect) : Con Try.prog 58 [.agg (sectC s), .agg (sectC s)] (bv true) [] := by
  refine con_of tabOK mixed ⟨37, [0,1,2,3,4,5,6,7,8,9,10,11,12,13,14,15,16,17,18,19,20,21,22,23,24,25,26,27,28,29,30,31,32,33,34,35,36], [], []⟩ rfl (by decide) rfl rfl rfl rfl ?_
  repeat' (conv => whnf
           first
           | exact out0 rfl rfl
           | refine ⟨fun h => absurd rfl (of_decide_eq_true h), fun _ => ?_⟩
           | refine ⟨fun h => (by cases h), fun _ => ?_⟩
           | refine .inl ⟨_, _, c_sameS _, rfl, ?_⟩)


theorem c_eqRiver (r : River) (h1 : r.1.length ≤ maxLen) (h2 : r.2.1.length ≤ maxLen) (h3 : r.2.2.length ≤ maxLen) : Con Try.prog 59 [.agg (riverC r), .agg (riverC r)] (bv true) [] := by
  refine con_of tabOK mixed ⟨23, [0,1,2,3,4,5,6,7,8,9,10,11,12,13,14,15,16,17,18,19,20,21,22], [], []⟩ rfl (by decide) rfl rfl rfl rfl ?_
  repeat' (conv => whnf
           first
           | exact out0 rfl rfl
           | refine ⟨fun h => absurd rfl (of_decide_eq_true h), fun _ => ?_⟩
           | refine ⟨fun h => (by cases h), fun _ => ?_⟩
           | refine .inl ⟨_, _, c_eqIS _ h1, rfl, ?_⟩ | refine .inl ⟨_, _, c_eqDamS _ h2, rfl, ?_⟩ | refine .inl ⟨_, _, c_eqIS _ h3, rfl, ?_⟩)


theorem c_eqDesk (d : Desk) (h0 : d.1.2.2.length ≤ maxLen) (h1 : d.2.2.2.1.length ≤ maxLen) (h2 : d.2.2.2.2.1.length ≤ maxLen) (h3 : d.2.2.2.2.2.length ≤ maxLen) : Con Try.prog 11 [.agg (deskC d), .agg (deskC d)] (bv true) [] := by
  refine con_of tabOK mixed ⟨29, [0,1,2,3,4,5,6,7,8,9,10,11,12,13,14,15,16,17,18,19,20,21,22,23,24,25,26,27,28], [], []⟩ rfl (by decide) rfl rfl rfl rfl ?_
  repeat' (conv => whnf
           first
           | exact out0 rfl rfl
           | refine ⟨fun h => absurd rfl (of_decide_eq_true h), fun _ => ?_⟩
           | refine ⟨fun h => (by cases h), fun _ => ?_⟩
           | refine .inl ⟨_, _, c_eqHill d.1 h0, rfl, ?_⟩ | refine .inl ⟨_, _, c_eqSoil d.2.1, rfl, ?_⟩ | refine .inl ⟨_, _, c_eqSection d.2.2.1, rfl, ?_⟩ | refine .inl ⟨_, _, c_eqRiver d.2.2.2 h1 h2 h3, rfl, ?_⟩)


end Go.R

open Go Go.V Go.Proofs
namespace Go.R
set_option maxRecDepth 100000

theorem c_toDam (d : Dam) : Con Try.prog 176 [.agg (damC d)] (.agg (damC d)) [] := by
  refine con_of tabOK mixed ⟨17, [0,1,2,3,4,5,6,7,8,9,10,11,12,13,14,15,16], [], []⟩ rfl (by decide) rfl rfl rfl rfl ?_
  conv => whnf
  exact out0 rfl ⟨rfl, rfl, rfl, rfl, rfl⟩

theorem c_toSoil (s : Soil) : Con Try.prog 71 [.agg (soilC s)] (.agg (soilC s)) [] := by
  refine con_of tabOK mixed ⟨20, [0,1,2,3,4,5,6,7,8,9,10,11,12,13,14,15,16,17,18,19], [], []⟩ rfl (by decide) rfl rfl rfl rfl ?_
  conv => whnf
  exact out0 rfl ⟨rfl, rfl, rfl, rfl, rfl, rfl⟩

theorem c_toSection (s : Sect) : Con Try.prog 72 [.agg (sectC s)] (.agg (sectC s)) [] := by
  refine con_of tabOK mixed ⟨17, [0,1,2,3,4,5,6,7,8,9,10,11,12,13,14,15,16], [], []⟩ rfl (by decide) rfl rfl rfl rfl ?_
  conv => whnf
  exact out0 rfl ⟨rfl, rfl, rfl, rfl, rfl⟩

theorem c_toInt64S (l : List (STy.S (i6))) (hl : l.length ≤ 1048576) : Con Try.prog 138 [.sl false (i6) l] (.own 0) [(0, .row 2 (i6) l)] := by
  refine con_of tabOK mixed ⟨22, [0,1,2,3,4,5,6,7,8,9,10,11,12,13,14,15,16,17,18,19,20,21], [], []⟩ rfl (by decide) rfl rfl rfl rfl ?_
  conv => whnf
  refine ⟨⟨rfl, by omega, by omega, by omega⟩, ?_⟩
  conv => whnf
  refine ⟨Nat, fun i => [(0, .sl false (i6) l), (3, .own 0), (4, .val (.int .i64 i))], fun i => [(0, .row 2 (i6) (l.take i ++ List.replicate (l.length - i) ((0 : Int))))], fun i => i ≤ l.length, fun i => l.length - i, 0, ?_, Nat.zero_le _, fun i hi => ?_⟩
  · refine ⟨[(0, 0)], rfl, rfl, ⟨⟨trivial, rfl⟩, rfl, rfl, trivial⟩, ⟨⟨rfl, ?_⟩, trivial⟩, rfl⟩
    show _ = _
    simp [zeroS, ByteArray.empty]
  conv => whnf
  refine ⟨fun h => ?_, fun h => ?_⟩
  · have hlt : i < l.length := lt_of_dec h
    conv => whnf
    refine idx hlt ?_
    conv => whnf
    refine ⟨⟨by omega, by simp; omega⟩, ?_⟩
    conv => whnf
    refine ⟨(0 : Int), get_mid hlt, ?_⟩
    conv => whnf
    refine ⟨i + 1, ⟨[(0, 0)], rfl, rfl, ⟨⟨trivial, rfl⟩, rfl, ?_, trivial⟩, ⟨⟨rfl, ?_⟩, trivial⟩, rfl⟩, hlt, ?_⟩
    · show _ = _
      rw [wrap_succ hlt (by unfold maxLen; omega)]
    · show _ = _
      simp only [Int.toNat_natCast]
      exact congrArg (fun x => Cont.row 2 (i6) x) (set_mid hlt)
    · show l.length - (i + 1) < l.length - i
      omega
  · have hlt : i = l.length := Nat.le_antisymm hi (ge_of_dec h)
    conv => whnf
    refine ⟨rfl, [(0, 0)], rfl, rfl, ⟨rfl, trivial⟩, ⟨⟨rfl, ?_⟩, trivial⟩, rfl⟩
    show _ = _
    subst hlt
    simp

theorem c_toDamS (l : List (STy.S (damT))) (hl : l.length ≤ 1048576) : Con Try.prog 139 [.sl false (damT) l] (.own 0) [(0, .row 87 (damT) l)] := by
  refine con_of tabOK mixed ⟨23, [0,1,2,3,4,5,6,7,8,9,10,11,12,13,14,15,16,17,18,19,20,21,22], [], []⟩ rfl (by decide) rfl rfl rfl rfl ?_
  conv => whnf
  refine ⟨⟨rfl, by omega, by omega, by omega⟩, ?_⟩
  conv => whnf
  refine ⟨Nat, fun i => [(0, .sl false (damT) l), (3, .own 0), (4, .val (.int .i64 i))], fun i => [(0, .row 87 (damT) (l.take i ++ List.replicate (l.length - i) (((0, 0, 0, 0) : Dam))))], fun i => i ≤ l.length, fun i => l.length - i, 0, ?_, Nat.zero_le _, fun i hi => ?_⟩
  · refine ⟨[(0, 0)], rfl, rfl, ⟨⟨trivial, rfl⟩, rfl, rfl, trivial⟩, ⟨⟨rfl, ?_⟩, trivial⟩, rfl⟩
    show _ = _
    simp [zeroS, ByteArray.empty]
  conv => whnf
  refine ⟨fun h => ?_, fun h => ?_⟩
  · have hlt : i < l.length := lt_of_dec h
    conv => whnf
    refine idx hlt ?_
    conv => whnf
    refine .inl ⟨_, _, c_toDam l[i], rfl, ?_⟩
    conv => whnf
    refine ⟨⟨by omega, by simp; omega⟩, ?_⟩
    conv => whnf
    refine ⟨((0, 0, 0, 0) : Dam), get_mid hlt, ?_⟩
    conv => whnf
    refine ⟨i + 1, ⟨[(0, 0)], rfl, rfl, ⟨⟨trivial, rfl⟩, rfl, ?_, trivial⟩, ⟨⟨rfl, ?_⟩, trivial⟩, rfl⟩, hlt, ?_⟩
    · show _ = _
      rw [wrap_succ hlt (by unfold maxLen; omega)]
    · show _ = _
      simp only [Int.toNat_natCast]
      exact congrArg (fun x => Cont.row 87 (damT) x) (set_mid hlt)
    · show l.length - (i + 1) < l.length - i
      omega
  · have hlt : i = l.length := Nat.le_antisymm hi (ge_of_dec h)
    conv => whnf
    refine ⟨rfl, [(0, 0)], rfl, rfl, ⟨rfl, trivial⟩, ⟨⟨rfl, ?_⟩, trivial⟩, rfl⟩
    show _ = _
    subst hlt
    simp

theorem c_toHill (h : Hill) (hl : h.2.2.length ≤ 1048576) : Con Try.prog 70 [.agg (hillC h)] (.agg [iv h.1, iv h.2.1, .own 0]) [(0, .row 25 (f3) h.2.2)] := by
  refine con_of tabOK mixed ⟨15, [0,1,2,3,4,5,6,7,8,9,10,11,12,13,14], [], []⟩ rfl (by decide) rfl rfl rfl rfl ?_
  conv => whnf
  refine .inl ⟨.own 2, [(2, .row 25 (f3) h.2.2)], (c_toFloat32S h.2.2 (by omega)).less [(0, 2)] rfl rfl rfl ⟨⟨rfl, rfl⟩, trivial⟩ rfl, rfl, ?_⟩
  conv => whnf
  exact ⟨rfl, [(2, 0)], rfl, rfl, ⟨⟨rfl, rfl, rfl, rfl⟩, trivial⟩, ⟨⟨rfl, rfl⟩, trivial⟩, rfl⟩

theorem c_toRiver (r : River) (h1 : r.1.length ≤ 1048576) (h2 : r.2.1.length ≤ 1048576) (h3 : r.2.2.length ≤ 1048576) : Con Try.prog 73 [.agg (riverC r)] (.agg [.own 0, .own 1, .own 2]) [(0, .row 2 (i6) r.1), (1, .row 87 (damT) r.2.1), (2, .row 2 (i6) r.2.2)] := by
  refine con_of tabOK mixed ⟨17, [0,1,2,3,4,5,6,7,8,9,10,11,12,13,14,15,16], [], []⟩ rfl (by decide) rfl rfl rfl rfl ?_
  conv => whnf
  refine .inl ⟨.own 2, [(2, .row 2 (i6) r.1)], (c_toInt64S r.1 h1).less [(0, 2)] rfl rfl rfl ⟨⟨rfl, rfl⟩, trivial⟩ rfl, rfl, ?_⟩
  conv => whnf
  refine .inl ⟨.own 3, [(3, .row 87 (damT) r.2.1)], (c_toDamS r.2.1 h2).less [(0, 3)] rfl rfl rfl ⟨⟨rfl, rfl⟩, trivial⟩ rfl, rfl, ?_⟩
  conv => whnf
  refine .inl ⟨.own 4, [(4, .row 2 (i6) r.2.2)], (c_toInt64S r.2.2 h3).less [(0, 4)] rfl rfl rfl ⟨⟨rfl, rfl⟩, trivial⟩ rfl, rfl, ?_⟩
  conv => whnf
  exact ⟨rfl, [(2, 0), (3, 1), (4, 2)], rfl, rfl, ⟨⟨rfl, rfl, rfl, rfl⟩, trivial⟩, ⟨⟨rfl, rfl⟩, ⟨rfl, rfl⟩, ⟨rfl, rfl⟩, trivial⟩, rfl⟩

/-- A desk of so many. -/
structure Small (d : Desk) : Prop where
  hill : d.1.2.2.length ≤ 1048576
  downs : d.2.2.2.1.length ≤ 1048576
  dams : d.2.2.2.2.1.length ≤ 1048576
  wants : d.2.2.2.2.2.length ≤ 1048576
abbrev deskO (d : Desk) (a b c e : Nat) : List AV := [iv d.1.1, iv d.1.2.1, .own a] ++ soilC d.2.1 ++ sectC d.2.2.1 ++ [.own b, .own c, .own e]
abbrev deskH (d : Desk) (a b c e : Nat) : Heap := [(a, .row 25 (f3) d.1.2.2), (b, .row 2 (i6) d.2.2.2.1), (c, .row 87 (damT) d.2.2.2.2.1), (e, .row 2 (i6) d.2.2.2.2.2)]
abbrev deskF (d : Desk) : List AV := [iv d.1.1, iv d.1.2.1, .sl true f3 d.1.2.2] ++ soilC d.2.1 ++ sectC d.2.2.1 ++ [.sl true i6 d.2.2.2.1, .sl true damT d.2.2.2.2.1, .sl true i6 d.2.2.2.2.2]

theorem c_toDesk (d : Desk) (hd : Small d) : Con Try.prog 16 [.agg (deskC d)] (.agg (deskO d 0 1 2 3)) (deskH d 0 1 2 3) := by
  refine con_of tabOK mixed ⟨21, [0,1,2,3,4,5,6,7,8,9,10,11,12,13,14,15,16,17,18,19,20], [], []⟩ rfl (by decide) rfl rfl rfl rfl ?_
  conv => whnf
  refine .inl ⟨.agg [iv d.1.1, iv d.1.2.1, .own 2], [(2, .row 25 (f3) d.1.2.2)], (c_toHill d.1 hd.hill).less [(0, 2)] rfl rfl ⟨rfl, rfl, rfl, rfl⟩ ⟨⟨rfl, rfl⟩, trivial⟩ rfl, rfl, ?_⟩
  conv => whnf
  refine .inl ⟨_, _, c_toSoil d.2.1, rfl, ?_⟩
  conv => whnf
  refine .inl ⟨_, _, c_toSection d.2.2.1, rfl, ?_⟩
  conv => whnf
  refine .inl ⟨.agg [.own 3, .own 4, .own 5], [(3, .row 2 (i6) d.2.2.2.1), (4, .row 87 (damT) d.2.2.2.2.1), (5, .row 2 (i6) d.2.2.2.2.2)], (c_toRiver d.2.2.2 hd.downs hd.dams hd.wants).less [(0, 3), (1, 4), (2, 5)] rfl rfl ⟨rfl, rfl, rfl, rfl⟩ ⟨⟨rfl, rfl⟩, ⟨rfl, rfl⟩, ⟨rfl, rfl⟩, trivial⟩ rfl, rfl, ?_⟩
  conv => whnf
  exact ⟨rfl, [(2, 0), (3, 1), (4, 2), (5, 3)], rfl, rfl, ⟨⟨rfl, rfl, rfl, rfl, rfl, rfl, rfl, rfl, rfl, rfl, rfl, rfl, rfl, rfl, rfl, rfl⟩, trivial⟩, ⟨⟨rfl, rfl⟩, ⟨rfl, rfl⟩, ⟨rfl, rfl⟩, ⟨rfl, rfl⟩, trivial⟩, rfl⟩

theorem c_toDeskF (d : Desk) (hd : Small d) : Con Try.prog 16 [.agg (deskC d)] (.agg (deskF d)) [] :=
  (c_toDesk d hd).less [] rfl rfl ⟨rfl, rfl, ⟨rfl, _, rfl⟩, rfl, rfl, rfl, rfl, rfl, rfl, rfl, rfl, rfl, ⟨rfl, _, rfl⟩, ⟨rfl, _, rfl⟩, ⟨rfl, _, rfl⟩, rfl⟩ trivial rfl
end Go.R

/- Merging, whole. -/
import Derived.Test.YthdbngkbjhpnfaaAb
import Derived.Test.YthdbngkbjhpnfaaVf
set_option linter.unusedVariables false
set_option linter.unusedSimpArgs false
set_option linter.unnecessarySimpa false
open Go Go.V Go.Proofs
namespace Go.R
set_option maxRecDepth 100000

theorem half_eq {n : Nat} {z : Int} (h : z = (n : Int)) (h1 : n ≤ 1048576 * 4) :
    IntKind.i64.wrap ((IntKind.u64.wrap z).fdiv (2 ^ min (1 : Int).toNat IntKind.u64.bits)) = ((n / 2 : Nat) : Int) := by
  subst h
  rw [wrap_u64 (by omega) (by omega), show (2 : Int) ^ min (1 : Int).toNat IntKind.u64.bits = 2 from rfl, Int.fdiv_eq_ediv_of_nonneg _ (by decide)]
  rw [wrap_nat'] <;> omega

theorem key_mono {key : Int → Int} {Y : List Int} (h : Srt key Y) {i j : Nat} (hij : i ≤ j) (hj : j < Y.length) : key (Y.getD i 0) ≤ key (Y.getD j 0) := by
  have hi : i < Y.length := by omega
  rcases Nat.lt_or_ge i j with hlt | hge
  · have := List.pairwise_iff_getElem.1 h i j hi hj hlt
    have := leB_key this
    simpa [hi, hj] using this
  · have : i = j := by omega
    subst this; exact Int.le_refl _

theorem getD_mid (P Y Q : List Int) {i : Nat} (h : i < Y.length) : (P ++ Y ++ Q)[((P.length + i : Nat) : Int).toNat]? = some (Y.getD i 0) := by
  rw [Int.toNat_natCast, List.append_assoc, List.getElem?_append_right (by omega), show P.length + i - P.length = i by omega, List.getElem?_append_left h]
  simp [h]

/-- The first part is one element. -/
theorem c_merge1 (l : List Nat) (key : Int → Int) (hkey : Keyed l key) (d P Y Q : List Int) (x : Int) (hd0 : d = P ++ x :: (Y ++ Q)) (hd : d.length ≤ 1048576) (hv : ∀ z ∈ d, inL l z) (hY : Srt key Y) (hc : ∀ y ∈ Y, x < y) :
    ConW Try.prog 45 [.own 0, .val (.int .i64 P.length), .val (.int .i64 (P.length + 1 : Nat)), .val (.int .i64 (P.length + 1 + Y.length : Nat)), cl l] [(0, .row 2 (.int .i64) d)] (.tup [])
      [(0, .row 2 (.int .i64) (P ++ srt key (x :: Y) ++ Q))] := by
  have hdl : P.length + 1 + Y.length + Q.length = d.length := by rw [hd0]; simp; omega
  refine conW_of tabOK mixed ⟨220, [0,1,2,3,4,10,11,12,13,28,33,50,58], [], [.own 0]⟩ rfl (by decide) rfl rfl rfl rfl rfl ?_
  have e1 : IntKind.i64.wrap (((P.length + 1 : Nat) : Int) - (P.length : Int)) = 1 := by rw [wrap_nat' (n := 1)] <;> omega
  conv => whnf
  refine ⟨fun h => ?_, fun h => ?_⟩
  case refine_2 => rw [e1] at h; cases h
  conv => whnf
  -- where it belongs
  have hxl : inL l x := hv x (by rw [hd0]; simp)
  have hyl : ∀ y ∈ Y, inL l y := fun y hy => hv y (by rw [hd0]; simp [hy])
  refine ⟨Nat × Nat, fun q => [(0, .own 0), (1, .val (.int .i64 P.length)), (4, cl l), (10, .val (.int .i64 (P.length + 1 + q.1 : Nat))), (11, .val (.int .i64 (P.length + 1 + q.2 : Nat)))], fun _ => [(0, .row 2 (.int .i64) d)],
    fun q => q.1 ≤ q.2 ∧ q.2 ≤ Y.length ∧ (∀ k, k < q.1 → key (Y.getD k 0) < key x) ∧ (∀ k, q.2 ≤ k → k < Y.length → ¬ key (Y.getD k 0) < key x), fun q => q.2 - q.1, (0, Y.length), ?_, ⟨Nat.zero_le _, Nat.le_refl _, fun k h => by omega, fun k h1 h2 => by omega⟩, fun q hq => ?_⟩
  · exact ⟨[(0, 0)], rfl, rfl, ⟨rfl, rfl, ⟨rfl, ⟨⟨trivial, rfl⟩, rfl⟩, rfl⟩, rfl, rfl, trivial⟩, ⟨⟨rfl, rfl⟩, trivial⟩, rfl, rfl⟩
  obtain ⟨i, j⟩ := q
  obtain ⟨hij, hj, hlo, hhi⟩ := hq
  dsimp only at hij hj hlo hhi
  conv => whnf
  dsimp only
  refine ⟨fun h => ?_, fun h => ?_⟩
  · have hlt : i < j := by have := of_decide_eq_true h; omega
    have e2 : IntKind.i64.wrap (((P.length + 1 + i : Nat) : Int) + ((P.length + 1 + j : Nat) : Int)) = ((P.length + 1 + i + (P.length + 1 + j) : Nat) : Int) := wrap_nat' (by omega) (by omega)
    obtain ⟨m, hm⟩ : ∃ m, m = (i + j) / 2 := ⟨_, rfl⟩
    have e3 : IntKind.i64.wrap ((IntKind.u64.wrap ((P.length + 1 + i + (P.length + 1 + j) : Nat) : Int)).fdiv (2 ^ min (1 : Int).toNat IntKind.u64.bits)) = ((P.length + 1 + m : Nat) : Int) := by
      rw [half_eq rfl (by omega), hm]; congr 1; omega
    have hmY : m < Y.length := by omega
    have hml : inL l (Y.getD m 0) := hyl _ (by
      have : Y.getD m 0 = Y[m] := by simp [hmY]
      rw [this]; exact List.getElem_mem hmY)
    have g1 : d[((P.length + 1 + m : Nat) : Int).toNat]? = some (Y.getD m 0) := by
      rw [hd0, show P ++ x :: (Y ++ Q) = (P ++ [x]) ++ Y ++ Q by simp, show P.length + 1 + m = (P ++ [x]).length + m by simp]
      exact getD_mid _ _ _ hmY
    have g0 : d[((P.length : Nat) : Int).toNat]? = some x := by
      rw [hd0, Int.toNat_natCast, List.getElem?_append_right (Nat.le_refl _)]; simp
    conv => whnf
    refine ⟨by decide, ?_⟩
    conv => whnf
    refine ⟨by decide +kernel, ?_⟩
    conv => whnf
    simp only [e2, e3]
    refine ⟨⟨by omega, by omega⟩, ?_⟩
    conv => whnf
    refine ⟨_, g1, ?_⟩
    conv => whnf
    refine ⟨⟨by omega, by omega⟩, ?_⟩
    conv => whnf
    refine ⟨x, g0, ?_⟩
    conv => whnf
    refine ⟨_, c_ranked1 l _ x hml hxl, ?_⟩
    conv => whnf
    refine ⟨fun h2 => ?_, fun h2 => ?_⟩
    · have hk := (hkey.cmp _ x hml hxl).1 (of_decide_eq_true h2)
      have e4 : IntKind.i64.wrap (((P.length + 1 + m : Nat) : Int) + 1) = ((P.length + 1 + (m + 1) : Nat) : Int) := wrap_nat' (by omega) (by omega)
      conv => whnf
      try simp only [e2, e3, e4]
      refine ⟨(m + 1, j), ⟨[(0, 0)], rfl, rfl, ⟨rfl, rfl, ⟨rfl, ⟨⟨trivial, rfl⟩, rfl⟩, rfl⟩, ?_, rfl, trivial⟩, ⟨⟨rfl, rfl⟩, trivial⟩, rfl, rfl⟩, ⟨?_, hj, ?_, hhi⟩, ?_⟩
      · show _ = _
        first | rfl | rw [e4]
      · dsimp only; omega
      · intro k hk2
        have := key_mono hY (i := k) (j := m) (by dsimp only at hk2; omega) hmY
        omega
      · dsimp only; omega
    · have hk : ¬ key (Y.getD m 0) < key x := fun hk => of_decide_eq_false h2 ((hkey.cmp _ x hml hxl).2 hk)
      conv => whnf
      try simp only [e2, e3]
      refine ⟨(i, m), ⟨[(0, 0)], rfl, rfl, ⟨rfl, rfl, ⟨rfl, ⟨⟨trivial, rfl⟩, rfl⟩, rfl⟩, rfl, ?_, trivial⟩, ⟨⟨rfl, rfl⟩, trivial⟩, rfl, rfl⟩, ⟨?_, ?_, hlo, ?_⟩, ?_⟩
      · show _ = _
        first | rfl | rw [e2, e3]
      · dsimp only; omega
      · dsimp only; omega
      · intro k hk1 hk2
        have := key_mono hY (i := m) (j := k) hk1 hk2
        omega
      · dsimp only; omega
  · have hji : i = j := by have := of_decide_eq_false h; omega
    subst hji
    conv => whnf
    -- it is carried there
    refine ⟨List Int × List Int, fun q => [(0, .own 0), (10, .val (.int .i64 (P.length + 1 + i : Nat))), (13, .val (.int .i64 (P.length + q.1.length : Nat)))], fun q => [(0, .row 2 (.int .i64) ((P ++ q.1) ++ x :: (q.2 ++ Q)))],
      fun q => q.1 ++ q.2 = Y ∧ q.1.length ≤ i, fun q => i - q.1.length, ([], Y), ?_, ⟨rfl, Nat.zero_le _⟩, fun q hq => ?_⟩
    · refine ⟨[(0, 0)], rfl, rfl, ⟨rfl, rfl, rfl, trivial⟩, ⟨⟨rfl, ?_⟩, trivial⟩, rfl, rfl⟩
      show _ = _
      rw [hd0]; simp
    obtain ⟨Y1, Y2⟩ := q
    obtain ⟨h1, h2⟩ := hq
    dsimp only at h1 h2
    have e5 : IntKind.i64.wrap (((P.length + 1 + i : Nat) : Int) - 1) = ((P.length + i : Nat) : Int) := wrap_nat' (by omega) (by omega)
    have hYl : Y1.length + Y2.length = Y.length := by rw [← h1, List.length_append]
    conv => whnf
    dsimp only
    simp only [e5]
    refine ⟨fun h => ?_, fun h => ?_⟩
    · have hlt : Y1.length < i := by have := of_decide_eq_true h; omega
      cases Y2 with
      | nil => simp at hYl; omega
      | cons y Y2' =>
      obtain ⟨A, hA⟩ : ∃ A, A = P ++ Y1 := ⟨_, rfl⟩
      obtain ⟨B, hB⟩ : ∃ B, B = Y2' ++ Q := ⟨_, rfl⟩
      have hp : A.length = P.length + Y1.length := by rw [hA, List.length_append]
      have hYl' : Y1.length + (Y2'.length + 1) = Y.length := by simpa using hYl
      have hBl : B.length = Y2'.length + Q.length := by rw [hB, List.length_append]
      have hLe : P ++ Y1 ++ x :: (y :: Y2' ++ Q) = A ++ x :: y :: B := by rw [hA, hB]; simp
      have hlen' : ((A ++ x :: y :: B).length : Int) = A.length + 2 + B.length := by simp; omega
      have hl2 : ((A ++ y :: y :: B).length : Int) = A.length + 2 + B.length := by simp; omega
      have g1 : (A ++ x :: y :: B)[((A.length + 1 : Nat) : Int).toNat]? = some y := by
        rw [Int.toNat_natCast, List.getElem?_append_right (by omega)]; simp
      have g0 : (A ++ x :: y :: B)[((A.length : Nat) : Int).toNat]? = some x := by
        rw [Int.toNat_natCast, List.getElem?_append_right (by omega)]; simp
      have s1 : (A ++ x :: y :: B).set (((A.length : Nat) : Int).toNat) y = A ++ y :: y :: B := by rw [Int.toNat_natCast, set_app]
      have g2 : (A ++ y :: y :: B)[((A.length + 1 : Nat) : Int).toNat]? = some y := by
        rw [Int.toNat_natCast, List.getElem?_append_right (by omega)]; simp
      have s2 : (A ++ y :: y :: B).set (((A.length + 1 : Nat) : Int).toNat) x = A ++ y :: x :: B := by
        rw [Int.toNat_natCast, show A ++ y :: y :: B = (A ++ [y]) ++ y :: B by simp, show A.length + 1 = (A ++ [y]).length by simp, set_app]; simp
      have e6 : IntKind.i64.wrap (((A.length : Nat) : Int) + 1) = ((A.length + 1 : Nat) : Int) := wrap_nat' (by omega) (by omega)
      conv => whnf
      simp only [hLe, ← hp]
      refine ⟨by decide +kernel, ?_⟩
      conv => whnf
      try simp only [hLe, ← hp, e6]
      refine ⟨⟨by omega, by omega⟩, ?_⟩
      conv => whnf
      refine ⟨y, g1, ?_⟩
      conv => whnf
      try simp only [e6]
      refine ⟨⟨by omega, by omega⟩, ?_⟩
      conv => whnf
      refine ⟨x, g0, ?_⟩
      conv => whnf
      try simp only [e6]
      refine ⟨⟨by omega, by omega⟩, ?_⟩
      conv => whnf
      refine ⟨x, g0, ?_⟩
      conv => whnf
      try simp only [e6, s1]
      refine ⟨⟨by omega, by omega⟩, ?_⟩
      conv => whnf
      refine ⟨y, g2, ?_⟩
      conv => whnf
      try simp only [e6, s2]
      refine ⟨(Y1 ++ [y], Y2'), ⟨[(0, 0)], rfl, rfl, ⟨rfl, rfl, ?_, trivial⟩, ⟨⟨rfl, ?_⟩, trivial⟩, rfl, rfl⟩, ⟨?_, ?_⟩, ?_⟩
      · show _ = _
        first
          | (rw [e6, hp, List.length_append]; rfl)
          | (rw [hp, List.length_append]; rfl)
      · show _ = _
        rw [hA, hB]; simp
      · rw [← h1]; simp
      · dsimp only; rw [List.length_append]; simp; omega
      · dsimp only; rw [List.length_append]; simp; omega
    · have hlt : Y1.length = i := by have := of_decide_eq_false h; omega
      conv => whnf
      refine ⟨rfl, [(0, 0)], rfl, rfl, ⟨rfl, trivial⟩, ⟨⟨rfl, ?_⟩, trivial⟩, rfl, rfl⟩
      show _ = _
      have hfin : Y1 ++ x :: Y2 = srt key (x :: Y) := by
        refine srt_uniq (ins_srt (by rw [h1]; exact hY) (fun y hy => ?_) (fun y hy => ?_)) ?_
        · obtain ⟨n, hn, rfl⟩ := List.mem_iff_getElem.1 hy
          have hk : ¬ key (Y.getD (i + n) 0) < key x := hhi (i + n) (by omega) (by omega)
          have : Y.getD (i + n) 0 = Y2[n] := by rw [← h1, ← hlt]; simp [hn]
          rw [this] at hk
          exact leB_of (by omega) (hc _ (by rw [← h1]; simp))
        · have hne : Y1.length ≠ 0 := fun h0 => by rw [List.eq_nil_of_length_eq_zero h0] at hy; simp at hy
          have hk := hlo (i - 1) (by omega)
          have : Y.getD (i - 1) 0 = y := by
            rw [List.getLast?_eq_getElem?] at hy
            rw [← h1, ← hlt]
            simp only [List.getD_eq_getElem?_getD, List.getElem?_append_left (show Y1.length - 1 < Y1.length by omega), hy, Option.getD_some]
          rw [this] at hk
          exact leB_lt hk
        · rw [← h1]; exact List.perm_middle
      rw [← hfin]; simp
end Go.R

open Go Go.V Go.Proofs
namespace Go.R
set_option maxRecDepth 100000

theorem c_merge2 (l : List Nat) (key : Int → Int) (hkey : Keyed l key) (d P X Q : List Int) (y : Int) (hd0 : d = P ++ X ++ y :: Q) (hd : d.length ≤ 1048576) (hv : ∀ z ∈ d, inL l z) (hX : Srt key X) (hX1 : X.length ≠ 1) (hc : ∀ x ∈ X, x < y) :
    ConW Try.prog 45 [.own 0, .val (.int .i64 P.length), .val (.int .i64 (P.length + X.length : Nat)), .val (.int .i64 (P.length + X.length + 1 : Nat)), cl l] [(0, .row 2 (.int .i64) d)] (.tup [])
      [(0, .row 2 (.int .i64) (P ++ srt key (X ++ [y]) ++ Q))] := by
  have hdl : P.length + X.length + 1 + Q.length = d.length := by rw [hd0]; simp; omega
  refine conW_of tabOK mixed ⟨220, [0,1,2,3,4,14,15,16,17,28,80,85,103,110], [], [.own 0]⟩ rfl (by decide) rfl rfl rfl rfl rfl ?_
  have e1 : IntKind.i64.wrap (((P.length + X.length : Nat) : Int) - (P.length : Int)) = ((X.length : Nat) : Int) := wrap_nat' (by omega) (by omega)
  have e1' : IntKind.i64.wrap (((P.length + X.length + 1 : Nat) : Int) - ((P.length + X.length : Nat) : Int)) = ((1 : Nat) : Int) := wrap_nat' (by omega) (by omega)
  conv => whnf
  simp only [e1]
  refine ⟨fun h => ?_, fun h => ?_⟩
  · have := of_decide_eq_true h; omega
  conv => whnf
  simp only [e1']
  refine ⟨fun h => ?_, fun h => ?_⟩
  case refine_2 => cases h
  conv => whnf
  have hyl : inL l y := hv y (by rw [hd0]; simp)
  have hxl : ∀ x ∈ X, inL l x := fun x hx => hv x (by rw [hd0]; simp [hx])
  refine ⟨Nat × Nat, fun q => [(0, .own 0), (2, .val (.int .i64 (P.length + X.length : Nat))), (4, cl l), (14, .val (.int .i64 (P.length + q.1 : Nat))), (15, .val (.int .i64 (P.length + q.2 : Nat)))], fun _ => [(0, .row 2 (.int .i64) d)],
    fun q => q.1 ≤ q.2 ∧ q.2 ≤ X.length ∧ (∀ k, k < q.1 → ¬ key y < key (X.getD k 0)) ∧ (∀ k, q.2 ≤ k → k < X.length → key y < key (X.getD k 0)), fun q => q.2 - q.1, (0, X.length), ?_, ⟨Nat.zero_le _, Nat.le_refl _, fun k h => by omega, fun k h1 h2 => by omega⟩, fun q hq => ?_⟩
  · exact ⟨[(0, 0)], rfl, rfl, ⟨rfl, rfl, ⟨rfl, ⟨⟨trivial, rfl⟩, rfl⟩, rfl⟩, rfl, rfl, trivial⟩, ⟨⟨rfl, rfl⟩, trivial⟩, rfl, rfl⟩
  obtain ⟨i, j⟩ := q
  obtain ⟨hij, hj, hlo, hhi⟩ := hq
  dsimp only at hij hj hlo hhi
  conv => whnf
  dsimp only
  refine ⟨fun h => ?_, fun h => ?_⟩
  · have hlt : i < j := by have := of_decide_eq_true h; omega
    have e2 : IntKind.i64.wrap (((P.length + i : Nat) : Int) + ((P.length + j : Nat) : Int)) = ((P.length + i + (P.length + j) : Nat) : Int) := wrap_nat' (by omega) (by omega)
    obtain ⟨m, hm⟩ : ∃ m, m = (i + j) / 2 := ⟨_, rfl⟩
    have e3 : IntKind.i64.wrap ((IntKind.u64.wrap ((P.length + i + (P.length + j) : Nat) : Int)).fdiv (2 ^ min (1 : Int).toNat IntKind.u64.bits)) = ((P.length + m : Nat) : Int) := by
      rw [half_eq rfl (by omega), hm]; congr 1; omega
    have hmX : m < X.length := by omega
    have hml : inL l (X.getD m 0) := hxl _ (by
      have : X.getD m 0 = X[m] := by simp [hmX]
      rw [this]; exact List.getElem_mem hmX)
    have g1 : d[((P.length + m : Nat) : Int).toNat]? = some (X.getD m 0) := by
      rw [hd0]; exact getD_mid _ _ _ hmX
    have g0 : d[((P.length + X.length : Nat) : Int).toNat]? = some y := by
      rw [hd0, Int.toNat_natCast, show P.length + X.length = (P ++ X).length by simp, List.getElem?_append_right (Nat.le_refl _)]; simp
    conv => whnf
    refine ⟨by decide, ?_⟩
    conv => whnf
    refine ⟨by decide +kernel, ?_⟩
    conv => whnf
    simp only [e2, e3]
    refine ⟨⟨by omega, by omega⟩, ?_⟩
    conv => whnf
    refine ⟨_, g0, ?_⟩
    conv => whnf
    try simp only [e2, e3]
    refine ⟨⟨by omega, by omega⟩, ?_⟩
    conv => whnf
    refine ⟨_, g1, ?_⟩
    conv => whnf
    refine ⟨_, c_ranked1 l y _ hyl hml, ?_⟩
    conv => whnf
    refine ⟨fun h2 => ?_, fun h2 => ?_⟩
    · have hk : ¬ key y < key (X.getD m 0) := fun hk => by
        have := (hkey.cmp _ _ hyl hml).2 hk
        rw [decide_eq_true this] at h2; cases h2
      have e4 : IntKind.i64.wrap (((P.length + m : Nat) : Int) + 1) = ((P.length + (m + 1) : Nat) : Int) := wrap_nat' (by omega) (by omega)
      conv => whnf
      try simp only [e2, e3, e4]
      refine ⟨(m + 1, j), ⟨[(0, 0)], rfl, rfl, ⟨rfl, rfl, ⟨rfl, ⟨⟨trivial, rfl⟩, rfl⟩, rfl⟩, ?_, rfl, trivial⟩, ⟨⟨rfl, rfl⟩, trivial⟩, rfl, rfl⟩, ⟨?_, hj, ?_, hhi⟩, ?_⟩
      · show _ = _
        first | rfl | rw [e4]
      · dsimp only; omega
      · intro k hk2
        have := key_mono hX (i := k) (j := m) (by dsimp only at hk2; omega) hmX
        omega
      · dsimp only; omega
    · have hk : key y < key (X.getD m 0) := by
        by_cases hk : cmpV l y (X.getD m 0) < 0
        · exact (hkey.cmp _ _ hyl hml).1 hk
        · rw [decide_eq_false hk] at h2; cases h2
      conv => whnf
      try simp only [e2, e3]
      refine ⟨(i, m), ⟨[(0, 0)], rfl, rfl, ⟨rfl, rfl, ⟨rfl, ⟨⟨trivial, rfl⟩, rfl⟩, rfl⟩, rfl, ?_, trivial⟩, ⟨⟨rfl, rfl⟩, trivial⟩, rfl, rfl⟩, ⟨?_, ?_, hlo, ?_⟩, ?_⟩
      · show _ = _
        first | rfl | rw [e2, e3]
      · dsimp only; omega
      · dsimp only; omega
      · intro k hk1 hk2
        have := key_mono hX (i := m) (j := k) hk1 hk2
        omega
      · dsimp only; omega
  · have hji : i = j := by have := of_decide_eq_false h; omega
    subst hji
    conv => whnf
    refine ⟨List Int × List Int, fun q => [(0, .own 0), (14, .val (.int .i64 (P.length + i : Nat))), (17, .val (.int .i64 (P.length + q.1.length : Nat)))], fun q => [(0, .row 2 (.int .i64) ((P ++ q.1) ++ y :: (q.2 ++ Q)))],
      fun q => q.1 ++ q.2 = X ∧ i ≤ q.1.length, fun q => q.1.length, (X, []), ?_, ⟨by simp, hj⟩, fun q hq => ?_⟩
    · refine ⟨[(0, 0)], rfl, rfl, ⟨rfl, rfl, rfl, trivial⟩, ⟨⟨rfl, ?_⟩, trivial⟩, rfl, rfl⟩
      show _ = _
      rw [hd0]; simp
    obtain ⟨X1, X2⟩ := q
    obtain ⟨h1, h2⟩ := hq
    dsimp only at h1 h2
    have hXl : X1.length + X2.length = X.length := by rw [← h1, List.length_append]
    conv => whnf
    dsimp only
    refine ⟨fun h => ?_, fun h => ?_⟩
    · have hlt : i < X1.length := by have := of_decide_eq_true h; omega
      rcases List.eq_nil_or_concat X1 with rfl | ⟨X1', x, rfl⟩
      · simp at hlt
      rw [List.concat_eq_append] at *
      obtain ⟨A, hA⟩ : ∃ A, A = P ++ X1' := ⟨_, rfl⟩
      obtain ⟨B, hB⟩ : ∃ B, B = X2 ++ Q := ⟨_, rfl⟩
      have hp : A.length = P.length + X1'.length := by rw [hA, List.length_append]
      have hXl' : X1'.length + 1 + X2.length = X.length := by simpa using hXl
      have hBl : B.length = X2.length + Q.length := by rw [hB, List.length_append]
      have hjn : P.length + (X1' ++ [x]).length = A.length + 1 := by rw [hp, List.length_append]; simp; omega
      have hLe : P ++ (X1' ++ [x]) ++ y :: (X2 ++ Q) = A ++ x :: y :: B := by rw [hA, hB]; simp
      have hlen' : ((A ++ x :: y :: B).length : Int) = A.length + 2 + B.length := by simp; omega
      have hl2 : ((A ++ x :: x :: B).length : Int) = A.length + 2 + B.length := by simp; omega
      have g1 : (A ++ x :: y :: B)[((A.length + 1 : Nat) : Int).toNat]? = some y := by
        rw [Int.toNat_natCast, List.getElem?_append_right (by omega)]; simp
      have g0 : (A ++ x :: y :: B)[((A.length : Nat) : Int).toNat]? = some x := by
        rw [Int.toNat_natCast, List.getElem?_append_right (by omega)]; simp
      have s1 : (A ++ x :: y :: B).set (((A.length + 1 : Nat) : Int).toNat) x = A ++ x :: x :: B := by
        rw [Int.toNat_natCast, show A ++ x :: y :: B = (A ++ [x]) ++ y :: B by simp, show A.length + 1 = (A ++ [x]).length by simp, set_app]; simp
      have g2 : (A ++ x :: x :: B)[((A.length : Nat) : Int).toNat]? = some x := by
        rw [Int.toNat_natCast, List.getElem?_append_right (by omega)]; simp
      have s2 : (A ++ x :: x :: B).set (((A.length : Nat) : Int).toNat) y = A ++ y :: x :: B := by rw [Int.toNat_natCast, set_app]
      have e6 : IntKind.i64.wrap (((A.length + 1 : Nat) : Int) - 1) = ((A.length : Nat) : Int) := wrap_nat' (by omega) (by omega)
      conv => whnf
      simp only [hLe, hjn]
      refine ⟨by decide +kernel, ?_⟩
      conv => whnf
      try simp only [hLe, hjn, e6]
      refine ⟨⟨by omega, by omega⟩, ?_⟩
      conv => whnf
      refine ⟨x, g0, ?_⟩
      conv => whnf
      try simp only [e6]
      refine ⟨⟨by omega, by omega⟩, ?_⟩
      conv => whnf
      refine ⟨y, g1, ?_⟩
      conv => whnf
      try simp only [e6]
      refine ⟨⟨by omega, by omega⟩, ?_⟩
      conv => whnf
      refine ⟨y, g1, ?_⟩
      conv => whnf
      try simp only [e6, s1]
      refine ⟨⟨by omega, by omega⟩, ?_⟩
      conv => whnf
      refine ⟨x, g2, ?_⟩
      conv => whnf
      try simp only [e6, s2]
      refine ⟨(X1', x :: X2), ⟨[(0, 0)], rfl, rfl, ⟨rfl, rfl, ?_, trivial⟩, ⟨⟨rfl, ?_⟩, trivial⟩, rfl, rfl⟩, ⟨?_, ?_⟩, ?_⟩
      · show _ = _
        first
          | (rw [e6, hp]; done)
          | (rw [hp]; done)
      · show _ = _
        rw [hA, hB]; simp
      · rw [← h1]; simp
      · dsimp only; rw [List.length_append] at hlt; simp at hlt; omega
      · dsimp only; rw [List.length_append]; simp
    · have hlt : X1.length = i := by have := of_decide_eq_false h; omega
      conv => whnf
      refine ⟨rfl, [(0, 0)], rfl, rfl, ⟨rfl, trivial⟩, ⟨⟨rfl, ?_⟩, trivial⟩, rfl, rfl⟩
      show _ = _
      have hfin : X1 ++ y :: X2 = srt key (X ++ [y]) := by
        refine srt_uniq (ins_srt (by rw [h1]; exact hX) (fun x hx => ?_) (fun x hx => ?_)) ?_
        · obtain ⟨n, hn, rfl⟩ := List.mem_iff_getElem.1 hx
          have hk : key y < key (X.getD (i + n) 0) := hhi (i + n) (by omega) (by omega)
          have : X.getD (i + n) 0 = X2[n] := by rw [← h1, ← hlt]; simp [hn]
          rw [this] at hk
          exact leB_lt hk
        · have hne : X1.length ≠ 0 := fun h0 => by rw [List.eq_nil_of_length_eq_zero h0] at hx; simp at hx
          have hk := hlo (i - 1) (by omega)
          have hm : x ∈ X := by rw [← h1]; exact List.mem_append_left _ (List.mem_of_getLast? hx)
          have : X.getD (i - 1) 0 = x := by
            rw [List.getLast?_eq_getElem?] at hx
            rw [← h1, ← hlt]
            simp only [List.getD_eq_getElem?_getD, List.getElem?_append_left (show X1.length - 1 < X1.length by omega), hx, Option.getD_some]
          rw [this] at hk
          exact leB_of (by omega) (hc x hm)
        · rw [← h1]
          refine List.perm_middle.trans ?_
          exact (List.perm_append_singleton y (X1 ++ X2)).symm
      rw [← hfin]; simp
end Go.R

open Go Go.V Go.Proofs
namespace Go.R
set_option maxRecDepth 100000

/-- The contract of the merge. -/
abbrev MergeOk (l : List Nat) (key : Int → Int) (d P X Y Q : List Int) : Prop :=
    ConW Try.prog 45 [.own 0, .val (.int .i64 P.length), .val (.int .i64 (P.length + X.length : Nat)), .val (.int .i64 (P.length + X.length + Y.length : Nat)), cl l] [(0, .row 2 (.int .i64) d)] (.tup [])
      [(0, .row 2 (.int .i64) (P ++ srt key (X ++ Y) ++ Q))]

theorem vw {n : Nat} {z : Int} (h : z = (n : Int)) (h1 : n ≤ 1048576 * 4) : Value.int .i64 (IntKind.i64.wrap z) = Value.int .i64 (n : Int) := by rw [wrap_nat' h h1]
theorem vi {a b : Nat} (h : a = b) : Value.int .i64 (a : Int) = Value.int .i64 (b : Int) := by rw [h]
theorem vwi {n : Int} (h : IntKind.i64.wrap n = n) : Value.int .i64 (IntKind.i64.wrap n) = Value.int .i64 n := by rw [h]

/-- Where a search ends. -/
def Cut (key : Int → Int) (X Y X1 X2 Y1 Y2 : List Int) : Prop :=
  X = X1 ++ X2 ∧ Y = Y1 ++ Y2 ∧ X1.length + Y1.length = (X.length + Y.length) / 2 ∧
    (∀ x y, X1.getLast? = some x → Y2.head? = some y → ¬ key y < key x) ∧ (∀ y x, Y1.getLast? = some y → X2.head? = some x → key y < key x)

theorem cut_of {key : Int → Int} {X Y : List Int} {h s : Nat} (hh : h = (X.length + Y.length) / 2) (h1 : s ≤ X.length) (h2 : s ≤ h) (h3 : h - s ≤ Y.length)
    (h4 : 0 < s → h - s < Y.length → ¬ key (Y.getD (h - 1 - (s - 1)) 0) < key (X.getD (s - 1) 0)) (h5 : s < h → s < X.length → key (Y.getD (h - 1 - s) 0) < key (X.getD s 0)) :
    Cut key X Y (X.take s) (X.drop s) (Y.take (h - s)) (Y.drop (h - s)) := by
  refine ⟨(List.take_append_drop _ _).symm, (List.take_append_drop _ _).symm, ?_, fun x y hx hy => ?_, fun y x hy hx => ?_⟩
  · rw [List.length_take, List.length_take]; omega
  · have hs : 0 < s := by
      rcases Nat.eq_zero_or_pos s with e | e
      · subst e; simp at hx
      · exact e
    have hy' : h - s < Y.length := by
      rcases Nat.lt_or_ge (h - s) Y.length with e | e
      · exact e
      · rw [List.drop_eq_nil_of_le e] at hy; simp at hy
    have := h4 hs hy'
    have ex : X.getD (s - 1) 0 = x := by
      rw [List.getLast?_eq_getElem?, List.length_take, Nat.min_eq_left h1, List.getElem?_take_of_lt (by omega)] at hx
      rw [List.getD_eq_getElem?_getD, hx]; rfl
    have ey : Y.getD (h - 1 - (s - 1)) 0 = y := by
      rw [List.head?_drop] at hy
      rw [show h - 1 - (s - 1) = h - s by omega, List.getD_eq_getElem?_getD, hy]; rfl
    rw [ex, ey] at this
    exact this
  · have hs : s < h := by
      rcases Nat.lt_or_ge s h with e | e
      · exact e
      · rw [show h - s = 0 by omega] at hy; simp at hy
    have hx' : s < X.length := by
      rcases Nat.lt_or_ge s X.length with e | e
      · exact e
      · rw [List.drop_eq_nil_of_le e] at hx; simp at hx
    have := h5 hs hx'
    have ex : X.getD s 0 = x := by
      rw [List.head?_drop] at hx
      rw [List.getD_eq_getElem?_getD, hx]; rfl
    have ey : Y.getD (h - 1 - s) 0 = y := by
      rw [List.getLast?_eq_getElem?, List.length_take, Nat.min_eq_left h3, List.getElem?_take_of_lt (by omega)] at hy
      rw [show h - 1 - s = h - s - 1 by omega, List.getD_eq_getElem?_getD, hy]; rfl
    rw [ex, ey] at this
    exact this

section
variable {l : List Nat} {key : Int → Int} {d P X Y Q : List Int} {h : Nat}

/-- The last part: the second halves are merged. -/
theorem m_6 (hkey : Keyed l key) {X1 X2 Y1 Y2 : List Int} (cX : X = X1 ++ X2) (cY : Y = Y1 ++ Y2) (hdl : P.length + X.length + Y.length + Q.length ≤ 1048576)
    (hfin : srt key (X1 ++ Y1) ++ srt key (X2 ++ Y2) = srt key (X ++ Y)) (sX2 : Srt key X2) (sY2 : Srt key Y2)
    (ih : 0 < X2.length → 0 < Y2.length → MergeOk l key (P ++ srt key (X1 ++ Y1) ++ X2 ++ Y2 ++ Q) (P ++ srt key (X1 ++ Y1)) X2 Y2 Q) :
    SF Try.prog tab 220 [.own 0] 45 11 [(0, .own 0), (3, .val (.int .i64 (P.length + X1.length + Y1.length + X2.length + Y2.length : Nat))), (4, cl l), (18, .val (.int .i64 (P.length + X1.length + Y1.length : Nat))), (24, .val (.int .i64 (P.length + X1.length + Y1.length + X2.length : Nat)))] [(0, .row 2 (.int .i64) (P ++ srt key (X1 ++ Y1) ++ X2 ++ Y2 ++ Q))] (.tup []) [(0, .row 2 (.int .i64) (P ++ srt key (X ++ Y) ++ Q))] := by
  have lX : X.length = X1.length + X2.length := by rw [cX, List.length_append]
  have lY : Y.length = Y1.length + Y2.length := by rw [cY, List.length_append]
  have none : X2.length = 0 ∨ Y2.length = 0 → srt key (X2 ++ Y2) = X2 ++ Y2 := by
    intro h0
    rcases h0 with h0 | h0
    · rw [List.eq_nil_of_length_eq_zero h0, List.nil_append, srt_self sY2]
    · rw [List.eq_nil_of_length_eq_zero h0, List.append_nil, srt_self sX2]
  refine SF.last tabOK mixed 11 ⟨220, [0,3,4,18,24,213], [], [.own 0]⟩ ?_
  conv => whnf
  refine ⟨fun h1 => ?_, fun h1 => ?_⟩
  · have h1 := of_decide_eq_true h1
    conv => whnf
    refine ⟨fun h2 => ?_, fun h2 => ?_⟩
    · have h2 := of_decide_eq_true h2
      have hr := ih (by omega) (by omega)
      unfold MergeOk at hr
      simp only [List.length_append, srt_len, ← Nat.add_assoc] at hr
      conv => whnf
      refine .inr ⟨[(0, 0)], [(0, .row 2 (.int .i64) (P ++ srt key (X1 ++ Y1) ++ X2 ++ Y2 ++ Q))], .tup [], [(0, .row 2 (.int .i64) (P ++ srt key (X1 ++ Y1) ++ srt key (X2 ++ Y2) ++ Q))], [(0, 0)], .tup [], [(0, .row 2 (.int .i64) (P ++ srt key (X1 ++ Y1) ++ srt key (X2 ++ Y2) ++ Q))],
        ⟨rfl, rfl, rfl, ⟨⟨rfl, rfl⟩, trivial⟩⟩, hr, ⟨rfl, rfl, rfl, ⟨⟨rfl, rfl⟩, trivial⟩⟩, rfl, rfl, rfl, ?_⟩
      conv => whnf
      refine ⟨rfl, [(0, 0)], rfl, rfl, ⟨rfl, trivial⟩, ⟨⟨rfl, ?_⟩, trivial⟩, rfl, rfl⟩
      show _ = _
      rw [List.append_assoc P, hfin]
    · have h2 := of_decide_eq_false h2
      have h0 := none (.inr (by omega))
      conv => whnf
      refine ⟨rfl, [(0, 0)], rfl, rfl, ⟨rfl, trivial⟩, ⟨⟨rfl, ?_⟩, trivial⟩, rfl, rfl⟩
      show _ = _
      rw [← hfin, h0]; simp
  · have h1 := of_decide_eq_false h1
    have h0 := none (.inl (by omega))
    conv => whnf
    refine ⟨rfl, [(0, 0)], rfl, rfl, ⟨rfl, trivial⟩, ⟨⟨rfl, ?_⟩, trivial⟩, rfl, rfl⟩
    show _ = _
    rw [← hfin, h0]; simp

/-- The first halves are merged. -/
theorem m_5 (hkey : Keyed l key) {X1 X2 Y1 Y2 : List Int} (cX : X = X1 ++ X2) (cY : Y = Y1 ++ Y2) (hdl : P.length + X.length + Y.length + Q.length ≤ 1048576)
    (hfin : srt key (X1 ++ Y1) ++ srt key (X2 ++ Y2) = srt key (X ++ Y)) (sX1 : Srt key X1) (sY1 : Srt key Y1) (sX2 : Srt key X2) (sY2 : Srt key Y2)
    (ih1 : 0 < X1.length → 0 < Y1.length → MergeOk l key (P ++ X1 ++ Y1 ++ (X2 ++ Y2 ++ Q)) P X1 Y1 (X2 ++ Y2 ++ Q))
    (ih : 0 < X2.length → 0 < Y2.length → MergeOk l key (P ++ srt key (X1 ++ Y1) ++ X2 ++ Y2 ++ Q) (P ++ srt key (X1 ++ Y1)) X2 Y2 Q) :
    SF Try.prog tab 220 [.own 0] 45 10 [(0, .own 0), (1, .val (.int .i64 P.length)), (3, .val (.int .i64 (P.length + X.length + Y.length : Nat))), (4, cl l), (18, .val (.int .i64 (P.length + X1.length + Y1.length : Nat))), (20, .val (.int .i64 (P.length + X1.length : Nat))), (24, .val (.int .i64 (P.length + X1.length + X2.length + Y1.length : Nat)))] [(0, .row 2 (.int .i64) (P ++ X1 ++ Y1 ++ (X2 ++ Y2 ++ Q)))] (.tup []) [(0, .row 2 (.int .i64) (P ++ srt key (X ++ Y) ++ Q))] := by
  have lX : X.length = X1.length + X2.length := by rw [cX, List.length_append]
  have lY : Y.length = Y1.length + Y2.length := by rw [cY, List.length_append]
  have none : X1.length = 0 ∨ Y1.length = 0 → srt key (X1 ++ Y1) = X1 ++ Y1 := by
    intro h0
    rcases h0 with h0 | h0
    · rw [List.eq_nil_of_length_eq_zero h0, List.nil_append, srt_self sY1]
    · rw [List.eq_nil_of_length_eq_zero h0, List.append_nil, srt_self sX1]
  refine SF.parts tabOK mixed 10 1 ⟨220, [0,1,3,4,18,20,24,199], [], [.own 0]⟩ (X := Unit) (fun _ => [(0, .own 0), (3, .val (.int .i64 (P.length + X1.length + Y1.length + X2.length + Y2.length : Nat))), (4, cl l), (18, .val (.int .i64 (P.length + X1.length + Y1.length : Nat))), (24, .val (.int .i64 (P.length + X1.length + Y1.length + X2.length : Nat)))]) (fun _ => [(0, .row 2 (.int .i64) (P ++ srt key (X1 ++ Y1) ++ X2 ++ Y2 ++ Q))]) (fun _ => True) (by decide +kernel) ?_ (fun _ _ => m_6 hkey cX cY hdl hfin sX2 sY2 ih)
  conv => whnf
  refine ⟨fun h1 => ?_, fun h1 => ?_⟩
  · have h1 := of_decide_eq_true h1
    conv => whnf
    refine ⟨fun h2 => ?_, fun h2 => ?_⟩
    · have h2 := of_decide_eq_true h2
      have hr := ih1 (by omega) (by omega)
      conv => whnf
      refine .inr ⟨[(0, 0)], [(0, .row 2 (.int .i64) (P ++ X1 ++ Y1 ++ (X2 ++ Y2 ++ Q)))], .tup [], [(0, .row 2 (.int .i64) (P ++ srt key (X1 ++ Y1) ++ (X2 ++ Y2 ++ Q)))], [(0, 0)], .tup [], [(0, .row 2 (.int .i64) (P ++ srt key (X1 ++ Y1) ++ (X2 ++ Y2 ++ Q)))],
        ⟨rfl, rfl, rfl, ⟨⟨rfl, rfl⟩, trivial⟩⟩, hr, ⟨rfl, rfl, rfl, ⟨⟨rfl, rfl⟩, trivial⟩⟩, rfl, rfl, rfl, ?_⟩
      conv => whnf
      refine ⟨(), ⟨[(0, 0)], rfl, rfl, ⟨rfl, ?_, ⟨rfl, ⟨⟨trivial, rfl⟩, rfl⟩, rfl⟩, rfl, ?_, trivial⟩, ⟨⟨rfl, ?_⟩, trivial⟩, rfl, rfl⟩, trivial⟩
      · exact vi (by omega)
      · exact vi (by omega)
      · show _ = _
        simp
    · have h2 := of_decide_eq_false h2
      have h0 := none (.inr (by omega))
      conv => whnf
      refine ⟨(), ⟨[(0, 0)], rfl, rfl, ⟨rfl, ?_, ⟨rfl, ⟨⟨trivial, rfl⟩, rfl⟩, rfl⟩, rfl, ?_, trivial⟩, ⟨⟨rfl, ?_⟩, trivial⟩, rfl, rfl⟩, trivial⟩
      · exact vi (by omega)
      · exact vi (by omega)
      · show _ = _
        rw [h0]; simp
  · have h1 := of_decide_eq_false h1
    have h0 := none (.inl (by omega))
    conv => whnf
    refine ⟨(), ⟨[(0, 0)], rfl, rfl, ⟨rfl, ?_, ⟨rfl, ⟨⟨trivial, rfl⟩, rfl⟩, rfl⟩, rfl, ?_, trivial⟩, ⟨⟨rfl, ?_⟩, trivial⟩, rfl, rfl⟩, trivial⟩
    · exact vi (by omega)
    · exact vi (by omega)
    · show _ = _
      rw [h0]; simp

/-- The middle is rotated. -/
theorem m_4 (hd0 : d = P ++ X ++ Y ++ Q) {X1 X2 Y1 Y2 : List Int} (cX : X = X1 ++ X2) (cY : Y = Y1 ++ Y2) (hdl : P.length + X.length + Y.length + Q.length ≤ 1048576)
    (next : SF Try.prog tab 220 [.own 0] 45 10 [(0, .own 0), (1, .val (.int .i64 P.length)), (3, .val (.int .i64 (P.length + X.length + Y.length : Nat))), (4, cl l), (18, .val (.int .i64 (P.length + X1.length + Y1.length : Nat))), (20, .val (.int .i64 (P.length + X1.length : Nat))), (24, .val (.int .i64 (P.length + X1.length + X2.length + Y1.length : Nat)))] [(0, .row 2 (.int .i64) (P ++ X1 ++ Y1 ++ (X2 ++ Y2 ++ Q)))] (.tup []) [(0, .row 2 (.int .i64) (P ++ srt key (X ++ Y) ++ Q))]) :
    SF Try.prog tab 220 [.own 0] 45 9 [(0, .own 0), (1, .val (.int .i64 P.length)), (2, .val (.int .i64 (P.length + X1.length + X2.length : Nat))), (3, .val (.int .i64 (P.length + X.length + Y.length : Nat))), (4, cl l), (18, .val (.int .i64 (P.length + X1.length + Y1.length : Nat))), (20, .val (.int .i64 (P.length + X1.length : Nat))), (24, .val (.int .i64 (P.length + X1.length + X2.length + Y1.length : Nat)))] [(0, .row 2 (.int .i64) (d))] (.tup []) [(0, .row 2 (.int .i64) (P ++ srt key (X ++ Y) ++ Q))] := by
  have lX : X.length = X1.length + X2.length := by rw [cX, List.length_append]
  have lY : Y.length = Y1.length + Y2.length := by rw [cY, List.length_append]
  have hd : d.length ≤ 1048576 := by rw [hd0]; simp only [List.length_append]; omega
  have none : X2.length = 0 ∨ Y1.length = 0 → P ++ X1 ++ Y1 ++ (X2 ++ Y2 ++ Q) = d := by
    intro h0
    rw [hd0, cX, cY]
    rcases h0 with h0 | h0
    · rw [List.eq_nil_of_length_eq_zero h0]; simp
    · rw [List.eq_nil_of_length_eq_zero h0]; simp
  refine SF.parts tabOK mixed 9 1 ⟨220, [0,1,2,3,4,18,20,24,185], [], [.own 0]⟩ (X := Unit) (fun _ => [(0, .own 0), (1, .val (.int .i64 P.length)), (3, .val (.int .i64 (P.length + X.length + Y.length : Nat))), (4, cl l), (18, .val (.int .i64 (P.length + X1.length + Y1.length : Nat))), (20, .val (.int .i64 (P.length + X1.length : Nat))), (24, .val (.int .i64 (P.length + X1.length + X2.length + Y1.length : Nat)))]) (fun _ => [(0, .row 2 (.int .i64) (P ++ X1 ++ Y1 ++ (X2 ++ Y2 ++ Q)))]) (fun _ => True) (by decide +kernel) ?_ (fun _ _ => next)
  conv => whnf
  refine ⟨fun h1 => ?_, fun h1 => ?_⟩
  · have h1 := of_decide_eq_true h1
    conv => whnf
    refine ⟨fun h2 => ?_, fun h2 => ?_⟩
    · have h2 := of_decide_eq_true h2
      have hr := c_rotate l d (P ++ X1) X2 Y1 (Y2 ++ Q) (by rw [hd0, cX, cY]; simp) hd (by omega) (by omega)
      rw [List.length_append] at hr
      conv => whnf
      refine .inr ⟨[(0, 0)], [(0, .row 2 (.int .i64) (d))], .tup [], _, [(0, 0)], .tup [], [(0, .row 2 (.int .i64) (P ++ X1 ++ Y1 ++ X2 ++ (Y2 ++ Q)))],
        ⟨rfl, rfl, rfl, ⟨⟨rfl, rfl⟩, trivial⟩⟩, hr, ⟨rfl, rfl, rfl, ⟨⟨rfl, rfl⟩, trivial⟩⟩, rfl, rfl, rfl, ?_⟩
      conv => whnf
      refine ⟨(), ⟨[(0, 0)], rfl, rfl, ⟨rfl, rfl, rfl, ⟨rfl, ⟨⟨trivial, rfl⟩, rfl⟩, rfl⟩, rfl, rfl, rfl, trivial⟩, ⟨⟨rfl, ?_⟩, trivial⟩, rfl, rfl⟩, trivial⟩
      show _ = _
      simp
    · have h2 := of_decide_eq_false h2
      have h0 := none (.inr (by omega))
      conv => whnf
      refine ⟨(), ⟨[(0, 0)], rfl, rfl, ⟨rfl, rfl, rfl, ⟨rfl, ⟨⟨trivial, rfl⟩, rfl⟩, rfl⟩, rfl, rfl, rfl, trivial⟩, ⟨⟨rfl, ?_⟩, trivial⟩, rfl, rfl⟩, trivial⟩
      show _ = _
      rw [h0]
  · have h1 := of_decide_eq_false h1
    have h0 := none (.inl (by omega))
    conv => whnf
    refine ⟨(), ⟨[(0, 0)], rfl, rfl, ⟨rfl, rfl, rfl, ⟨rfl, ⟨⟨trivial, rfl⟩, rfl⟩, rfl⟩, rfl, rfl, rfl, trivial⟩, ⟨⟨rfl, ?_⟩, trivial⟩, rfl, rfl⟩, trivial⟩
    show _ = _
    rw [h0]

/-- The search. -/
theorem m_3 (hkey : Keyed l key) (hd0 : d = P ++ X ++ Y ++ Q) (hdl : P.length + X.length + Y.length + Q.length = d.length) (hd : d.length ≤ 1048576) (hv : ∀ z ∈ d, inL l z) (hh : h = (X.length + Y.length) / 2) {s0 r0 : Nat}
    (hs0 : h - s0 ≤ Y.length ∧ (s0 = 0 ∨ h - s0 = Y.length) ∧ s0 ≤ r0) (hr0 : r0 ≤ X.length ∧ r0 ≤ h ∧ (r0 = h ∨ r0 = X.length))
    (next : ∀ X1 X2 Y1 Y2, Cut key X Y X1 X2 Y1 Y2 → SF Try.prog tab 220 [.own 0] 45 9 [(0, .own 0), (1, .val (.int .i64 P.length)), (2, .val (.int .i64 (P.length + X1.length + X2.length : Nat))), (3, .val (.int .i64 (P.length + X.length + Y.length : Nat))), (4, cl l), (18, .val (.int .i64 (P.length + X1.length + Y1.length : Nat))), (20, .val (.int .i64 (P.length + X1.length : Nat))), (24, .val (.int .i64 (P.length + X1.length + X2.length + Y1.length : Nat)))] [(0, .row 2 (.int .i64) (d))] (.tup []) [(0, .row 2 (.int .i64) (P ++ srt key (X ++ Y) ++ Q))]) :
    SF Try.prog tab 220 [.own 0] 45 7 [(0, .own 0), (1, .val (.int .i64 P.length)), (2, .val (.int .i64 (P.length + X.length : Nat))), (3, .val (.int .i64 (P.length + X.length + Y.length : Nat))), (4, cl l), (18, .val (.int .i64 (P.length + h : Nat))), (19, .val (.int .i64 (P.length + h + (P.length + X.length) : Nat))), (20, .val (.int .i64 (P.length + s0 : Nat))), (21, .val (.int .i64 (P.length + r0 : Nat))), (22, .val (.int .i64 (P.length + h + (P.length + X.length) - 1 : Nat)))] [(0, .row 2 (.int .i64) (d))] (.tup []) [(0, .row 2 (.int .i64) (P ++ srt key (X ++ Y) ++ Q))] := by
  obtain ⟨T, hT⟩ : ∃ T : Nat → Prop, T = fun c => key (Y.getD (h - 1 - c) 0) < key (X.getD c 0) := ⟨_, rfl⟩
  refine SF.parts tabOK mixed 7 2 ⟨220, [0,1,2,3,4,18,19,20,21,22,23,24,151,171], [], [.own 0]⟩ (X := List Int × List Int × List Int × List Int)
    (fun q => [(0, .own 0), (1, .val (.int .i64 P.length)), (2, .val (.int .i64 (P.length + q.1.length + q.2.1.length : Nat))), (3, .val (.int .i64 (P.length + X.length + Y.length : Nat))), (4, cl l), (18, .val (.int .i64 (P.length + q.1.length + q.2.2.1.length : Nat))), (20, .val (.int .i64 (P.length + q.1.length : Nat))), (24, .val (.int .i64 (P.length + q.1.length + q.2.1.length + q.2.2.1.length : Nat)))]) (fun _ => [(0, .row 2 (.int .i64) (d))])
    (fun q => Cut key X Y q.1 q.2.1 q.2.2.1 q.2.2.2) (by decide +kernel) ?_ (fun q hq => next _ _ _ _ hq)
  conv => whnf
  refine ⟨Nat × Nat, fun q => [(0, .own 0), (1, .val (.int .i64 P.length)), (2, .val (.int .i64 (P.length + X.length : Nat))), (3, .val (.int .i64 (P.length + X.length + Y.length : Nat))), (4, cl l), (18, .val (.int .i64 (P.length + h : Nat))), (19, .val (.int .i64 (P.length + h + (P.length + X.length) : Nat))), (20, .val (.int .i64 (P.length + q.1 : Nat))), (21, .val (.int .i64 (P.length + q.2 : Nat))), (22, .val (.int .i64 (P.length + h + (P.length + X.length) - 1 : Nat)))], fun _ => [(0, .row 2 (.int .i64) (d))], fun q => s0 ≤ q.1 ∧ q.1 ≤ q.2 ∧ q.2 ≤ r0 ∧ (s0 < q.1 → ¬ T (q.1 - 1)) ∧ (q.2 < r0 → T q.2), fun q => q.2 - q.1, (s0, r0), ?_, ⟨Nat.le_refl _, hs0.2.2, Nat.le_refl _, fun h => by dsimp only at h; omega, fun h => by dsimp only at h; omega⟩, fun q hq => ?_⟩
  · exact ⟨[(0, 0)], rfl, rfl, ⟨rfl, rfl, rfl, rfl, ⟨rfl, ⟨⟨trivial, rfl⟩, rfl⟩, rfl⟩, rfl, rfl, rfl, rfl, rfl, trivial⟩, ⟨⟨rfl, rfl⟩, trivial⟩, rfl, rfl⟩
  obtain ⟨s, r⟩ := q
  obtain ⟨q1, q2, q3, q4, q5⟩ := hq
  dsimp only at q1 q2 q3 q4 q5
  conv => whnf
  dsimp only
  refine ⟨fun hc1 => ?_, fun hc1 => ?_⟩
  · have hlt : s < r := by have := of_decide_eq_true hc1; omega
    obtain ⟨m, hm⟩ : ∃ m, m = (s + r) / 2 := ⟨_, rfl⟩
    have f1 : IntKind.i64.wrap (((P.length + s : Nat) : Int) + ((P.length + r : Nat) : Int)) = ((P.length + s + (P.length + r) : Nat) : Int) := wrap_nat' (by omega) (by omega)
    have f2 : IntKind.i64.wrap ((IntKind.u64.wrap ((P.length + s + (P.length + r) : Nat) : Int)).fdiv (2 ^ min (1 : Int).toNat IntKind.u64.bits)) = ((P.length + m : Nat) : Int) := by
      rw [half_eq rfl (by omega), hm]; congr 1; omega
    have f3 : IntKind.i64.wrap (((P.length + h + (P.length + X.length) - 1 : Nat) : Int) - ((P.length + m : Nat) : Int)) = ((P.length + X.length + (h - 1 - m) : Nat) : Int) := wrap_nat' (by omega) (by omega)
    have f4 : IntKind.i64.wrap (((P.length + m : Nat) : Int) + 1) = ((P.length + (m + 1) : Nat) : Int) := wrap_nat' (by omega) (by omega)
    have hmX : m < X.length := by omega
    have hmY : h - 1 - m < Y.length := by omega
    have gX : d[((P.length + m : Nat) : Int).toNat]? = some (X.getD m 0) := by
      rw [hd0, List.append_assoc]; exact getD_mid _ _ _ hmX
    have gY : d[((P.length + X.length + (h - 1 - m) : Nat) : Int).toNat]? = some (Y.getD (h - 1 - m) 0) := by
      rw [hd0, show P.length + X.length = (P ++ X).length by simp]; exact getD_mid _ _ _ hmY
    have hxl : inL l (X.getD m 0) := hv _ (by
      have : X.getD m 0 = X[m] := by simp [hmX]
      rw [this, hd0]; simp)
    have hyl : inL l (Y.getD (h - 1 - m) 0) := hv _ (by
      have : Y.getD (h - 1 - m) 0 = Y[h - 1 - m] := by simp [hmY]
      rw [this, hd0]; simp)
    conv => whnf
    refine ⟨by decide, ?_⟩
    conv => whnf
    refine ⟨by decide +kernel, ?_⟩
    conv => whnf
    simp only [f1, f2, f3]
    refine ⟨⟨by omega, by omega⟩, ?_⟩
    conv => whnf
    refine ⟨_, gY, ?_⟩
    conv => whnf
    try simp only [f1, f2, f3]
    refine ⟨⟨by omega, by omega⟩, ?_⟩
    conv => whnf
    refine ⟨_, gX, ?_⟩
    conv => whnf
    refine ⟨_, c_ranked1 l _ _ hyl hxl, ?_⟩
    conv => whnf
    refine ⟨fun h2 => ?_, fun h2 => ?_⟩
    · have hk : ¬ T m := fun hk => by
        rw [hT] at hk
        have := (hkey.cmp _ _ hyl hxl).2 hk
        rw [decide_eq_true this] at h2; cases h2
      conv => whnf
      refine ⟨(m + 1, r), ⟨[(0, 0)], rfl, rfl, ⟨rfl, rfl, rfl, rfl, ⟨rfl, ⟨⟨trivial, rfl⟩, rfl⟩, rfl⟩, rfl, rfl, ?_, rfl, rfl, trivial⟩, ⟨⟨rfl, rfl⟩, trivial⟩, rfl, rfl⟩, ⟨?_, ?_, q3, fun _ => ?_, q5⟩, ?_⟩
      · show Value.int .i64 _ = _
        simp only [f1, f2, f4]
      · dsimp only; omega
      · dsimp only; omega
      · exact hk
      · dsimp only; omega
    · have hk : T m := by
        rw [hT]
        by_cases hk : cmpV l (Y.getD (h - 1 - m) 0) (X.getD m 0) < 0
        · exact (hkey.cmp _ _ hyl hxl).1 hk
        · rw [decide_eq_false hk] at h2; cases h2
      conv => whnf
      refine ⟨(s, m), ⟨[(0, 0)], rfl, rfl, ⟨rfl, rfl, rfl, rfl, ⟨rfl, ⟨⟨trivial, rfl⟩, rfl⟩, rfl⟩, rfl, rfl, rfl, ?_, rfl, trivial⟩, ⟨⟨rfl, rfl⟩, trivial⟩, rfl, rfl⟩, ⟨q1, ?_, ?_, q4, fun _ => hk⟩, ?_⟩
      · show Value.int .i64 _ = _
        simp only [f1, f2]
      · dsimp only; omega
      · dsimp only; omega
      · dsimp only; omega
  · have hsr : s = r := by have := of_decide_eq_false hc1; omega
    subst hsr
    conv => whnf
    have h1 : s ≤ X.length := by omega
    have h3 : h - s ≤ Y.length := by omega
    have hX2 : X.length = s + (X.drop s).length := by rw [List.length_drop]; omega
    have hl1 : (X.take s).length = s := by rw [List.length_take]; omega
    have hl2 : (Y.take (h - s)).length = h - s := by rw [List.length_take]; omega
    refine ⟨(X.take s, X.drop s, Y.take (h - s), Y.drop (h - s)), ⟨[(0, 0)], rfl, rfl, ⟨rfl, rfl, ?_, rfl, ⟨rfl, ⟨⟨trivial, rfl⟩, rfl⟩, rfl⟩, ?_, ?_, ?_, trivial⟩, ⟨⟨rfl, rfl⟩, trivial⟩, rfl, rfl⟩, cut_of hh h1 (by omega) h3 (fun a1 a2 => ?_) (fun a1 a2 => ?_)⟩
    · exact vi (by dsimp only; omega)
    · exact vi (by dsimp only; omega)
    · exact vi (by dsimp only; omega)
    · exact vw (by dsimp only; omega) (by dsimp only; omega)
    · rw [hT] at q4; exact q4 (by omega)
    · rw [hT] at q5; exact q5 (by omega)

/-- Where the search starts. -/
theorem m_2 (hd : P.length + X.length + Y.length + Q.length ≤ 1048576) (hh : h = (X.length + Y.length) / 2) (hX0 : 0 < X.length)
    (next : ∀ s0 r0, (h - s0 ≤ Y.length ∧ (s0 = 0 ∨ h - s0 = Y.length) ∧ s0 ≤ r0) → (r0 ≤ X.length ∧ r0 ≤ h ∧ (r0 = h ∨ r0 = X.length)) → SF Try.prog tab 220 [.own 0] 45 7 [(0, .own 0), (1, .val (.int .i64 P.length)), (2, .val (.int .i64 (P.length + X.length : Nat))), (3, .val (.int .i64 (P.length + X.length + Y.length : Nat))), (4, cl l), (18, .val (.int .i64 (P.length + h : Nat))), (19, .val (.int .i64 (P.length + h + (P.length + X.length) : Nat))), (20, .val (.int .i64 (P.length + s0 : Nat))), (21, .val (.int .i64 (P.length + r0 : Nat))), (22, .val (.int .i64 (P.length + h + (P.length + X.length) - 1 : Nat)))] [(0, .row 2 (.int .i64) (d))] (.tup []) [(0, .row 2 (.int .i64) (P ++ srt key (X ++ Y) ++ Q))]) :
    SF Try.prog tab 220 [.own 0] 45 5 [(0, .own 0), (1, .val (.int .i64 P.length)), (2, .val (.int .i64 (P.length + X.length : Nat))), (3, .val (.int .i64 (P.length + X.length + Y.length : Nat))), (4, cl l), (18, .val (.int .i64 (P.length + h : Nat))), (19, .val (.int .i64 (P.length + h + (P.length + X.length) : Nat)))] [(0, .row 2 (.int .i64) (d))] (.tup []) [(0, .row 2 (.int .i64) (P ++ srt key (X ++ Y) ++ Q))] := by
  refine SF.parts tabOK mixed 5 2 ⟨220, [0,1,2,3,4,18,19,20,21,22,140], [], [.own 0]⟩ (X := Nat × Nat)
    (fun q => [(0, .own 0), (1, .val (.int .i64 P.length)), (2, .val (.int .i64 (P.length + X.length : Nat))), (3, .val (.int .i64 (P.length + X.length + Y.length : Nat))), (4, cl l), (18, .val (.int .i64 (P.length + h : Nat))), (19, .val (.int .i64 (P.length + h + (P.length + X.length) : Nat))), (20, .val (.int .i64 (P.length + q.1 : Nat))), (21, .val (.int .i64 (P.length + q.2 : Nat))), (22, .val (.int .i64 (P.length + h + (P.length + X.length) - 1 : Nat)))]) (fun _ => [(0, .row 2 (.int .i64) (d))])
    (fun q => (h - q.1 ≤ Y.length ∧ (q.1 = 0 ∨ h - q.1 = Y.length) ∧ q.1 ≤ q.2) ∧ q.2 ≤ X.length ∧ q.2 ≤ h ∧ (q.2 = h ∨ q.2 = X.length)) (by decide +kernel) ?_ (fun q hq => next _ _ hq.1 hq.2)
  conv => whnf
  refine ⟨fun ha => ?_, fun ha => ?_⟩
  · have hgt : h < X.length := by have := of_decide_eq_true ha; omega
    conv => whnf
    refine ⟨(h - Y.length, h), ⟨[(0, 0)], rfl, rfl, ⟨rfl, rfl, rfl, rfl, ⟨rfl, ⟨⟨trivial, rfl⟩, rfl⟩, rfl⟩, rfl, rfl, ?_, rfl, ?_, trivial⟩, ⟨⟨rfl, rfl⟩, trivial⟩, rfl, rfl⟩, ?_⟩
    · exact vw (by dsimp only; omega) (by omega)
    · exact vw (by omega) (by omega)
    · dsimp only; omega
  · have hgt : X.length ≤ h := by have := of_decide_eq_false ha; omega
    conv => whnf
    refine ⟨(0, X.length), ⟨[(0, 0)], rfl, rfl, ⟨rfl, rfl, rfl, rfl, ⟨rfl, ⟨⟨trivial, rfl⟩, rfl⟩, rfl⟩, rfl, rfl, rfl, rfl, ?_, trivial⟩, ⟨⟨rfl, rfl⟩, trivial⟩, rfl, rfl⟩, ?_⟩
    · exact vw (by omega) (by omega)
    · dsimp only; omega

/-- Both parts are longer than one. -/
theorem m_1b (hd : P.length + X.length + Y.length + Q.length ≤ 1048576) (hh : h = (X.length + Y.length) / 2)
    (next : SF Try.prog tab 220 [.own 0] 45 5 [(0, .own 0), (1, .val (.int .i64 P.length)), (2, .val (.int .i64 (P.length + X.length : Nat))), (3, .val (.int .i64 (P.length + X.length + Y.length : Nat))), (4, cl l), (18, .val (.int .i64 (P.length + h : Nat))), (19, .val (.int .i64 (P.length + h + (P.length + X.length) : Nat)))] [(0, .row 2 (.int .i64) (d))] (.tup []) [(0, .row 2 (.int .i64) (P ++ srt key (X ++ Y) ++ Q))]) : SF Try.prog tab 220 [.own 0] 45 2 [(0, .own 0), (1, .val (.int .i64 P.length)), (2, .val (.int .i64 (P.length + X.length : Nat))), (3, .val (.int .i64 (P.length + X.length + Y.length : Nat))), (4, cl l)] [(0, .row 2 (.int .i64) (d))] (.tup []) [(0, .row 2 (.int .i64) (P ++ srt key (X ++ Y) ++ Q))] := by
  refine SF.parts tabOK mixed 2 3 ⟨220, [0,1,2,3,4,18,19], [], [.own 0]⟩ (X := Unit) (fun _ => [(0, .own 0), (1, .val (.int .i64 P.length)), (2, .val (.int .i64 (P.length + X.length : Nat))), (3, .val (.int .i64 (P.length + X.length + Y.length : Nat))), (4, cl l), (18, .val (.int .i64 (P.length + h : Nat))), (19, .val (.int .i64 (P.length + h + (P.length + X.length) : Nat)))]) (fun _ => [(0, .row 2 (.int .i64) (d))]) (fun _ => True) (by decide +kernel) ?_ (fun _ _ => next)
  have e3 : IntKind.i64.wrap ((P.length : Int) + ((P.length + X.length + Y.length : Nat) : Int)) = ((P.length + (P.length + X.length + Y.length) : Nat) : Int) := wrap_nat' (by omega) (by omega)
  have e4 : IntKind.i64.wrap ((IntKind.u64.wrap ((P.length + (P.length + X.length + Y.length) : Nat) : Int)).fdiv (2 ^ min (1 : Int).toNat IntKind.u64.bits)) = ((P.length + h : Nat) : Int) := by
    rw [half_eq rfl (by omega), hh]; congr 1; omega
  conv => whnf
  refine ⟨by decide, ?_⟩
  conv => whnf
  refine ⟨(), ⟨[(0, 0)], rfl, rfl, ⟨rfl, rfl, rfl, rfl, ⟨rfl, ⟨⟨trivial, rfl⟩, rfl⟩, rfl⟩, ?_, ?_, trivial⟩, ⟨⟨rfl, rfl⟩, trivial⟩, rfl, rfl⟩, trivial⟩
  · show _ = _
    simp only [e3, e4]
  · show _ = _
    simp only [e3, e4]
    exact vw (by omega) (by omega)

theorem m_1 (hd : P.length + X.length + Y.length + Q.length ≤ 1048576) (hX1 : X.length ≠ 1) (hY1 : Y.length ≠ 1)
    (next : SF Try.prog tab 220 [.own 0] 45 2 [(0, .own 0), (1, .val (.int .i64 P.length)), (2, .val (.int .i64 (P.length + X.length : Nat))), (3, .val (.int .i64 (P.length + X.length + Y.length : Nat))), (4, cl l)] [(0, .row 2 (.int .i64) (d))] (.tup []) [(0, .row 2 (.int .i64) (P ++ srt key (X ++ Y) ++ Q))]) : SF Try.prog tab 220 [.own 0] 45 0 (number 0 [.own 0, .val (.int .i64 P.length), .val (.int .i64 (P.length + X.length : Nat)), .val (.int .i64 (P.length + X.length + Y.length : Nat)), cl l]) [(0, .row 2 (.int .i64) (d))] (.tup []) [(0, .row 2 (.int .i64) (P ++ srt key (X ++ Y) ++ Q))] := by
  refine SF.parts tabOK mixed 0 2 ⟨220, [0,1,2,3,4,28,80], [], [.own 0]⟩ (X := Unit) (fun _ => [(0, .own 0), (1, .val (.int .i64 P.length)), (2, .val (.int .i64 (P.length + X.length : Nat))), (3, .val (.int .i64 (P.length + X.length + Y.length : Nat))), (4, cl l)]) (fun _ => [(0, .row 2 (.int .i64) (d))]) (fun _ => True) (by decide +kernel) ?_ (fun _ _ => next)
  have e1 : IntKind.i64.wrap (((P.length + X.length : Nat) : Int) - (P.length : Int)) = ((X.length : Nat) : Int) := wrap_nat' (by omega) (by omega)
  have e2 : IntKind.i64.wrap (((P.length + X.length + Y.length : Nat) : Int) - ((P.length + X.length : Nat) : Int)) = ((Y.length : Nat) : Int) := wrap_nat' (by omega) (by omega)
  conv => whnf
  simp only [e1]
  refine ⟨fun hh => ?_, fun _ => ?_⟩
  · exact absurd (by have := of_decide_eq_true hh; omega) hX1
  conv => whnf
  simp only [e2]
  refine ⟨fun hh => ?_, fun _ => ?_⟩
  · exact absurd (by have := of_decide_eq_true hh; omega) hY1
  conv => whnf
  exact ⟨(), ⟨[(0, 0)], rfl, rfl, ⟨rfl, rfl, rfl, rfl, ⟨rfl, ⟨⟨trivial, rfl⟩, rfl⟩, rfl⟩, trivial⟩, ⟨⟨rfl, rfl⟩, trivial⟩, rfl, rfl⟩, trivial⟩
end

theorem c_merge (l : List Nat) (key : Int → Int) (hkey : Keyed l key) : ∀ (N : Nat) (d P X Y Q : List Int), X.length + Y.length ≤ N → d = P ++ X ++ Y ++ Q → d.length ≤ 1048576 → (∀ z ∈ d, inL l z) →
    Srt key X → Srt key Y → 0 < X.length → 0 < Y.length → (∀ x ∈ X, ∀ y ∈ Y, x < y) → MergeOk l key d P X Y Q
  | 0, d, P, X, Y, Q => by intro hN _ _ _ _ _ h; omega
  | N + 1, d, P, X, Y, Q => by
    intro hN hd0 hd hv hX hY hX0 hY0 hc
    have ih := c_merge l key hkey N
    have hdl : P.length + X.length + Y.length + Q.length = d.length := by rw [hd0]; simp; omega
    by_cases hX1 : X.length = 1
    · obtain ⟨x, rfl⟩ : ∃ x, X = [x] := by
        cases X with
        | nil => simp at hX1
        | cons x X' => cases X' with
          | nil => exact ⟨x, rfl⟩
          | cons _ _ => simp at hX1
      exact c_merge1 l key hkey d P Y Q x (by rw [hd0]; simp) hd hv hY (fun y hy => hc x (by simp) y hy)
    by_cases hY1 : Y.length = 1
    · obtain ⟨y, rfl⟩ : ∃ y, Y = [y] := by
        cases Y with
        | nil => simp at hY1
        | cons x Y' => cases Y' with
          | nil => exact ⟨x, rfl⟩
          | cons _ _ => simp at hY1
      exact c_merge2 l key hkey d P X Q y (by rw [hd0]; simp) hd hv hX hX1 (fun x hx => hc x hx y (by simp))
    obtain ⟨h, hh⟩ : ∃ h, h = (X.length + Y.length) / 2 := ⟨_, rfl⟩
    refine SF.con tabOK 220 rfl (by decide) rfl rfl rfl rfl ?_
    refine m_1 (by omega) hX1 hY1 ?_
    refine m_1b (by omega) hh ?_
    refine m_2 (by omega) hh hX0 fun s0 r0 hs0 hr0 => ?_
    refine m_3 hkey hd0 hdl hd hv hh hs0 hr0 fun X1 X2 Y1 Y2 hcut => ?_
    obtain ⟨cX, cY, cl1, ch1, ch2⟩ := hcut
    have lX : X.length = X1.length + X2.length := by rw [cX, List.length_append]
    have lY : Y.length = Y1.length + Y2.length := by rw [cY, List.length_append]
    have sX := hX
    rw [cX, Srt, List.pairwise_append] at sX
    have sY := hY
    rw [cY, Srt, List.pairwise_append] at sY
    have hv' : ∀ z ∈ P ++ X1 ++ X2 ++ Y1 ++ Y2 ++ Q, inL l z := fun z hz => hv z (by rw [hd0, cX, cY]; simpa using hz)
    refine m_4 hd0 cX cY (by omega) ?_
    refine m_5 hkey cX cY (by omega) ?_ sX.1 sY.1 sX.2.1 sY.2.1 (fun a1 a2 => ?_) (fun a1 a2 => ?_)
    · have := halves (key := key) (X1 := X1) (X2 := X2) (Y1 := Y1) (Y2 := Y2) (by rw [← cX]; exact hX) (by rw [← cY]; exact hY) (by rw [← cX, ← cY]; exact hc) ch1 ch2
      rw [this, cX, cY]
    · refine ih _ P X1 Y1 (X2 ++ Y2 ++ Q) (by omega) rfl ?_ ?_ sX.1 sY.1 a1 a2 (fun x hx y hy => hc x (by rw [cX]; simp [hx]) y (by rw [cY]; simp [hy]))
      · simp only [List.length_append]; omega
      · intro z hz
        refine hv' z ?_
        simp only [List.mem_append] at hz ⊢
        grind
    · refine ih _ (P ++ srt key (X1 ++ Y1)) X2 Y2 Q (by omega) rfl ?_ ?_ sX.2.1 sY.2.1 a1 a2 (fun x hx y hy => hc x (by rw [cX]; simp [hx]) y (by rw [cY]; simp [hy]))
      · simp only [List.length_append, srt_len]; omega
      · intro z hz
        refine hv' z ?_
        simp only [List.mem_append, (srt_perm _).mem_iff] at hz ⊢
        grind
end Go.R

/- Slices, structs, built-in functions, boxes; and all operations together. -/
import Derived.Test.YthhmolipdnijaaaVa
import Derived.Laws.StructEq
import Derived.Laws.Small
set_option linter.unusedVariables false
set_option linter.unusedSimpArgs false
set_option linter.unnecessarySimpa false
namespace Go.V
open Go.RowKit

/-! ### Conversions -/

def f2i (s : FloatKind) (x : Nat) (k : IntKind) : Option Int :=
  match (s.decode x).toInt .zero with
  | some n => if k.min ≤ n ∧ n ≤ k.max then some n else none
  | none => none

def bytesOf (l : List Int) : ByteArray := ⟨(l.map fun n => UInt8.ofNat n.toNat).toArray⟩

def wide : FloatKind → FloatKind → Bool
  | .f32, .f64 => true
  | _, _ => false

def acvt (Γ : Tab) (s d : TypeId) (x : AV) (K : AV → Prop) : Prop :=
  match tget Γ s, tget Γ d with
  | some _, some td =>
    match td.k, x with
    | .int k, .val (.int _ n) => K (.val (.int k (k.wrap n)))
    | .flt k, .val (.int _ n) => K (.flt k (fofInt k n))
    | .flt k, .flt s' x => bif fkEq s' k then K (.flt k x) else bif wide s' k then K (.flt k (fcvt s' k x)) else fcvtOk s' k x = true ∧ K (.flt k (fcvt s' k x))
    | .int k, .flt s' x => ∃ n, f2i s' x k = some n ∧ K (.val (.int k n))
    | .str, .val (.string b) => K (.val (.string b))
    | _, _ => False
  | _, _ => False

/-! ### Reading -/

def loadCs (td : TD) (cs : List AV) (K : AV → Prop) : Prop :=
  bif td.ag then (bif Nat.ble td.n cs.length then K (.agg (cs.take td.n)) else False)
  else match cs with
    | c :: _ => force c K
    | [] => False

def aload (Γ : Tab) (H : Heap) (t : TypeId) (p : AV) (K : AV → Prop) : Prop :=
  match tget Γ t with
  | some td =>
    match p with
    | .ptrR cs => loadCs td cs K
    | .ptrO id off => match hget H id with
      | some (.box cs) => loadCs td (cs.drop off) K
      | _ => False
    | .ptrE id i off => match hget H id with
      | some (.row _ st l) => ∃ x, l[i]? = some x ∧ loadCs td ((st.enc true x).drop off) K
      | _ => False
    | _ => False
  | none => False

def afield (Γ : Tab) (H : Heap) (s : TypeId) (p : AV) (f : Nat) (K : AV → Prop) : Prop :=
  match tget Γ s with
  | some td => match td.k with
    | .strct fs => match fs[f]? with
      | some (off, sz, _) => bif Nat.beq sz 0 then False else
        match p with
        | .ptrR cs => K (.ptrR (cs.drop off))
        | .ptrO id o => match hget H id with
          | some (.box _) => K (.ptrO id (o + off))
          | _ => False
        | .ptrE id i o => match hget H id with
          | some (.row _ _ _) => K (.ptrE id i (o + off))
          | _ => False
        | _ => False
      | none => False
    | _ => False
  | none => False

def apart (Γ : Tab) (s : TypeId) (p : AV) (f : Nat) (K : AV → Prop) : Prop :=
  match tget Γ s with
  | some td => match td.k with
    | .strct fs => match fs[f]? with
      | some (off, sz, ag) => match p with
        | .agg cs => bif ag then K (.agg ((cs.drop off).take sz)) else (match cs.drop off with | c :: _ => force c K | [] => False)
        | _ => False
      | none => False
    | _ => False
  | none => False

def aindexAddr (Γ : Tab) (H : Heap) (t : TypeId) (x i : AV) (K : AV → Prop) : Prop :=
  match tget Γ t, i with
  | some td, .val (.int _ m) =>
    match td.k, x with
    | .slice _ st _, .sl fr t' l => bif Nat.beq st.n t'.n then ∃ e, (0 ≤ m ∧ l[m.toNat]? = some e) ∧ K (.ptrR (t'.enc fr e)) else False
    | .slice _ st _, .own id => match hget H id with
      | some (.row _ t' l) => bif Nat.beq st.n t'.n then (0 ≤ m ∧ m < l.length) ∧ K (.ptrE id m.toNat 0) else False
      | _ => False
    | .arr len esz, .ptrR cs => (0 ≤ m ∧ m < len) ∧ K (.ptrR (cs.drop (m.toNat * esz)))
    | .arr len esz, .ptrO id o => match hget H id with
      | some (.box _) => (0 ≤ m ∧ m < len) ∧ K (.ptrO id (o + m.toNat * esz))
      | _ => False
    | _, _ => False
  | _, _ => False

def aindex (Γ : Tab) (t : TypeId) (x i : AV) (K : AV → Prop) : Prop :=
  match tget Γ t, i with
  | some td, .val (.int _ m) =>
    match td.k, x with
    | .str, .val (.string s) => ∃ c, (0 ≤ m ∧ s.data[m.toNat]? = some c) ∧ K (.val (.int .u8 c.toNat))
    | _, _ => False
  | _, _ => False

def aext (x : AV) (i : Nat) (K : AV → Prop) : Prop :=
  match x with
  | .tup cs => match cs[i]? with
    | some c => force c K
    | none => False
  | _ => False

def intAV : AV → Option (IntKind × Int)
  | .val (.int k n) => some (k, n)
  | _ => none
def optI (E : Env) (o : Option Operand) (d : Int) : Option Int :=
  match o with
  | none => some d
  | some x => (intAV (avOf E x)).map (·.2)

def aslice (Γ : Tab) (E : Env) (t : TypeId) (x : Operand) (lo hi : Option Operand) (K : AV → Prop) : Prop :=
  match tget Γ t with
  | some td =>
    match td.k, avOf E x with
    | .str, .val (.string s) => match optI E lo 0, optI E hi s.size with
      | some a, some b => (0 ≤ a ∧ a ≤ b ∧ b ≤ s.size) ∧ K (.val (.string (s.extract a.toNat b.toNat)))
      | _, _ => False
    | .slice _ st _, .sl fr t' l => match optI E lo 0, optI E hi l.length with
      | some a, some b => bif Nat.beq st.n t'.n then (0 ≤ a ∧ a ≤ b ∧ b ≤ l.length) ∧ K (.sl fr t' ((l.take b.toNat).drop a.toNat)) else False
      | _, _ => False
    | _, _ => False
  | none => False

/-- The cells of a value, where it is known to be one. -/
def cellsC (H : Heap) (a : AV) : Option (List AV) :=
  match a with
  | .agg cs => some cs
  | .junk => none
  | .tup _ => none
  | .val (.agg _) => none
  | .own id => match hget H id with
    | some (.row _ _ _) => some [.own id]
    | _ => none
  | .ptrO id o => match hget H id with
    | some (.box _) => some [.ptrO id o]
    | _ => none
  | .ptrE id i o => match hget H id with
    | some (.row _ _ _) => some [.ptrE id i o]
    | _ => none
  | a => some [a]

def fillAV (fs : List (Nat × Nat × Bool)) (E : Env) (H : Heap) : List (Nat × Operand) → List AV → Option (List AV)
  | [], zs => some zs
  | (i, x) :: ps, zs =>
    match fs[i]? with
    | some (off, sz, _) =>
      match cellsC H (avOf E x) with
      | none => none
      | some cs => bif Nat.beq cs.length sz && Nat.ble (off + sz) zs.length then fillAV fs E H ps (zs.take off ++ cs ++ zs.drop (off + sz)) else none
    | none => none

def abuild (Γ : Tab) (E : Env) (H : Heap) (t : TypeId) (ps : List (Nat × Operand)) (K : AV → Prop) : Prop :=
  match tget Γ t with
  | some td => match td.k with
    | .strct fs => match fillAV fs E H ps (td.z.map zav) with
      | some cs => K (.agg cs)
      | none => False
    | _ => False
  | none => False

def abuiltin (Γ : Tab) (E : Env) (H : Heap) (b : Builtin) (args : List Operand) (ts : List TypeId) (K : AV → Prop) : Prop :=
  match b, args, ts with
  | .len, [x], [t] => match tget Γ t with
    | some td => match td.k, avOf E x with
      | .str, .val (.string s) => K (.val (.int .i64 s.size))
      | .slice _ _ _, .sl _ _ l => K (.val (.int .i64 l.length))
      | .slice _ _ _, .val (.slice _ n _) => K (.val (.int .i64 n))
      | .slice _ _ _, .own id => match hget H id with
        | some (.row _ _ l) => K (.val (.int .i64 l.length))
        | _ => False
      | _, _ => False
    | none => False
  | .min, [x, y], _ => match avOf E x, avOf E y with
    | .val (.int k a), .val (.int _ b) => K (.val (.int k (if b < a then b else a)))
    | _, _ => False
  | .max, [x, y], _ => match avOf E x, avOf E y with
    | .val (.int k a), .val (.int _ b) => K (.val (.int k (if b > a then b else a)))
    | _, _ => False
  | .real, [x], _ => match avOf E x with
    | .cpx k a _ => K (.flt k a)
    | _ => False
  | .imag, [x], _ => match avOf E x with
    | .cpx k _ b => K (.flt k b)
    | _ => False
  | .complex, [x, y], _ => match avOf E x, avOf E y with
    | .flt k a, .flt k' b => bif fkEq k k' then K (.cpx k a b) else False
    | _, _ => False
  | _, _, _ => False

def avB : AV → Option Bool
  | .tt => some true
  | .ff => some false
  | .val (.bool b) => some b
  | _ => none

/-- Structs of whole numbers, compared. -/
def eqInts : List AV → List AV → Option Bool
  | [], [] => some true
  | .val (.int k a) :: cs, .val (.int k' b) :: ds => bif kEq k k' then (match eqInts cs ds with
    | some r => some (decide (a = b) && r)
    | none => none) else none
  | _, _ => none

def abinG (Γ : Tab) (op : BinOp) (T : TypeId) (x y : AV) (K : AV → Prop) : Prop :=
  match avB x, avB y with
  | some p, some q => match tget Γ T with
    | some td => match td.k, op with
      | .bool, .eql => K (.val (.bool (p == q)))
      | .bool, .neq => K (.val (.bool (!(p == q))))
      | _, _ => False
    | none => False
  | _, _ => match x, y with
    | .agg cs, .agg ds => match tget Γ T with
      | some td => bif td.eqi && Nat.beq cs.length td.n then (match eqInts cs ds, op with
        | some r, .eql => K (.val (.bool r))
        | some r, .neq => K (.val (.bool (!r)))
        | _, _ => False) else False
      | none => False
    | _, _ => abin op x y K

def aop (Γ : Tab) (E : Env) (H : Heap) (op : Op) (K : AV → Prop) : Prop :=
  match op with
  | .move x => force (avOf E x) K
  | .assign x => force (avOf E x) K
  | .pick c a b => match avOf E c with
    | .tt => force (avOf E a) K
    | .ff => force (avOf E b) K
    | .val (.bool t) => (t = true → force (avOf E a) K) ∧ (t = false → force (avOf E b) K)
    | _ => False
  | .binOp op T x y _ => abinG Γ op T (avOf E x) (avOf E y) K
  | .unOp op _ x => aun op (avOf E x) K
  | .convert s d x => acvt Γ s d (avOf E x) K
  | .load t p => aload Γ H t (avOf E p) K
  | .fieldAddr s p f => afield Γ H s (avOf E p) f K
  | .field t x f => apart Γ t (avOf E x) f K
  | .indexAddr t x i => aindexAddr Γ H t (avOf E x) (avOf E i) K
  | .index t x i => aindex Γ t (avOf E x) (avOf E i) K
  | .extract x i => aext (avOf E x) i K
  | .slice t x lo hi none => aslice Γ E t x lo hi K
  | .build t ps => abuild Γ E H t ps.toList K
  | .makeFunc (.func f) ⟨[]⟩ caps => K (.fn f (caps.toList.map (avOf E)))
  | .nilCheck x => match avOf E x with
    | .ptrR cs => K (.ptrR cs)
    | .ptrO id o => match hget H id with
      | some (.box _) => K (.ptrO id o)
      | _ => False
    | .ptrE id i o => match hget H id with
      | some (.row _ _ _) => K (.ptrE id i o)
      | _ => False
    | _ => False
  | .call ⟨.builtin b, args, ts⟩ => abuiltin Γ E H b args.toList ts.toList K
  | .box _ x => match cellsC H (avOf E x) with
    | some cs => K (.ptrR cs)
    | none => False
  | _ => False

section sound
variable {P : Program} {Γ : Tab} {E : Env} {H : Heap} {K : AV → Prop}

theorem acvt_sound (hΓ : TabOK P Γ) {s t ty : TypeId} {x : Operand} {d : Option Tmp} {pos : String} {af : Array Edge} {g : Option (Nat × Bool)}
    (h : acvt Γ s t (avOf E x) K) : ∃ av, K av ∧ OkOp P E H ⟨d, .convert s t x, ty, pos, af, g⟩ av := by
  have hop : ∀ {w0 : Base} {w : World} {φ : Nat → Value} {act : Act}, (∀ z, z ∈ (Op.convert s t x).operands → Rel w (Fr φ H) (Gr w0 φ H) φ H (avOf E z) (act.eval z)) →
      Rel w (Fr φ H) (Gr w0 φ H) φ H (avOf E x) (act.eval x) := fun hx => hx x (by simp [Op.operands])
  have lift : ∀ {ρ : Operand → Value} {w w' : World} {v : Value}, (convert s t (ρ x)).run P w = .ok v w' → (execOp ρ ⟨d, .convert s t x, ty, pos, af, g⟩).run P w = .ok (.value v) w' := by
    intro ρ w w' v hr
    simp only [execOp, Sem.run_bind, hr, Result.andThen_ok]; rfl
  unfold acvt at h
  split at h
  · rename_i ts td hts htd
    obtain ⟨us, hus, _, _⟩ := (hΓ.ok hts).und
    obtain ⟨ud, hud, _, hkd⟩ := (hΓ.ok htd).und
    have hus' : (P.underlying s).isSome = true := by rw [hus]; rfl
    split at h
    · rename_i k k' n e1 e2
      rw [e1] at hkd
      have hud' : P.underlying t = some (.int k) := by
        rw [hud]; cases ud <;> simp [kB] at hkd; rw [hkd]
      refine ⟨_, h, OkOp.same fun w0 w φ act hs hx => ⟨_, lift ?_, by simp only [Rel]; rfl⟩⟩
      have := hop hx; rw [e2] at this; simp only [Rel] at this
      rw [this]
      cases us <;> simp [convert, run_underlying hus, run_underlying hud', Conv.intToInt]
    · rename_i k k' n e1 e2
      rw [e1] at hkd
      have hud' : P.underlying t = some (.float k) := by
        rw [hud]; cases ud <;> simp [kB] at hkd; rw [hkd]
      refine ⟨_, h, OkOp.same fun w0 w φ act hs hx => ⟨_, lift ?_, by simp only [Rel]; exact ⟨_, rfl, fofInt_FV k n⟩⟩⟩
      have := hop hx; rw [e2] at this; simp only [Rel] at this
      rw [this]
      exact run_convert_int_float w s t k' k n hus' hud'
    · rename_i k s' x' e1 e2
      rw [e1] at hkd
      have hud' : P.underlying t = some (.float k) := by
        rw [hud]; cases ud <;> simp [kB] at hkd; rw [hkd]
      cases ek : fkEq s' k
      · rw [ek] at h
        have h : fcvtOk s' k x' = true ∧ K (.flt k (fcvt s' k x')) := by
          simp only [cond_false] at h
          cases ew : wide s' k
          · rw [ew] at h; exact h
          · rw [ew] at h
            refine ⟨?_, h⟩
            cases s' <;> cases k <;> simp only [wide, Bool.false_eq_true] at ew
            exact widen_ok x'
        refine ⟨_, h.2, OkOp.drawn fun w0 w φ act hs hx => ?_⟩
        have := hop hx; rw [e2] at this; simp only [Rel] at this
        obtain ⟨b, hb, hf⟩ := this
        obtain ⟨v, w', h1, h2⟩ := run_fcvt (P := P) (w := w) hus' hud' hf h.1
        exact ⟨v, w', lift (by rw [hb]; exact h1), h2⟩
      · rw [ek] at h
        obtain rfl := fkEq_eq ek
        refine ⟨_, h, OkOp.drawn fun w0 w φ act hs hx => ?_⟩
        have := hop hx; rw [e2] at this; simp only [Rel] at this
        obtain ⟨b, hb, hf⟩ := this
        obtain ⟨v, w', h1, h2⟩ := run_fcvt (P := P) (w := w) hus' hud' hf (by simp [fcvtOk])
        rw [show fcvt s' s' x' = x' by simp [fcvt]] at h2
        exact ⟨v, w', lift (by rw [hb]; exact h1), h2⟩
    · rename_i k s' x' e1 e2
      rw [e1] at hkd
      have hud' : P.underlying t = some (.int k) := by
        rw [hud]; cases ud <;> simp [kB] at hkd; rw [hkd]
      obtain ⟨n, hn, hK⟩ := h
      refine ⟨_, hK, OkOp.same fun w0 w φ act hs hx => ?_⟩
      have := hop hx; rw [e2] at this; simp only [Rel] at this
      obtain ⟨b, hb, hf⟩ := this
      have hnn : isNan s' b = false := by
        by_cases c : isNan s' b = true
        · rw [hf.nan] at c
          unfold f2i at hn
          unfold isNan Ieee.Datum.isNaN at c
          unfold FloatKind.decode at hn
          cases hr : s'.format.read x' <;> simp [hr] at c
          simp [hr, Ieee.Datum.toInt, Ieee.Datum.integral] at hn
        · simpa using c
      have := hf.eq_of hnn
      subst this
      refine ⟨.int k n, lift ?_, by simp only [Rel]⟩
      rw [hb]
      exact run_convert_float_int w s t s' k b n hus' hud' hn
    · rename_i b e1 e2
      rw [e1] at hkd
      have hud' : P.underlying t = some .string := by
        rw [hud]; cases ud <;> simp [kB] at hkd; rfl
      refine ⟨_, h, OkOp.same fun w0 w φ act hs hx => ⟨_, lift ?_, by simp only [Rel]; rfl⟩⟩
      have := hop hx; rw [e2] at this; simp only [Rel] at this
      rw [this]
      cases us <;> simp [convert, run_underlying hus, run_underlying hud']
    · exact h.elim
  · exact h.elim

/-- Cells that lie at an address, read as a value of a type. -/
theorem run_loadCs {t : TypeId} {td : TD} (ht : TDOK P t td) {w : World} {F G : Nat → Prop} {φ : Nat → Value} {b o : Nat} {cs : List AV} {us : List Value}
    (hr : RelL w F G φ H cs us) (hc : cellsAt w b o us) (h : loadCs td cs K) :
    ∃ av, K av ∧ ∃ v, (loadVar t ⟨b, o, none⟩).run P w = .ok v w ∧ Rel w F G φ H av v := by
  unfold loadCs at h
  cases e : td.ag
  · rw [e] at h
    cases cs with
    | nil => exact h.elim
    | cons c cs =>
      simp only [cond_false, force_eq] at h
      simp only [RelL] at hr
      obtain ⟨v, vs, rfl, h1, h2⟩ := hr
      refine ⟨c, h, v, ?_, h1⟩
      have h0 := hc 0 v (by simp)
      simp only [loadVar, Sem.run_bind, ht.isAgg w, e, Result.andThen_ok]
      simp only [Nat.add_zero] at h0
      simp [load, Sem.run, h0]
  · rw [e] at h
    cases e2 : Nat.ble td.n cs.length
    · rw [e2] at h; exact h.elim
    · rw [e2] at h
      refine ⟨_, h, .agg (us.take td.n).toArray, ?_, by simp only [Rel]; exact ⟨_, rfl, hr.take _⟩⟩
      have hl := hr.length
      have hle : td.n ≤ cs.length := Nat.le_of_ble_eq_true e2
      have : (us.take td.n).length = td.n := by simp; omega
      simp only [loadVar, Sem.run_bind, ht.isAgg w, e, Result.andThen_ok, ht.size w, if_true]
      have key := run_loadCells_list (P := P) w ⟨b, o, none⟩ (us.take td.n) (fun j v hj => by
        have hj' : us[j]? = some v := by
          rw [List.getElem?_take] at hj
          split at hj
          · exact hj
          · cases hj
        have := hc j v hj'
        simp only [Addr.add]
        split
        · rename_i hz; subst hz; simpa using this
        · exact this)
      rw [this] at key
      simp only [key, Result.andThen_ok]
      rfl

theorem run_loadAt {t : TypeId} {a : Addr} {w : World} {v : Value} (h : (loadVar t a).run P w = .ok v w) : (Instr.loadAt t (.pointer (some a))).run P w = .ok v w := by
  simp only [Instr.loadAt, Instr.sureAddr, Sem.run_bind, Sem.run_pure, Result.andThen_ok, h]

theorem cellsAt.drop {w : World} {b o : Nat} {us : List Value} (n : Nat) (h : cellsAt w b o us) : cellsAt w b (o + n) (us.drop n) := by
  intro j u hj
  have := h (n + j) u (by simpa using hj)
  rw [show o + n + j = o + (n + j) by omega]; exact this

theorem GoodC.box_cells {w : World} {F G : Nat → Prop} {φ : Nat → Value} {id : Nat} {cs : List AV} (h : GoodC w F G φ H id (.box cs)) :
    ∃ b us, φ id = .pointer (some ⟨b, 0, none⟩) ∧ RelL w F G φ H cs us ∧ cellsAt w b 0 us := by
  obtain ⟨b, T, us, h1, h2, h3⟩ := h
  refine ⟨b, us, h1, h3, fun j u hj => ?_⟩
  simp only [World.cell?, h2, Nat.zero_add]
  simpa using hj

theorem GoodC.row_cells {w : World} {F G : Nat → Prop} {φ : Nat → Value} {id : Nat} {e : TypeId} {t : STy} {l : List t.S} (h : GoodC w F G φ H id (.row e t l)) {i : Nat} {x : t.S} (hx : l[i]? = some x) :
    ∃ b cap us, φ id = .slice (some ⟨b, 0, none⟩) l.length cap ∧ us.length = t.n ∧ RdC w G t x us ∧ cellsAt w b (i * t.n) us := by
  rcases h with ⟨h0, _⟩ | ⟨b, cap, vs, h1, h2, h3, _, h4, h5⟩
  · subst h0; simp at hx
  · obtain ⟨us, e1, e2, e3⟩ := h5 i x hx
    refine ⟨b, cap, us, h1, e1, e2, fun j u hj => ?_⟩
    simp only [World.cell?, h2]
    simpa using e3 j u hj

theorem aload_sound (hΓ : TabOK P Γ) {t ty : TypeId} {x : Operand} {d : Option Tmp} {pos : String} {af : Array Edge} {g : Option (Nat × Bool)}
    (h : aload Γ H t (avOf E x) K) : ∃ av, K av ∧ OkOp P E H ⟨d, .load t x, ty, pos, af, g⟩ av := by
  have hop : ∀ {w0 : Base} {w : World} {φ : Nat → Value} {act : Act}, (∀ z, z ∈ (Op.load t x).operands → Rel w (Fr φ H) (Gr w0 φ H) φ H (avOf E z) (act.eval z)) →
      Rel w (Fr φ H) (Gr w0 φ H) φ H (avOf E x) (act.eval x) := fun hx => hx x (by simp [Op.operands])
  have lift : ∀ {ρ : Operand → Value} {a : Addr} {w : World} {v : Value}, ρ x = .pointer (some a) → (loadVar t a).run P w = .ok v w → (execOp ρ ⟨d, .load t x, ty, pos, af, g⟩).run P w = .ok (.value v) w := by
    intro ρ a w v he hr
    simp only [execOp, he, Sem.run_bind, run_loadAt hr, Result.andThen_ok]; rfl
  -- what 'K' is given does not hang on the world
  have pick : ∀ {td : TD} {cs : List AV}, loadCs td cs K → ∃ av, K av ∧ loadCs td cs (fun a => a = av) := by
    intro td cs hl
    unfold loadCs at hl ⊢
    cases e : td.ag
    · rw [e] at hl
      cases cs with
      | nil => exact hl.elim
      | cons c cs => simp only [cond_false, force_eq] at hl ⊢; exact ⟨c, hl, rfl⟩
    · rw [e] at hl
      cases e2 : Nat.ble td.n cs.length
      · rw [e2] at hl; exact hl.elim
      · rw [e2] at hl; exact ⟨_, hl, rfl⟩
  unfold aload at h
  split at h
  · rename_i td htd
    have ht := hΓ.ok htd
    split at h
    · rename_i cs e1
      obtain ⟨av, hK, hl⟩ := pick h
      refine ⟨av, hK, OkOp.same fun w0 w φ act hs hx => ?_⟩
      have := hop hx; rw [e1] at this; simp only [Rel] at this
      obtain ⟨b, off, us, h1, h2, h3, h4, h5⟩ := this
      obtain ⟨_, rfl, v, hv, hrel⟩ := run_loadCs ht h4 h5 hl
      exact ⟨v, lift h1 hv, hrel⟩
    · rename_i id off e1
      split at h
      · rename_i cs hh
        obtain ⟨av, hK, hl⟩ := pick h
        refine ⟨av, hK, OkOp.same fun w0 w φ act hs hx => ?_⟩
        have := hop hx; rw [e1] at this; simp only [Rel] at this
        obtain ⟨b, h1, h2⟩ := this.2 cs hh
        obtain ⟨b', us, k1, k2, k3⟩ := (hs.good id _ hh).box_cells
        rw [h1] at k1; cases k1
        have k4 := k3.drop off
        simp only [Nat.zero_add] at k4
        obtain ⟨_, rfl, v, hv, hrel⟩ := run_loadCs ht (k2.drop off) k4 hl
        exact ⟨v, lift h2 hv, hrel⟩
      · exact h.elim
    · rename_i id i off e1
      split at h
      · rename_i e st l hh
        obtain ⟨x', hx', h⟩ := h
        obtain ⟨av, hK, hl⟩ := pick h
        refine ⟨av, hK, OkOp.same fun w0 w φ act hs hx => ?_⟩
        have := hop hx; rw [e1] at this; simp only [Rel] at this
        obtain ⟨b, c, h1, h2⟩ := this.2 e st l hh
        obtain ⟨b', cap, us, k1, k2, k3, k4⟩ := (hs.good id _ hh).row_cells hx'
        rw [h1] at k1; cases k1
        have k5 := k4.drop off
        have k6 := (enc_rel (w := w) (F := Fr φ H) (G := Gr w0 φ H) (φ := φ) (H := H) true st x' us k3).drop off
        obtain ⟨_, rfl, v, hv, hrel⟩ := run_loadCs ht k6 k5 hl
        exact ⟨v, lift h2 hv, hrel⟩
      · exact h.elim
    · exact h.elim
  · exact h.elim

theorem kB_strct {P : Program} {fs : List (Nat × Nat × Bool)} {u : TypeDesc} (h : kB P (.strct fs) u = true) {f off sz : Nat} {ag : Bool} (hf : fs[f]? = some (off, sz, ag)) :
    ∃ fields fd, u = .struct fields ∧ fields[f]? = some fd ∧ fd.offset = off ∧ (P.info? fd.type).map (·.size) = some sz ∧ (P.underlying fd.type).map aggOf = some ag := by
  cases u <;> simp only [kB, Bool.false_eq_true, decide_eq_true_eq] at h
  rename_i fields
  have h1 := congrArg (fun l => l[f]?) h
  simp only [List.getElem?_map, hf, Option.map_some] at h1
  cases hfd : fields.toList[f]? with
  | none => rw [hfd] at h1; simp at h1
  | some fd =>
    rw [hfd] at h1
    simp only [Option.map_some, Option.some.injEq, Prod.mk.injEq] at h1
    exact ⟨fields, fd, rfl, by simpa using hfd, h1.1, h1.2.1, h1.2.2⟩

theorem afield_sound (hΓ : TabOK P Γ) {s ty : TypeId} {x : Operand} {f : Nat} {d : Option Tmp} {pos : String} {af : Array Edge} {g : Option (Nat × Bool)}
    (h : afield Γ H s (avOf E x) f K) : ∃ av, K av ∧ OkOp P E H ⟨d, .fieldAddr s x f, ty, pos, af, g⟩ av := by
  have hop : ∀ {w0 : Base} {w : World} {φ : Nat → Value} {act : Act}, (∀ z, z ∈ (Op.fieldAddr s x f).operands → Rel w (Fr φ H) (Gr w0 φ H) φ H (avOf E z) (act.eval z)) →
      Rel w (Fr φ H) (Gr w0 φ H) φ H (avOf E x) (act.eval x) := fun hx => hx x (by simp [Op.operands])
  unfold afield at h
  split at h
  case h_2 => exact h.elim
  rename_i td htd
  obtain ⟨u, hu, _, hk⟩ := (hΓ.ok htd).und
  split at h
  case h_2 => exact h.elim
  rename_i fs hfs
  rw [hfs] at hk
  split at h
  case h_2 => exact h.elim
  rename_i off sz ag hf
  obtain ⟨fields, fd, rfl, hfd, ho, hsz, _⟩ := kB_strct hk hf
  cases hz : Nat.beq sz 0
  case true => rw [hz] at h; exact h.elim
  rw [hz] at h
  simp only [cond_false] at h
  have hsz0 : sz ≠ 0 := Nat.ne_of_beq_eq_false hz
  obtain ⟨fi, hfi, hfis⟩ : ∃ i, P.info? fd.type = some i ∧ i.size = sz := by
    cases hi : P.info? fd.type with
    | none => rw [hi] at hsz; cases hsz
    | some i => rw [hi] at hsz; simp at hsz; exact ⟨i, rfl, hsz⟩
  have lift : ∀ {ρ : Operand → Value} {a : Addr} {w : World}, ρ x = .pointer (some a) → (execOp ρ ⟨d, .fieldAddr s x f, ty, pos, af, g⟩).run P w = .ok (.value (.pointer (some (a.add off)))) w := by
    intro ρ a w he
    have hnz : ¬ fi.size = 0 := by omega
    simp [execOp, he, Instr.fieldAt, run_underlying hu, hfd, Instr.sureAddr, fieldPlace, sizeOf, typeInfo, program, Sem.run, hfi, hnz, ho]
  have hadd : ∀ (b o : Nat), (Addr.mk b o none).add off = ⟨b, o + off, none⟩ := by
    intro b o; unfold Addr.add; split
    · rename_i e; subst e; rfl
    · rfl
  split at h
  · rename_i cs e1
    refine ⟨_, h, OkOp.same fun w0 w φ act hs hx => ?_⟩
    have := hop hx; rw [e1] at this; simp only [Rel] at this
    obtain ⟨b, o, us, h1, h2, h3, h4, h5⟩ := this
    exact ⟨_, lift h1, by simp only [Rel]; exact ⟨b, o + off, us.drop off, by rw [hadd], h2, h3, h4.drop off, h5.drop off⟩⟩
  · rename_i id o e1
    split at h
    · rename_i cs hh
      refine ⟨_, h, OkOp.same fun w0 w φ act hs hx => ?_⟩
      have := hop hx; rw [e1] at this; simp only [Rel] at this
      obtain ⟨b, h1, h2⟩ := this.2 cs hh
      refine ⟨_, lift h2, ?_⟩
      simp only [Rel]
      exact ⟨this.1, fun cs' _ => ⟨b, h1, by rw [hadd]⟩⟩
    · exact h.elim
  · rename_i id i o e1
    split at h
    · rename_i e st l hh
      refine ⟨_, h, OkOp.same fun w0 w φ act hs hx => ?_⟩
      have := hop hx; rw [e1] at this; simp only [Rel] at this
      obtain ⟨b, c, h1, h2⟩ := this.2 e st l hh
      refine ⟨_, lift h2, ?_⟩
      simp only [Rel]
      refine ⟨this.1, fun e' st' l' hh' => ?_⟩
      rw [hh] at hh'; cases hh'
      exact ⟨b, c, h1, by rw [hadd]; congr 3; omega⟩
    · exact h.elim
  · exact h.elim

/-- A part of a struct's cells. -/
theorem apart_sound (hΓ : TabOK P Γ) {s ty : TypeId} {x : Operand} {f : Nat} {d : Option Tmp} {pos : String} {af : Array Edge} {g : Option (Nat × Bool)}
    (h : apart Γ s (avOf E x) f K) : ∃ av, K av ∧ OkOp P E H ⟨d, .field s x f, ty, pos, af, g⟩ av := by
  have hop : ∀ {w0 : Base} {w : World} {φ : Nat → Value} {act : Act}, (∀ z, z ∈ (Op.field s x f).operands → Rel w (Fr φ H) (Gr w0 φ H) φ H (avOf E z) (act.eval z)) →
      Rel w (Fr φ H) (Gr w0 φ H) φ H (avOf E x) (act.eval x) := fun hx => hx x (by simp [Op.operands])
  unfold apart at h
  split at h
  case h_2 => exact h.elim
  rename_i td htd
  obtain ⟨u, hu, _, hk⟩ := (hΓ.ok htd).und
  split at h
  case h_2 => exact h.elim
  rename_i fs hfs
  rw [hfs] at hk
  split at h
  case h_2 => exact h.elim
  rename_i off sz ag hf
  obtain ⟨fields, fd, rfl, hfd, ho, hsz, hag⟩ := kB_strct hk hf
  split at h
  case h_2 => exact h.elim
  rename_i cs e1
  obtain ⟨fi, hfi, hfis⟩ : ∃ i, P.info? fd.type = some i ∧ i.size = sz := by
    cases hi : P.info? fd.type with
    | none => rw [hi] at hsz; cases hsz
    | some i => rw [hi] at hsz; simp at hsz; exact ⟨i, rfl, hsz⟩
  obtain ⟨fu, hfu, hfua⟩ : ∃ u, P.underlying fd.type = some u ∧ aggOf u = ag := by
    cases hi : P.underlying fd.type with
    | none => rw [hi] at hag; cases hag
    | some i => rw [hi] at hag; simp at hag; exact ⟨i, rfl, hag⟩
  have hisag : ∀ w, (isAgg fd.type).run P w = .ok ag w := by
    intro w
    rw [← hfua]
    unfold Go.isAgg
    simp only [Sem.run_bind, run_underlying hfu, Result.andThen_ok]
    cases fu <;> rfl
  have hsize : ∀ w, (sizeOf fd.type).run P w = .ok sz w := by
    intro w; simp [sizeOf, typeInfo, program, Sem.run, hfi, hfis]
  cases ag
  · simp only [cond_false] at h
    cases hcs : cs.drop off with
    | nil => rw [hcs] at h; exact h.elim
    | cons c rest =>
      rw [hcs] at h
      simp only [force_eq] at h
      refine ⟨c, h, OkOp.same fun w0 w φ act hs hx => ?_⟩
      have := hop hx; rw [e1] at this; simp only [Rel] at this
      obtain ⟨us, h1, h2⟩ := this
      obtain ⟨u, hu1, hu2⟩ := h2.get off c (by have := congrArg (fun l => l[0]?) hcs; simpa using this)
      refine ⟨u, ?_, hu2⟩
      simp only [execOp, h1, Instr.field, Sem.run_bind, run_underlying hu, Result.andThen_ok, hfd, asAgg, Sem.run_pure, part, hisag, ho]
      have : us.toArray[off]? = some u := by simpa using hu1
      simp [this]
  · simp only [cond_true] at h
    refine ⟨_, h, OkOp.same fun w0 w φ act hs hx => ?_⟩
    have := hop hx; rw [e1] at this; simp only [Rel] at this
    obtain ⟨us, h1, h2⟩ := this
    refine ⟨.agg ((us.drop off).take sz).toArray, ?_, by simp only [Rel]; exact ⟨_, rfl, (h2.drop off).take sz⟩⟩
    simp only [execOp, h1, Instr.field, Sem.run_bind, run_underlying hu, Result.andThen_ok, hfd, asAgg, Sem.run_pure, part, hisag, ho, if_true, hsize]
    congr 3
    simp [List.extract_eq_take_drop]

theorem indexAt_run {t : TypeId} {e : TypeId} {n : Nat} {w : World} {a : Addr} {len cap : Nat} {k : IntKind} {m : Int} (hu : P.underlying t = some (.slice e)) (hn : (sizeOf e).run P w = .ok n w)
    (h0 : 0 ≤ m) (h1 : m < len) : (Instr.indexAt t (.slice (some a) len cap) (.int k m)).run P w = .ok (.pointer (some (a.add (m.toNat * n)))) w := by
  simp only [Instr.indexAt, asIntOf, Sem.run_bind, Sem.run_pure, Result.andThen_ok, run_underlying hu]
  simp only [h0, h1, and_self, if_true, Sem.run_bind, hn, Result.andThen_ok, Sem.run_pure]

theorem indexAt_arr_run {t : TypeId} {e : TypeId} {n : Nat} {w : World} {a : Addr} {len : Nat} {k : IntKind} {m : Int} (hu : P.underlying t = some (.array len e)) (hn : (sizeOf e).run P w = .ok n w)
    (h0 : 0 ≤ m) (h1 : m < len) : (Instr.indexAt t (.pointer (some a)) (.int k m)).run P w = .ok (.pointer (some (a.add (m.toNat * n)))) w := by
  simp only [Instr.indexAt, asIntOf, Instr.sureAddr, Sem.run_bind, Sem.run_pure, Result.andThen_ok, run_underlying hu]
  by_cases hl : len ≤ 1
  · simp [h0, h1, hn]
  · simp [h0, h1, hn]

theorem kB_arr {P : Program} {len esz : Nat} {u : TypeDesc} (h : kB P (.arr len esz) u = true) : ∃ e, u = .array len e ∧ ∃ i, P.info? e = some i ∧ i.size = esz := by
  cases u <;> simp [kB] at h
  rename_i len' e
  obtain ⟨rfl, h⟩ := h
  refine ⟨e, rfl, ?_⟩
  cases hi : P.info? e with
  | none => rw [hi] at h; simp at h
  | some i => rw [hi] at h; simp at h; exact ⟨i, rfl, h⟩

theorem aindexAddr_sound (hΓ : TabOK P Γ) {t ty : TypeId} {x i : Operand} {d : Option Tmp} {pos : String} {af : Array Edge} {g : Option (Nat × Bool)}
    (h : aindexAddr Γ H t (avOf E x) (avOf E i) K) : ∃ av, K av ∧ OkOp P E H ⟨d, .indexAddr t x i, ty, pos, af, g⟩ av := by
  have hop : ∀ {w0 : Base} {w : World} {φ : Nat → Value} {act : Act}, (∀ z, z ∈ (Op.indexAddr t x i).operands → Rel w (Fr φ H) (Gr w0 φ H) φ H (avOf E z) (act.eval z)) →
      Rel w (Fr φ H) (Gr w0 φ H) φ H (avOf E x) (act.eval x) ∧ Rel w (Fr φ H) (Gr w0 φ H) φ H (avOf E i) (act.eval i) := fun hx => ⟨hx x (by simp [Op.operands]), hx i (by simp [Op.operands])⟩
  have lift : ∀ {ρ : Operand → Value} {w : World} {v u1 u2 : Value}, ρ x = u1 → ρ i = u2 → (Instr.indexAt t u1 u2).run P w = .ok v w → (execOp ρ ⟨d, .indexAddr t x i, ty, pos, af, g⟩).run P w = .ok (.value v) w := by
    intro ρ w v u1 u2 h1 h2 hr
    simp only [execOp, h1, h2, Sem.run_bind, hr, Result.andThen_ok]; rfl
  have hadd : ∀ (b o n : Nat), (Addr.mk b o none).add n = ⟨b, o + n, none⟩ := by
    intro b o n; unfold Addr.add; split
    · rename_i e; subst e; rfl
    · rfl
  unfold aindexAddr at h
  split at h
  case h_2 => exact h.elim
  rename_i td k m htd ei
  obtain ⟨u, hu, _, hk⟩ := (hΓ.ok htd).und
  split at h
  · rename_i e st bts fr t' l hkk ex
    rw [hkk] at hk
    obtain ⟨hu', hsz⟩ : P.underlying t = some (.slice e) ∧ ∃ ie, P.info? e = some ie ∧ ie.size = st.n := by
      rw [hu]
      cases u <;> simp [kB] at hk
      obtain ⟨rfl, hk⟩ := hk
      refine ⟨rfl, ?_⟩
      cases hi : P.info? e with
      | none => rw [hi] at hk; simp at hk
      | some ie => rw [hi] at hk; simp at hk; exact ⟨ie, rfl, hk.1.1⟩
    obtain ⟨ie, hie, hies⟩ := hsz
    cases hb : Nat.beq st.n t'.n
    · rw [hb] at h; exact h.elim
    · rw [hb] at h
      have hbn := Nat.eq_of_beq_eq_true hb
      simp only [cond_true] at h
      obtain ⟨y, ⟨h0, hy⟩, hK⟩ := h
      refine ⟨_, hK, OkOp.same fun w0 w φ act hs hx => ?_⟩
      obtain ⟨hx1, hi1⟩ := hop hx
      rw [ex] at hx1; rw [ei] at hi1; simp only [Rel] at hx1 hi1
      have hlt : m.toNat < l.length := by
        rcases Nat.lt_or_ge m.toNat l.length with h | h
        · exact h
        · simp [List.getElem?_eq_none h] at hy
      rcases hx1 with ⟨hl, _⟩ | ⟨b, off, cap, h1, h2, h3, h4, h5⟩
      · subst hl; simp at hlt
      · obtain ⟨us, e1, e2, e3⟩ := h5 _ _ hy
        refine ⟨_, lift h1 hi1 (indexAt_run hu' (n := st.n) (by simp [sizeOf, typeInfo, program, Sem.run, hie, hies]) h0 (by omega)), ?_⟩
        simp only [Rel, hadd]
        refine ⟨b, _, us, rfl, ?_, h4, enc_rel fr t' y us e2, by rw [hbn]; exact e3⟩
        cases fr
        · exact h3
        · exact h3.2
  · rename_i e st bts id hkk ex
    rw [hkk] at hk
    obtain ⟨hu', hsz⟩ : P.underlying t = some (.slice e) ∧ ∃ ie, P.info? e = some ie ∧ ie.size = st.n := by
      rw [hu]
      cases u <;> simp [kB] at hk
      obtain ⟨rfl, hk⟩ := hk
      refine ⟨rfl, ?_⟩
      cases hi : P.info? e with
      | none => rw [hi] at hk; simp at hk
      | some ie => rw [hi] at hk; simp at hk; exact ⟨ie, rfl, hk.1.1⟩
    obtain ⟨ie, hie, hies⟩ := hsz
    split at h
    case h_2 => exact h.elim
    rename_i e' t' l hh
    cases hb : Nat.beq st.n t'.n
    · rw [hb] at h; exact h.elim
    · rw [hb] at h
      have hbn := Nat.eq_of_beq_eq_true hb
      simp only [cond_true] at h
      obtain ⟨⟨h0, hlt⟩, hK⟩ := h
      refine ⟨_, hK, OkOp.same fun w0 w φ act hs hx => ?_⟩
      obtain ⟨hx1, hi1⟩ := hop hx
      rw [ex] at hx1; rw [ei] at hi1; simp only [Rel] at hx1 hi1
      have hx0 := hx1.1
      have hx1 := hx1.2 _ _ _ hh
      obtain ⟨y, hy⟩ : ∃ y, l[m.toNat]? = some y := ⟨l[m.toNat]'(by omega), by simp⟩
      obtain ⟨b, cap, us, k1, k2, k3, k4⟩ := (hs.good id _ hh).row_cells hy
      rw [k1] at hx1
      refine ⟨_, lift hx1 hi1 (indexAt_run hu' (n := st.n) (by simp [sizeOf, typeInfo, program, Sem.run, hie, hies]) h0 (by omega)), ?_⟩
      simp only [Rel, hadd]
      refine ⟨hx0, fun e'' t'' l'' hh'' => ?_⟩
      rw [hh] at hh''; cases hh''
      exact ⟨b, cap, k1, by rw [hbn]; simp⟩
  · rename_i len esz cs hkk ex
    rw [hkk] at hk
    obtain ⟨e, rfl, ie, hie, hies⟩ := kB_arr hk
    obtain ⟨⟨h0, hlt⟩, hK⟩ := h
    refine ⟨_, hK, OkOp.same fun w0 w φ act hs hx => ?_⟩
    obtain ⟨hx1, hi1⟩ := hop hx
    rw [ex] at hx1; rw [ei] at hi1; simp only [Rel] at hx1 hi1
    obtain ⟨b, o, us, h1, h2, h3, h4, h5⟩ := hx1
    exact ⟨_, lift h1 hi1 (indexAt_arr_run hu (n := esz) (by simp [sizeOf, typeInfo, program, Sem.run, hie, hies]) h0 hlt),
      by simp only [Rel]; exact ⟨b, _, us.drop (m.toNat * esz), by rw [hadd], h2, h3, h4.drop _, h5.drop _⟩⟩
  · rename_i len esz id o hkk ex
    rw [hkk] at hk
    obtain ⟨e, rfl, ie, hie, hies⟩ := kB_arr hk
    split at h
    case h_2 => exact h.elim
    rename_i cs hh
    obtain ⟨⟨h0, hlt⟩, hK⟩ := h
    refine ⟨_, hK, OkOp.same fun w0 w φ act hs hx => ?_⟩
    obtain ⟨hx1, hi1⟩ := hop hx
    rw [ex] at hx1; rw [ei] at hi1; simp only [Rel] at hx1 hi1
    obtain ⟨b, h1, h2⟩ := hx1.2 cs hh
    exact ⟨_, lift h2 hi1 (indexAt_arr_run hu (n := esz) (by simp [sizeOf, typeInfo, program, Sem.run, hie, hies]) h0 hlt),
      by simp only [Rel]; exact ⟨hx1.1, fun cs' _ => ⟨b, h1, by rw [hadd]⟩⟩⟩
  · exact h.elim

theorem aindex_sound (hΓ : TabOK P Γ) {t ty : TypeId} {x i : Operand} {d : Option Tmp} {pos : String} {af : Array Edge} {g : Option (Nat × Bool)}
    (h : aindex Γ t (avOf E x) (avOf E i) K) : ∃ av, K av ∧ OkOp P E H ⟨d, .index t x i, ty, pos, af, g⟩ av := by
  have hop : ∀ {w0 : Base} {w : World} {φ : Nat → Value} {act : Act}, (∀ z, z ∈ (Op.index t x i).operands → Rel w (Fr φ H) (Gr w0 φ H) φ H (avOf E z) (act.eval z)) →
      Rel w (Fr φ H) (Gr w0 φ H) φ H (avOf E x) (act.eval x) ∧ Rel w (Fr φ H) (Gr w0 φ H) φ H (avOf E i) (act.eval i) := fun hx => ⟨hx x (by simp [Op.operands]), hx i (by simp [Op.operands])⟩
  unfold aindex at h
  split at h
  case h_2 => exact h.elim
  rename_i td k m htd ei
  obtain ⟨u, hu, _, hk⟩ := (hΓ.ok htd).und
  split at h
  case h_2 => exact h.elim
  rename_i s hkk ex
  rw [hkk] at hk
  have hu' : P.underlying t = some .string := by rw [hu]; cases u <;> simp [kB] at hk; rfl
  obtain ⟨c, ⟨h0, hc⟩, hK⟩ := h
  refine ⟨_, hK, OkOp.same fun w0 w φ act hs hx => ⟨.int .u8 c.toNat, ?_, by simp only [Rel]⟩⟩
  obtain ⟨hx1, hi1⟩ := hop hx
  rw [ex] at hx1; rw [ei] at hi1; simp only [Rel] at hx1 hi1
  have hc' : s[m.toNat]? = some c := by
    rw [Array.getElem?_eq_some_iff] at hc
    obtain ⟨hl, hv⟩ := hc
    exact getElem?_eq_some_iff.2 ⟨hl, hv⟩
  simp only [execOp, hx1, hi1, Instr.index, asIntOf, Sem.run_bind, Sem.run_pure, Result.andThen_ok, run_underlying hu', h0, if_true, hc']

theorem aext_sound {x : Operand} {i : Nat} {ty : TypeId} {d : Option Tmp} {pos : String} {af : Array Edge} {g : Option (Nat × Bool)}
    (h : aext (avOf E x) i K) : ∃ av, K av ∧ OkOp P E H ⟨d, .extract x i, ty, pos, af, g⟩ av := by
  have hop : ∀ {w0 : Base} {w : World} {φ : Nat → Value} {act : Act}, (∀ z, z ∈ (Op.extract x i).operands → Rel w (Fr φ H) (Gr w0 φ H) φ H (avOf E z) (act.eval z)) →
      Rel w (Fr φ H) (Gr w0 φ H) φ H (avOf E x) (act.eval x) := fun hx => hx x (by simp [Op.operands])
  unfold aext at h
  split at h
  case h_2 => exact h.elim
  rename_i cs ex
  split at h
  case h_2 => exact h.elim
  rename_i c hc
  rw [force_eq] at h
  refine ⟨c, h, OkOp.same fun w0 w φ act hs hx => ?_⟩
  have hx1 := hop hx; rw [ex] at hx1; simp only [Rel] at hx1
  obtain ⟨us, h1, h2⟩ := hx1
  obtain ⟨u, hu1, hu2⟩ := h2.get i c hc
  refine ⟨u, ?_, hu2⟩
  have : us.toArray[i]? = some u := by simpa using hu1
  simp only [execOp, h1, Instr.extract, this, Sem.run_bind, Sem.run_pure, Result.andThen_ok]
end sound
end Go.V

namespace Go.V
open Go.RowKit
section sound
variable {P : Program} {Γ : Tab} {E : Env} {H : Heap} {K : AV → Prop}

theorem sliceBound_run {v : Value} {k : IntKind} {n : Int} {y : Nat} {code : BoundsCode} {w : World} (hv : v = .int k n) (h0 : 0 ≤ n) (h1 : n ≤ y) :
    (Instr.sliceBound v y code).run P w = .ok n.toNat w := by
  subst hv
  simp [Instr.sliceBound, asIntOf, h0, h1]

theorem optI_run {lo : Option Operand} {dflt n : Int} (h : optI E lo dflt = some n) {w : World} {F G : Nat → Prop} {φ : Nat → Value} {ρ : Operand → Value}
    (hr : ∀ x, lo = some x → Rel w F G φ H (avOf E x) (ρ x)) : (lo = none ∧ n = dflt) ∨ ∃ x k, lo = some x ∧ ρ x = .int k n := by
  unfold optI at h
  cases lo with
  | none => simp at h; exact .inl ⟨rfl, h.symm⟩
  | some x =>
    right
    simp only at h
    have := hr x rfl
    unfold intAV at h
    split at h
    · rename_i k m e
      simp at h; subst h
      rw [e] at this; simp only [Rel] at this
      exact ⟨x, k, rfl, this⟩
    · simp at h

theorem sliceBounds_run {b : Bool} {len cap : Nat} {lo hi : Option Operand} {m n : Int} (hlo : optI E lo 0 = some m) (hhi : optI E hi len = some n) {w : World} {F G : Nat → Prop} {φ : Nat → Value} {ρ : Operand → Value}
    (r1 : ∀ x, lo = some x → Rel w F G φ H (avOf E x) (ρ x)) (r2 : ∀ x, hi = some x → Rel w F G φ H (avOf E x) (ρ x)) (h0 : 0 ≤ m) (h1 : m ≤ n) (h2 : n ≤ len) (h3 : len ≤ cap) :
    (Instr.sliceBounds b len cap (lo.map ρ) (hi.map ρ) none).run P w = .ok (m.toNat, n.toNat, cap) w := by
  unfold Instr.sliceBounds
  rcases optI_run hhi r2 with ⟨rfl, rfl⟩ | ⟨x, k, rfl, hx⟩
  · rcases optI_run hlo r1 with ⟨rfl, rfl⟩ | ⟨y, k', rfl, hy⟩
    · simp
    · simp [sliceBound_run (P := P) hy h0 (show m ≤ (len : Nat) by omega)]
  · rcases optI_run hlo r1 with ⟨rfl, rfl⟩ | ⟨y, k', rfl, hy⟩
    · simp [sliceBound_run (P := P) hx (show 0 ≤ n by omega) (show n ≤ (cap : Nat) by omega)]
    · simp [sliceBound_run (P := P) hx (show 0 ≤ n by omega) (show n ≤ (cap : Nat) by omega), sliceBound_run (P := P) hy h0 (show m ≤ (n.toNat : Nat) by omega)]

theorem aslice_sound (hΓ : TabOK P Γ) {t ty : TypeId} {x : Operand} {lo hi : Option Operand} {d : Option Tmp} {pos : String} {af : Array Edge} {g : Option (Nat × Bool)}
    (h : aslice Γ E t x lo hi K) : ∃ av, K av ∧ OkOp P E H ⟨d, .slice t x lo hi none, ty, pos, af, g⟩ av := by
  have hop : ∀ {w0 : Base} {w : World} {φ : Nat → Value} {act : Act}, (∀ z, z ∈ (Op.slice t x lo hi none).operands → Rel w (Fr φ H) (Gr w0 φ H) φ H (avOf E z) (act.eval z)) →
      Rel w (Fr φ H) (Gr w0 φ H) φ H (avOf E x) (act.eval x) ∧ (∀ z, lo = some z → Rel w (Fr φ H) (Gr w0 φ H) φ H (avOf E z) (act.eval z)) ∧ (∀ z, hi = some z → Rel w (Fr φ H) (Gr w0 φ H) φ H (avOf E z) (act.eval z)) :=
    fun hx => ⟨hx x (by simp [Op.operands]), fun z hz => hx z (by subst hz; simp [Op.operands]), fun z hz => hx z (by subst hz; simp [Op.operands])⟩
  have lift : ∀ {ρ : Operand → Value} {w : World} {v : Value}, (Instr.sliceAt t (ρ x) (lo.map ρ) (hi.map ρ) none).run P w = .ok v w → (execOp ρ ⟨d, .slice t x lo hi none, ty, pos, af, g⟩).run P w = .ok (.value v) w := by
    intro ρ w v hr
    simp only [execOp, Option.map_none, Sem.run_bind, hr, Result.andThen_ok]; rfl
  unfold aslice at h
  split at h
  case h_2 => exact h.elim
  rename_i td htd
  obtain ⟨u, hu, _, hk⟩ := (hΓ.ok htd).und
  split at h
  · rename_i s hkk ex
    rw [hkk] at hk
    have hu' : P.underlying t = some .string := by rw [hu]; cases u <;> simp [kB] at hk; rfl
    split at h
    case h_2 => exact h.elim
    rename_i m n hlo hhi
    obtain ⟨⟨h0, h1, h2⟩, hK⟩ := h
    refine ⟨_, hK, OkOp.same fun w0 w φ act hs hx => ⟨_, lift ?_, by simp only [Rel]; rfl⟩⟩
    obtain ⟨hx1, r1, r2⟩ := hop hx
    rw [ex] at hx1; simp only [Rel] at hx1
    rw [hx1]
    simp only [Instr.sliceAt, Instr.slice, Sem.run_bind, run_underlying hu', Result.andThen_ok, Option.isSome_none, Bool.false_eq_true, if_false,
      sliceBounds_run (H := H) (P := P) (b := false) hlo hhi r1 r2 h0 h1 h2 (Nat.le_refl _), Sem.run_pure]
  · rename_i e st bts fr t' l hkk ex
    rw [hkk] at hk
    obtain ⟨hu', hsz⟩ : P.underlying t = some (.slice e) ∧ ∃ ie, P.info? e = some ie ∧ ie.size = st.n := by
      rw [hu]
      cases u <;> simp [kB] at hk
      obtain ⟨rfl, hk⟩ := hk
      refine ⟨rfl, ?_⟩
      cases hi : P.info? e with
      | none => rw [hi] at hk; simp at hk
      | some ie => rw [hi] at hk; simp at hk; exact ⟨ie, rfl, hk.1.1⟩
    obtain ⟨ie, hie, hies⟩ := hsz
    split at h
    case h_2 => exact h.elim
    rename_i m n hlo hhi
    cases hb : Nat.beq st.n t'.n
    · rw [hb] at h; exact h.elim
    rw [hb] at h
    have hbn := Nat.eq_of_beq_eq_true hb
    simp only [cond_true] at h
    obtain ⟨⟨h0, h1, h2⟩, hK⟩ := h
    refine ⟨_, hK, OkOp.same fun w0 w φ act hs hx => ?_⟩
    obtain ⟨hx1, r1, r2⟩ := hop hx
    rw [ex] at hx1; simp only [Rel] at hx1
    have hsize : (sizeOf e).run P w = .ok st.n w := by simp [sizeOf, typeInfo, program, Sem.run, hie, hies]
    have hrun : ∀ a cap, l.length ≤ cap → act.eval x = .slice a l.length cap →
        (Instr.sliceAt t (act.eval x) (lo.map act.eval) (hi.map act.eval) none).run P w = .ok (.slice (if cap = m.toNat then a else a.map (·.add (m.toNat * st.n))) (n.toNat - m.toNat) (cap - m.toNat)) w := by
      intro a cap hc hv
      rw [hv]
      simp only [Instr.sliceAt, Instr.slice, Sem.run_bind, run_underlying hu', Result.andThen_ok,
        sliceBounds_run (H := H) (P := P) (b := true) hlo hhi r1 r2 h0 h1 h2 hc, Sem.run_pure, hsize]
    rcases hx1 with ⟨hl, a, cap, hv⟩ | ⟨b, off, cap, h3, h4, h5, h6, h7⟩
    · have hl0 : l.length = 0 := by rw [hl]; rfl
      refine ⟨_, lift (hrun a cap (by omega) (by rw [hv, hl0])), ?_⟩
      simp only [Rel]
      left
      refine ⟨by rw [hl]; simp, ?_⟩
      exact ⟨_, _, by rw [show n.toNat - m.toNat = 0 by omega]⟩
    · refine ⟨_, lift (hrun _ cap h4 h3), ?_⟩
      simp only [Rel]
      by_cases hc : cap = m.toNat
      · left
        refine ⟨?_, ?_⟩
        · apply List.drop_eq_nil_of_le; simp; omega
        · exact ⟨_, _, by rw [show n.toNat - m.toNat = 0 by omega]⟩
      · right
        refine ⟨b, off + m.toNat * st.n, cap - m.toNat, ?_, ?_, h5, h6, ?_⟩
        · simp only [hc, if_false, Option.map_some]
          congr 1
          · unfold Addr.add; split
            · rename_i e0; rw [e0]; rfl
            · rfl
          · simp; omega
        · simp; omega
        · intro i y hy
          have hy' : l[m.toNat + i]? = some y := by
            rw [List.getElem?_drop, List.getElem?_take] at hy
            split at hy
            · exact hy
            · cases hy
          obtain ⟨us, e1, e2, e3⟩ := h7 _ _ hy'
          exact ⟨us, e1, e2, by rw [show off + m.toNat * st.n + i * t'.n = off + (m.toNat + i) * t'.n by rw [hbn, Nat.add_mul]; omega]; exact e3⟩
  · exact h.elim

/-! ### Structs -/

theorem zav_rel {w : World} {F G : Nat → Prop} {φ : Nat → Value} (v : Value) : Rel w F G φ H (zav (zcOf v)) v := by
  have f0 : ∀ k, FV k 0 0 := fun k => cOk_FV (by cases k <;> rfl)
  cases v <;> simp only [zcOf] <;> (try split) <;> simp only [zav, Rel] <;> (try simp_all) <;> (try exact f0 _)
  · exact ⟨0, 0, ⟨rfl, rfl⟩, f0 _, f0 _⟩

theorem zavs_rel {w : World} {F G : Nat → Prop} {φ : Nat → Value} : ∀ (vs : List Value), RelL w F G φ H ((vs.map zcOf).map zav) vs
  | [] => rfl
  | v :: vs => ⟨v, vs, rfl, zav_rel v, zavs_rel vs⟩

theorem fold_set (off : Nat) : ∀ (vs : List Value) (k : Nat) (cs : Array Value), off + k + vs.length ≤ cs.size →
    ((vs.zipIdx k).foldl (fun cs (p : Value × Nat) => cs.setIfInBounds (off + p.2) p.1) cs).toList = cs.toList.take (off + k) ++ vs ++ cs.toList.drop (off + k + vs.length)
  | [], k, cs, _ => by simp
  | v :: vs, k, cs, h => by
    simp only [List.zipIdx_cons, List.foldl_cons]
    rw [fold_set off vs (k + 1) _ (by simp at h ⊢; omega)]
    simp only [List.length_cons] at h ⊢
    apply List.ext_getElem?
    intro i
    have hsz : off + k < cs.size := by omega
    simp only [Array.toList_setIfInBounds, List.getElem?_append, List.length_append, List.length_take, List.length_set, List.length_cons, List.getElem?_take, List.getElem?_drop, List.getElem?_set, Array.length_toList]
    have a1 : min (off + (k+1)) cs.size = off + (k + 1) := by omega
    have a2 : min (off + k) cs.size = off + k := by omega
    rw [a1, a2]
    by_cases h1 : i < off + k
    · have c1 : i < off + (k + 1) := by omega
      have c2 : i < off + (k + 1) + vs.length := by omega
      have c3 : i < off + k + (vs.length + 1) := by omega
      have hne : ¬ off + k = i := by omega
      simp [h1, c1, c2, c3, hne]
    · by_cases h2 : i = off + k
      · subst h2
        have c1 : off + k < off + (k + 1) := by omega
        have c2 : off + k < off + (k + 1) + vs.length := by omega
        have c3 : off + k < off + k + (vs.length + 1) := by omega
        simp [c1, c2, c3, hsz]
      · have c1 : ¬ i < off + (k + 1) := by omega
        have c2 : ¬ i < off + k := by omega
        have hne : ¬ off + k = i := by omega
        by_cases h3 : i < off + k + (vs.length + 1)
        · have c3 : i < off + (k + 1) + vs.length := by omega
          simp only [c1, c2, c3, h3, if_true, if_false]
          have : i - (off + k) = (i - (off + (k + 1))) + 1 := by omega
          rw [this]; simp
        · have c3 : ¬ i < off + (k + 1) + vs.length := by omega
          simp only [c1, c2, c3, h3, if_false]
          have e1 : off + (k + 1) + vs.length + (i - (off + (k + 1) + vs.length)) = i := by omega
          have e2 : off + k + (vs.length + 1) + (i - (off + k + (vs.length + 1))) = i := by omega
          rw [e1, e2]; simp [hne]

theorem cellsC_rel {w0 : Base} {w : World} {φ : Nat → Value} (hs : Sim w0 w φ H) {F G : Nat → Prop} {a : AV} {v : Value} {cs : List AV} (hc : cellsC H a = some cs) (h : Rel w F G φ H a v) :
    RelL w F G φ H cs v.cells.toList := by
  have one : ∀ {a : AV}, Rel w F G φ H a v → (∀ cs, v ≠ .agg cs) → RelL w F G φ H [a] v.cells.toList := by
    intro a h hn
    refine ⟨v, [], ?_, h, rfl⟩
    cases v <;> simp [Value.cells] at hn ⊢
  unfold cellsC at hc
  split at hc
  · cases hc; simp only [Rel] at h; obtain ⟨us, rfl, h2⟩ := h; simpa [Value.cells] using h2
  · cases hc
  · cases hc
  · cases hc
  · rename_i id
    split at hc
    · rename_i e t l hh
      cases hc
      refine one h ?_
      simp only [Rel] at h
      rw [h.2 e t l hh]
      rcases hs.good id _ hh with ⟨_, h1⟩ | ⟨b, cap, vs, h1, _⟩ <;> rw [h1] <;> intro cs hc <;> cases hc
    · cases hc
  · rename_i id o
    split at hc
    · rename_i cs' hh
      cases hc
      refine one h ?_
      simp only [Rel] at h
      obtain ⟨b, _, h2⟩ := h.2 cs' hh
      rw [h2]; intro cs hc; cases hc
    · cases hc
  · rename_i id i o
    split at hc
    · rename_i e t l hh
      cases hc
      refine one h ?_
      simp only [Rel] at h
      obtain ⟨b, c, _, h2⟩ := h.2 e t l hh
      rw [h2]; intro cs hc; cases hc
    · cases hc
  · rename_i x n1 n2 n3 n4 n5 n6 n7
    cases hc
    refine one h ?_
    intro cs hcs
    cases a <;> simp only [Rel] at h <;> try (first | exact n2 rfl | exact n1 _ rfl | exact n3 _ rfl | exact n5 _ rfl | exact n6 _ _ rfl | exact n7 _ _ _ rfl)
    case tt => rw [h] at hcs; cases hcs
    case ff => rw [h] at hcs; cases hcs
    case val u => rw [← h, hcs] at n4; exact n4 _ rfl
    case flt => obtain ⟨b, rfl, _⟩ := h; cases hcs
    case cpx => obtain ⟨b, c, rfl, _⟩ := h; cases hcs
    case sl => rcases h with ⟨_, a, c, rfl⟩ | ⟨b, o, c, rfl, _⟩ <;> cases hcs
    case ptrR => obtain ⟨b, o, us, rfl, _⟩ := h; cases hcs
    case fn => obtain ⟨us, rfl, _⟩ := h; cases hcs

theorem fill_rel {w0 : Base} {w : World} {φ : Nat → Value} (hs : Sim w0 w φ H) {F G : Nat → Prop} {fs : List (Nat × Nat × Bool)} {ρ : Operand → Value} {place : Nat → Option (Nat × Nat)}
    (hpl : ∀ i off sz ag, fs[i]? = some (off, sz, ag) → place i = some (off, sz)) :
    ∀ (ps : List (Nat × Operand)) (zs cs : List AV) (cells : Array Value), (∀ p ∈ ps, Rel w F G φ H (avOf E p.2) (ρ p.2)) → RelL w F G φ H zs cells.toList →
      fillAV fs E H ps zs = some cs → ∃ cells', Instr.fill place cells (ps.map fun p => (p.1, ρ p.2)) = some cells' ∧ RelL w F G φ H cs cells'.toList
  | [], zs, cs, cells, _, hz, h => by
    simp only [fillAV, Option.some.injEq] at h
    subst h
    exact ⟨cells, rfl, hz⟩
  | (i, x) :: ps, zs, cs, cells, hp, hz, h => by
    simp only [fillAV] at h
    split at h
    case h_2 => cases h
    rename_i off sz ag hf
    split at h
    case h_1 => cases h
    rename_i c hc
    cases hb : (Nat.beq c.length sz && Nat.ble (off + sz) zs.length)
    · rw [hb] at h; cases h
    rw [hb] at h
    simp only [cond_true] at h
    simp only [Bool.and_eq_true] at hb
    have hb1 := Nat.eq_of_beq_eq_true hb.1
    have hb2 := Nat.le_of_ble_eq_true hb.2
    have hx := cellsC_rel hs hc (hp (i, x) (by simp))
    have hl1 := hx.length
    have hl2 := hz.length
    have hsz : (ρ x).cells.size = sz := by rw [← hb1, ← hl1, Array.length_toList]
    have hsz2 : off + sz ≤ cells.size := by rw [← Array.length_toList, hl2]; exact hb2
    have hfold := fold_set off (ρ x).cells.toList 0 cells (by rw [Array.length_toList]; omega)
    obtain ⟨cells', h1, h2⟩ := fill_rel hs hpl ps _ cs ((ρ x).cells.zipIdx.foldl (fun cs (p : Value × Nat) => cs.setIfInBounds (off + p.2) p.1) cells) (fun p hpp => hp p (by simp [hpp])) (by
      have : ((ρ x).cells.zipIdx.foldl (fun cs (p : Value × Nat) => cs.setIfInBounds (off + p.2) p.1) cells).toList = cells.toList.take off ++ (ρ x).cells.toList ++ cells.toList.drop (off + sz) := by
        rw [← Array.foldl_toList, Array.toList_zipIdx]
        rw [hfold]; simp only [Nat.add_zero, Array.length_toList, hsz]
      rw [this]
      exact RelL.append (RelL.append (hz.take off) hx) (hz.drop (off + sz))) h
    refine ⟨cells', ?_, h2⟩
    have hno1 : ¬ ((ρ x).cells.size ≠ sz) := by simp [hsz]
    simp only [List.map_cons, Instr.fill, hpl i off sz ag hf]
    have hcond : ((decide ((ρ x).cells.size ≠ sz)) || decide (off + (ρ x).cells.size > cells.size)) = false := by
      simp [hsz]; omega
    rw [if_neg (by rw [hcond]; exact Bool.false_ne_true)]
    exact h1

theorem mapM_fields (P : Program) (w : World) : ∀ (fields : List Field) (fs : List (Nat × Nat)), fields.map (fun f => (f.offset, (P.info? f.type).map (·.size))) = fs.map (fun p => (p.1, some p.2)) →
    (fields.mapM (fun f => do pure (f.offset, ← sizeOf f.type) : Field → Sem (Nat × Nat))).run P w = .ok fs w
  | [], [], _ => rfl
  | [], _ :: _, h => by simp at h
  | _ :: _, [], h => by simp at h
  | f :: fields, p :: fs, h => by
    simp only [List.map_cons, List.cons.injEq, Prod.mk.injEq] at h
    obtain ⟨⟨h1, h2⟩, h3⟩ := h
    cases hi : P.info? f.type with
    | none => rw [hi] at h2; cases h2
    | some i =>
      rw [hi] at h2; simp at h2
      have hsz : (sizeOf f.type).run P w = .ok i.size w := by simp [sizeOf, typeInfo, program, Sem.run, hi]
      simp only [List.mapM_cons, Sem.run_bind, Sem.run_pure, Result.andThen_ok, hsz]
      have ih := mapM_fields P w fields fs h3
      simp only [ih, Result.andThen_ok, h1, h2]

theorem abuild_sound (hΓ : TabOK P Γ) {t ty : TypeId} {ps : Array (Nat × Operand)} {d : Option Tmp} {pos : String} {af : Array Edge} {g : Option (Nat × Bool)}
    (h : abuild Γ E H t ps.toList K) : ∃ av, K av ∧ OkOp P E H ⟨d, .build t ps, ty, pos, af, g⟩ av := by
  unfold abuild at h
  split at h
  case h_2 => exact h.elim
  rename_i td htd
  have ht := hΓ.ok htd
  obtain ⟨u, hu, _, hk⟩ := ht.und
  obtain ⟨i, z, hi, _, hz, hzz⟩ := ht.info
  split at h
  case h_2 => exact h.elim
  rename_i fs hfs
  rw [hfs] at hk
  split at h
  case h_2 => exact h.elim
  rename_i cs hcs
  obtain ⟨fields, rfl, hfl⟩ : ∃ fields, u = .struct fields ∧ fields.toList.map (fun f => (f.offset, (P.info? f.type).map (·.size), (P.underlying f.type).map aggOf)) = fs.map (fun p => (p.1, some p.2.1, some p.2.2)) := by
    cases u <;> simp only [kB, Bool.false_eq_true, decide_eq_true_eq] at hk
    exact ⟨_, rfl, hk⟩
  have hfl2 : fields.toList.map (fun f => (f.offset, (P.info? f.type).map (·.size))) = (fs.map (fun p => (p.1, p.2.1))).map (fun p => (p.1, some p.2)) := by
    have := congrArg (List.map (fun (q : Nat × Option Nat × Option Bool) => (q.1, q.2.1))) hfl
    simpa [List.map_map, Function.comp_def] using this
  refine ⟨_, h, OkOp.same fun w0 w φ act hs hx => ?_⟩
  have hzr : RelL w (Fr φ H) (Gr w0 φ H) φ H (td.z.map zav) z.cells.toList := by rw [← hzz]; exact zavs_rel _
  obtain ⟨cells', h1, h2⟩ := fill_rel (E := E) hs (F := Fr φ H) (G := Gr w0 φ H) (fs := fs) (ρ := act.eval) (place := fun i => ((fs.map (fun p => (p.1, p.2.1))).toArray)[i]?)
    (fun i off sz ag hf => by simp [hf]) ps.toList _ cs z.cells (fun p hp => hx p.2 (by
      simp only [Op.operands, Array.mem_def, List.mem_map]
      exact ⟨p, hp, rfl⟩)) hzr hcs
  refine ⟨.agg cells', ?_, by simp only [Rel]; exact ⟨cells'.toList, by simp, h2⟩⟩
  have hm := mapM_fields P w fields.toList _ hfl2
  simp only [execOp, Instr.build, zeroValue, Sem.run_bind, run_typeInfo w hi, Result.andThen_ok, hz, Sem.run_pure, run_underlying hu]
  rw [Array.mapM_eq_mapM_toList]
  simp only [Sem.run_map, hm, Result.andThen_ok]
  have h1' : Instr.fill (fun x => (fs.map (fun p => (p.1, p.2.1))).toArray[x]?) z.cells (ps.map fun x => (x.1, act.eval x.2)).toList = some cells' := by
    rw [Array.toList_map]; exact h1
  rw [show (Array.map (fun (x : Nat × Operand) => match x with | (i, x) => (i, act.eval x)) ps).toList = (ps.map fun x => (x.1, act.eval x.2)).toList from rfl]
  simp only [h1', Sem.run_pure, Result.andThen_ok]

theorem abuiltin_sound (hΓ : TabOK P Γ) {b : Builtin} {args : Array Operand} {ts : Array TypeId} {ty : TypeId} {d : Option Tmp} {pos : String} {af : Array Edge} {g : Option (Nat × Bool)}
    (h : abuiltin Γ E H b args.toList ts.toList K) : ∃ av, K av ∧ OkOp P E H ⟨d, .call ⟨.builtin b, args, ts⟩, ty, pos, af, g⟩ av := by
  have lift : ∀ {ρ : Operand → Value} {w : World} {v : Value}, (builtin b ts ty (args.map fun | .const _ => true | _ => false) (args.map ρ)).run P w = .ok (.value v) w →
      (execOp ρ ⟨d, .call ⟨.builtin b, args, ts⟩, ty, pos, af, g⟩).run P w = .ok (.value v) w := by
    intro ρ w v hr
    simp only [execOp, resolve, invoke, Sem.run_bind, Sem.run_pure, Result.andThen_ok]
    exact hr
  have hop : ∀ {w : World} {F G : Nat → Prop} {φ : Nat → Value} {act : Act}, (∀ z, z ∈ (Op.call ⟨.builtin b, args, ts⟩).operands → Rel w F G φ H (avOf E z) (act.eval z)) →
      ∀ z, z ∈ args → Rel w F G φ H (avOf E z) (act.eval z) := fun hx z hz => hx z (by simpa [Op.operands, Call.operands] using hz)
  unfold abuiltin at h
  split at h
  · rename_i x t ha ht
    have ha' : args = #[x] := by cases args; simpa using ha
    have ht' : ts = #[t] := by cases ts; simpa using ht
    subst ha'; subst ht'
    split at h
    case h_2 => exact h.elim
    rename_i td htd
    obtain ⟨u, hu, _, hk⟩ := (hΓ.ok htd).und
    split at h
    · rename_i s hkk ex
      rw [hkk] at hk
      have hu' : P.underlying t = some .string := by rw [hu]; cases u <;> simp [kB] at hk; rfl
      refine ⟨_, h, OkOp.same fun w0 w φ act hs hx => ⟨_, lift ?_, by simp only [Rel]; rfl⟩⟩
      have := hop hx x (by simp); rw [ex] at this; simp only [Rel] at this
      simp [builtin, Builtin.len_, this, run_underlying hu', goInt]
    · rename_i e st bts fr t' l hkk ex
      rw [hkk] at hk
      have hu' : P.underlying t = some (.slice e) := by rw [hu]; cases u <;> simp [kB] at hk; rw [hk.1]
      refine ⟨_, h, OkOp.same fun w0 w φ act hs hx => ⟨_, lift ?_, by simp only [Rel]; rfl⟩⟩
      have := hop hx x (by simp); rw [ex] at this; simp only [Rel] at this
      rcases this with ⟨hl, a, c, hv⟩ | ⟨b', off, c, hv, _⟩
      · simp [builtin, Builtin.len_, hv, run_underlying hu', goInt, hl]
      · simp [builtin, Builtin.len_, hv, run_underlying hu', goInt]
    · rename_i e st bts a n c hkk ex
      rw [hkk] at hk
      have hu' : P.underlying t = some (.slice e) := by rw [hu]; cases u <;> simp [kB] at hk; rw [hk.1]
      refine ⟨_, h, OkOp.same fun w0 w φ act hs hx => ⟨_, lift ?_, by simp only [Rel]; rfl⟩⟩
      have := hop hx x (by simp); rw [ex] at this; simp only [Rel] at this
      simp [builtin, Builtin.len_, this, run_underlying hu', goInt]
    · rename_i e st bts id hkk ex
      rw [hkk] at hk
      have hu' : P.underlying t = some (.slice e) := by rw [hu]; cases u <;> simp [kB] at hk; rw [hk.1]
      split at h
      case h_2 => exact h.elim
      rename_i e' t' l hh
      refine ⟨_, h, OkOp.same fun w0 w φ act hs hx => ⟨_, lift ?_, by simp only [Rel]; rfl⟩⟩
      have := hop hx x (by simp); rw [ex] at this; simp only [Rel] at this
      have hv := this.2 _ _ _ hh
      rcases hs.good id _ hh with ⟨hl, h1⟩ | ⟨b', cap, vs, h1, _⟩
      · rw [h1] at hv; simp [builtin, Builtin.len_, hv, run_underlying hu', goInt, hl]
      · rw [h1] at hv; simp [builtin, Builtin.len_, hv, run_underlying hu', goInt]
    · exact h.elim
  · rename_i _ x y ha
    have ha' : args = #[x, y] := by cases args; simpa using ha
    subst ha'
    split at h
    case h_2 => exact h.elim
    rename_i k a k' b' e1 e2
    refine ⟨_, h, OkOp.same fun w0 w φ act hs hx => ⟨_, lift ?_, by simp only [Rel]; rfl⟩⟩
    have h1 := hop hx x (by simp); have h2 := hop hx y (by simp); rw [e1] at h1; rw [e2] at h2; simp only [Rel] at h1 h2
    simp [builtin, Builtin.min_, Builtin.min2, h1, h2]
  · rename_i _ x y ha
    have ha' : args = #[x, y] := by cases args; simpa using ha
    subst ha'
    split at h
    case h_2 => exact h.elim
    rename_i k a k' b' e1 e2
    refine ⟨_, h, OkOp.same fun w0 w φ act hs hx => ⟨_, lift ?_, by simp only [Rel]; rfl⟩⟩
    have h1 := hop hx x (by simp); have h2 := hop hx y (by simp); rw [e1] at h1; rw [e2] at h2; simp only [Rel] at h1 h2
    simp [builtin, Builtin.max_, Builtin.max2, h1, h2]
  · rename_i _ x ha
    have ha' : args = #[x] := by cases args; simpa using ha
    subst ha'
    split at h
    case h_2 => exact h.elim
    rename_i k a b' e1
    refine ⟨_, h, OkOp.same fun w0 w φ act hs hx => ?_⟩
    have h1 := hop hx x (by simp); rw [e1] at h1; simp only [Rel] at h1
    obtain ⟨p, q, h1, h2, h3⟩ := h1
    exact ⟨.float k p, lift (by simp [builtin, h1, run_real]), by simp only [Rel]; exact ⟨p, rfl, h2⟩⟩
  · rename_i _ x ha
    have ha' : args = #[x] := by cases args; simpa using ha
    subst ha'
    split at h
    case h_2 => exact h.elim
    rename_i k a b' e1
    refine ⟨_, h, OkOp.same fun w0 w φ act hs hx => ?_⟩
    have h1 := hop hx x (by simp); rw [e1] at h1; simp only [Rel] at h1
    obtain ⟨p, q, h1, h2, h3⟩ := h1
    exact ⟨.float k q, lift (by simp [builtin, h1, run_imag]), by simp only [Rel]; exact ⟨q, rfl, h3⟩⟩
  · rename_i _ x y ha
    have ha' : args = #[x, y] := by cases args; simpa using ha
    subst ha'
    split at h
    case h_2 => exact h.elim
    rename_i k a k' b' e1 e2
    cases ek : fkEq k k'
    · rw [ek] at h; exact h.elim
    rw [ek] at h
    obtain rfl := fkEq_eq ek
    refine ⟨_, h, OkOp.same fun w0 w φ act hs hx => ?_⟩
    have h1 := hop hx x (by simp); have h2 := hop hx y (by simp); rw [e1] at h1; rw [e2] at h2; simp only [Rel] at h1 h2
    obtain ⟨p, h1, h3⟩ := h1
    obtain ⟨q, h2, h4⟩ := h2
    exact ⟨.complex k p q, lift (by simp [builtin, h1, h2, run_complex]), by simp only [Rel]; exact ⟨p, q, rfl, h3, h4⟩⟩
  · exact h.elim

theorem box_rel {w0 : Base} {w : World} {φ : Nat → Value} (hs : Sim w0 w φ H) {T : TypeId} {a : AV} {v : Value} {cs : List AV} (hc : cellsC H a = some cs)
    (h : Rel w (Fr φ H) (Gr w0 φ H) φ H a v) :
    Rel (w.alloc (.cells v.cells T)) (Fr φ H) (Gr w0 φ H) φ H (.ptrR cs) (.pointer (some ⟨w.heap.size, 0, none⟩)) := by
  have hb : Below w.heap.size w (w.alloc (.cells v.cells T)) := (Below.refl _ _).alloc (Nat.le_refl _) _
  have h1 := cellsC_rel hs hc h
  simp only [Rel]
  refine ⟨w.heap.size, 0, v.cells.toList, rfl, ?_, ?_, RelL.keep hb.size (keeps_below _ hb) (keeps_below _ hb) (HKeeps.refl _ _) _ _ h1, ?_⟩
  · intro id hid he
    have := hs.block_lt hid he
    omega
  · show w.heap.size < (w.heap.push _).size
    simp
  · intro j u hj
    have : (w.alloc (.cells v.cells T)).heap[w.heap.size]? = some (.cells v.cells T) := by
      show (w.heap.push _)[w.heap.size]? = _
      simp
    simp only [World.cell?, this, Nat.zero_add]
    simpa using hj

theorem avB_spec {w : World} {F G : Nat → Prop} {φ : Nat → Value} {a : AV} {b : Bool} {u : Value} (h : avB a = some b) (hr : Rel w F G φ H a u) : u = .bool b := by
  unfold avB at h
  split at h
  · cases h; simpa only [Rel] using hr
  · cases h; simpa only [Rel] using hr
  · cases h; simpa only [Rel] using hr
  · cases h

theorem eqFields_ints (w : World) (d : Nat) {F G : Nat → Prop} {φ : Nat → Value} {H : Heap} (xs ys : Array Value) : ∀ (fs : List Field) (i : Nat) (cs ds : List AV) (r : Bool), fldsOK P i fs = true → cs.length = fs.length → eqInts cs ds = some r →
    RelL w F G φ H cs (xs.toList.drop i) → RelL w F G φ H ds (ys.toList.drop i) → (Op.eqFields (d + 1) xs ys fs).run P w = .ok r w
  | [], i, cs, ds, r, _, hl, hr, _, _ => by
    have : cs = [] := List.eq_nil_of_length_eq_zero hl
    subst this
    cases ds with
    | nil => simp only [eqInts, Option.some.injEq] at hr; subst hr; rfl
    | cons _ _ => simp only [eqInts] at hr; cases hr
  | f :: fs, i, cs, ds, r, hf, hl, hr, h1, h2 => by
    cases cs with
    | nil => cases hl
    | cons c cs =>
    unfold eqInts at hr
    split at hr
    · rename_i e1; cases e1
    · rename_i k a cs' k' b ds' e1
      simp only [List.cons.injEq] at e1
      obtain ⟨rfl, rfl⟩ := e1
      cases ek : kEq k k'
      · rw [ek] at hr; cases hr
      · rw [ek, cond_true] at hr
        obtain rfl := kEq_eq ek
        split at hr
        case h_2 => cases hr
        rename_i r' hr'
        simp only [Option.some.injEq] at hr
        subst hr
        simp only [fldsOK, Bool.and_eq_true, bne_iff_ne, ne_eq, beq_iff_eq] at hf
        obtain ⟨⟨⟨f1, f2⟩, f3⟩, f4⟩ := hf
        obtain ⟨q, hq⟩ : ∃ q, P.underlying f.type = some (.int q) := by
          split at f3
          · rename_i q hq; exact ⟨q, hq⟩
          · cases f3
        simp only [RelL] at h1 h2
        obtain ⟨u, us, g1, g2, g3⟩ := h1
        obtain ⟨v, vs, m1, m2, m3⟩ := h2
        simp only [Rel] at g2 m2
        subst g2; subst m2
        have get : ∀ {zs : Array Value} {z : Value} {zr : List Value}, zs.toList.drop i = z :: zr → zs[i]? = some z ∧ zs.toList.drop (i + 1) = zr := by
          intro zs z zr e
          constructor
          · have : (zs.toList.drop i)[0]? = some z := by rw [e]; rfl
            rw [List.getElem?_drop] at this
            simpa using this
          · have : (zs.toList.drop i).drop 1 = zr := by rw [e]; rfl
            rw [List.drop_drop] at this
            exact this
        have prt : ∀ {zs : Array Value} {z : Value}, zs[i]? = some z → (part f.type zs i).run P w = .ok z w := by
          intro zs z e
          have ha : (Go.isAgg f.type).run P w = .ok false w := by
            unfold Go.isAgg
            simp only [Sem.run_bind, run_underlying hq, Result.andThen_ok]
            rfl
          unfold part
          simp only [Sem.run_bind, ha, Result.andThen_ok, Bool.false_eq_true, if_false, e, Sem.run_pure]
        have ih := eqFields_ints w d xs ys fs (i + 1) cs ds' r' f4 (by simpa using hl) hr' (by rw [(get g1).2]; exact g3) (by rw [(get m1).2]; exact m3)
        simp only [Op.eqFields, f1, ne_eq, not_false_eq_true, if_true, Sem.run_bind, f2, prt (get g1).1, prt (get m1).1, Result.andThen_ok, run_equalIn_int w d f.type k q a b hq]
        by_cases hab : a = b
        · subst hab
          simp only [beq_self_eq_true, Bool.not_true, Bool.false_eq_true, if_false, decide_true, Bool.true_and]
          exact ih
        · have : (a == b) = false := by simpa using hab
          rw [this, decide_eq_false hab]
          simp [Sem.run_pure]
    · cases hr

theorem abinG_sound (hΓ : TabOK P Γ) {op : BinOp} {T T' ty : TypeId} {x y : Operand} {d : Option Tmp} {pos : String} {af : Array Edge} {g : Option (Nat × Bool)}
    (h : abinG Γ op T (avOf E x) (avOf E y) K) : ∃ av, K av ∧ OkOp P E H ⟨d, .binOp op T x y T', ty, pos, af, g⟩ av := by
  unfold abinG at h
  split at h
  · rename_i p q e1 e2
    have hop : ∀ {w0 : Base} {w : World} {φ : Nat → Value} {act : Act}, (∀ z, z ∈ (Op.binOp op T x y T').operands → Rel w (Fr φ H) (Gr w0 φ H) φ H (avOf E z) (act.eval z)) →
        act.eval x = .bool p ∧ act.eval y = .bool q := fun hx =>
      ⟨avB_spec e1 (hx x (by simp [Op.operands])), avB_spec e2 (hx y (by simp [Op.operands]))⟩
    split at h
    case h_2 => exact h.elim
    rename_i td htd
    obtain ⟨u, hu, _, hk⟩ := (hΓ.ok htd).und
    have hbool : td.k = .bool → P.underlying T = some .bool := fun e => by
      rw [e] at hk
      cases u <;> simp [kB] at hk
      exact hu
    split at h
    · rename_i e3
      refine ⟨_, h, OkOp.same fun w0 w φ act hs hx => ⟨_, run_binop (by rw [(hop hx).1, (hop hx).2]; rfl) (v := .bool (p == q)) ?_, by simp only [Rel]⟩⟩
      rw [(hop hx).1, (hop hx).2]
      simp only [binOp, Sem.run_bind, run_equal_bool w T p q (hbool e3), Result.andThen_ok, Sem.run_pure]
    · rename_i e3
      refine ⟨_, h, OkOp.same fun w0 w φ act hs hx => ⟨_, run_binop (by rw [(hop hx).1, (hop hx).2]; rfl) (v := .bool (!(p == q))) ?_, by simp only [Rel]⟩⟩
      rw [(hop hx).1, (hop hx).2]
      simp only [binOp, Sem.run_bind, run_equal_bool w T p q (hbool e3), Result.andThen_ok, Sem.run_pure]
    · exact h.elim
  · split at h
    · rename_i cs ds e1 e2
      have hop : ∀ {w0 : Base} {w : World} {φ : Nat → Value} {act : Act}, (∀ z, z ∈ (Op.binOp op T x y T').operands → Rel w (Fr φ H) (Gr w0 φ H) φ H (avOf E z) (act.eval z)) →
          ∃ us vs : List Value, act.eval x = .agg us.toArray ∧ act.eval y = .agg vs.toArray ∧ RelL w (Fr φ H) (Gr w0 φ H) φ H cs us ∧ RelL w (Fr φ H) (Gr w0 φ H) φ H ds vs := fun hx => by
        have h1 := hx x (by simp [Op.operands])
        have h2 := hx y (by simp [Op.operands])
        rw [e1] at h1; rw [e2] at h2
        simp only [Rel] at h1 h2
        obtain ⟨us, a1, a2⟩ := h1
        obtain ⟨vs, b1, b2⟩ := h2
        exact ⟨us, vs, a1, b1, a2, b2⟩
      split at h
      case h_2 => exact h.elim
      rename_i td htd
      cases hc : (td.eqi && Nat.beq cs.length td.n)
      · rw [hc] at h; exact h.elim
      rw [hc, cond_true] at h
      rw [Bool.and_eq_true] at hc
      have he := (hΓ.ok htd).eq hc.1
      have hln := Nat.eq_of_beq_eq_true hc.2
      unfold eqiB at he
      split at he
      case h_2 => cases he
      rename_i fs hu
      simp only [Bool.and_eq_true, Bool.not_eq_true', beq_iff_eq] at he
      obtain ⟨⟨⟨he1, he2⟩, he3⟩, he4⟩ := he
      have hfs : P.fieldsOf T = fs := by simp [Program.fieldsOf, hu]
      have run : ∀ {r : Bool} {us vs : List Value} {w : World} {F G : Nat → Prop} {φ : Nat → Value}, eqInts cs ds = some r → RelL w F G φ H cs us → RelL w F G φ H ds vs →
          (Op.equalIn 10000 T (.agg us.toArray) (.agg vs.toArray)).run P w = .ok r w := by
        intro r us vs w F G φ hr h1 h2
        rw [run_equalIn_struct w 9999 T us.toArray vs.toArray (by rw [hfs]; exact hu) he1, hfs]
        exact eqFields_ints w 9998 us.toArray vs.toArray fs.toList 0 cs ds r he3 (by rw [hln, ← he4]; simp) hr (by simpa using h1) (by simpa using h2)
      split at h
      · rename_i r hr
        refine ⟨_, h, OkOp.same fun w0 w φ act hs hx => ?_⟩
        obtain ⟨us, vs, a1, a2, a3, a4⟩ := hop hx
        refine ⟨_, run_binop (by rw [a1, a2]; exact run_eqGuard_agg w _ T x y _ _ he2) (v := .bool r) ?_, by simp only [Rel]⟩
        rw [a1, a2, run_eql_struct, run hr a3 a4]; rfl
      · rename_i r hr
        refine ⟨_, h, OkOp.same fun w0 w φ act hs hx => ?_⟩
        obtain ⟨us, vs, a1, a2, a3, a4⟩ := hop hx
        refine ⟨_, run_binop (by rw [a1, a2]; exact run_eqGuard_agg w _ T x y _ _ he2) (v := .bool (!r)) ?_, by simp only [Rel]⟩
        rw [a1, a2, run_neq_struct, run hr a3 a4]; rfl
      · exact h.elim
    · exact abin_sound h

theorem aop_sound (hΓ : TabOK P Γ) {o : Oper} (h : aop Γ E H o.op K) : ∃ av, K av ∧ OkOp P E H o av := by
  obtain ⟨d, op, ty, pos, af, g⟩ := o
  have mv : ∀ {x : Operand} {av : AV}, avOf E x = av → (∀ {ρ : Operand → Value} {w : World}, (execOp ρ ⟨d, op, ty, pos, af, g⟩).run P w = .ok (.value (ρ x)) w) → x ∈ op.operands →
      OkOp P E H ⟨d, op, ty, pos, af, g⟩ av := by
    intro x av he hr hm
    subst he
    exact OkOp.same fun w0 w φ act hs hx => ⟨_, hr, hx x hm⟩
  unfold aop at h
  split at h
  · rename_i x e; simp only at e; subst e; rw [force_eq] at h; exact ⟨_, h, mv rfl rfl (by simp [Op.operands])⟩
  · rename_i x e; simp only at e; subst e; rw [force_eq] at h; exact ⟨_, h, mv rfl rfl (by simp [Op.operands])⟩
  · rename_i c x y e
    simp only at e; subst e
    have one : ∀ (t : Bool), (∀ {w0 : Base} {w : World} {φ : Nat → Value} {act : Act}, Rel w (Fr φ H) (Gr w0 φ H) φ H (avOf E c) (act.eval c) → act.eval c = .bool t) →
        force (avOf E (if t then x else y)) K → ∃ av, K av ∧ OkOp P E H ⟨d, .pick c x y, ty, pos, af, g⟩ av := by
      intro t hc hK
      rw [force_eq] at hK
      refine ⟨_, hK, OkOp.same fun w0 w φ act hs hx => ⟨_, ?_, hx (if t then x else y) (by cases t <;> simp [Op.operands])⟩⟩
      have := hc (hx c (by simp [Op.operands]))
      simp only [execOp, this, asBool, Sem.run_bind, Sem.run_pure, Result.andThen_ok]
      cases t <;> rfl
    split at h
    · rename_i ec
      exact one true (fun hr => by rw [ec] at hr; simpa only [Rel] using hr) h
    · rename_i ec
      exact one false (fun hr => by rw [ec] at hr; simpa only [Rel] using hr) h
    · rename_i t ec
      refine one t (fun hr => by rw [ec] at hr; simpa only [Rel] using hr) ?_
      cases t
      · exact h.2 rfl
      · exact h.1 rfl
    · exact h.elim
  · rename_i e; simp only at e; subst e; exact abinG_sound hΓ h
  · rename_i e; simp only at e; subst e; exact aun_sound h
  · rename_i e; simp only at e; subst e; exact acvt_sound hΓ h
  · rename_i e; simp only at e; subst e; exact aload_sound hΓ h
  · rename_i e; simp only at e; subst e; exact afield_sound hΓ h
  · rename_i e; simp only at e; subst e; exact apart_sound hΓ h
  · rename_i e; simp only at e; subst e; exact aindexAddr_sound hΓ h
  · rename_i e; simp only at e; subst e; exact aindex_sound hΓ h
  · rename_i e; simp only at e; subst e; exact aext_sound h
  · rename_i e; simp only at e; subst e; exact aslice_sound hΓ h
  · rename_i e; simp only at e; subst e; exact abuild_sound hΓ h
  · rename_i f caps e
    simp only at e; subst e
    refine ⟨_, h, OkOp.same fun w0 w φ act hs hx => ⟨_, rfl, ?_⟩⟩
    simp only [Rel]
    refine ⟨caps.toList.map act.eval, by cases caps; simp, ?_⟩
    have : ∀ l : List Operand, (∀ x ∈ l, x ∈ caps) → RelL w (Fr φ H) (Gr w0 φ H) φ H (l.map (avOf E)) (l.map act.eval) := by
      intro l
      induction l with
      | nil => intro _; rfl
      | cons x l ih => intro hl; exact ⟨_, _, rfl, hx x (by simpa [Op.operands] using hl x (by simp)), ih fun y hy => hl y (by simp [hy])⟩
    exact this _ fun x hx => by simpa using hx
  · rename_i x e
    simp only at e; subst e
    split at h
    · rename_i cs ex
      refine ⟨_, h, OkOp.same fun w0 w φ act hs hx => ?_⟩
      have hx1 := hx x (by simp [Op.operands]); rw [ex] at hx1
      have hx2 := hx1; simp only [Rel] at hx2
      obtain ⟨b, o, us, hv, _⟩ := hx2
      refine ⟨_, ?_, hx1⟩
      simp only [execOp, hv]; rfl
    · rename_i id o ex
      split at h
      · rename_i cs hh
        refine ⟨_, h, OkOp.same fun w0 w φ act hs hx => ?_⟩
        have hx1 := hx x (by simp [Op.operands]); rw [ex] at hx1
        have hx2 := hx1; simp only [Rel] at hx2
        obtain ⟨b, _, hv⟩ := hx2.2 _ hh
        refine ⟨_, ?_, hx1⟩
        simp only [execOp, hv]; rfl
      · exact h.elim
    · rename_i id i o ex
      split at h
      · rename_i e t l hh
        refine ⟨_, h, OkOp.same fun w0 w φ act hs hx => ?_⟩
        have hx1 := hx x (by simp [Op.operands]); rw [ex] at hx1
        have hx2 := hx1; simp only [Rel] at hx2
        obtain ⟨b, c, _, hv⟩ := hx2.2 _ _ _ hh
        refine ⟨_, ?_, hx1⟩
        simp only [execOp, hv]; rfl
      · exact h.elim
    · exact h.elim
  · rename_i e; simp only at e; subst e; exact abuiltin_sound hΓ h
  · rename_i T x e
    simp only at e; subst e
    split at h
    · rename_i cs hc
      refine ⟨_, h, ?_⟩
      intro w0 w φ act hs hx
      exact DoesV.value rfl ⟨(Below.refl _ _).alloc (Nat.le_refl _) _, box_rel hs hc (hx x (by simp [Op.operands]))⟩
    · exact h.elim
  · exact h.elim
end sound
end Go.V

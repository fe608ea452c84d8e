/- Whole bodies are sound, continued: what a region in the text's order does. -/
import Derived.Test.YthhmolipdnijaaaVc
import Derived.StillTail
set_option linter.unusedVariables false
set_option linter.unusedSimpArgs false
set_option linter.unnecessarySimpa false
namespace Go.V
open Go.RowKit

/-! ### What a callee sees of an argument -/

def view (H : Heap) : Nat → AV → AV
  | 0, _ => .junk
  | n + 1, a => match a with
    | .tt => .val (.bool true)
    | .ff => .val (.bool false)
    | .val v => .val v
    | .flt k x => .flt k x
    | .cpx k x y => .cpx k x y
    | .sl _ t l => .sl false t l
    | .agg cs => .agg (cs.map (view H n))
    | .tup cs => .tup (cs.map (view H n))
    | .ptrR cs => .ptrR (cs.map (view H n))
    | .own id => match hget H id with
      | some (.row _ t l) => .sl false t l
      | _ => .junk
    | .ptrO id off => match hget H id with
      | some (.box cs) => .ptrR ((cs.drop off).map (view H n))
      | _ => .junk
    | .ptrE _ _ _ => .junk
    | .fn f caps => .fn f (caps.map (view H n))
    | .junk => .junk

def φ0 : Nat → Value := fun _ => .tuple #[]
abbrev ArgRel (w : World) (a : AV) (v : Value) : Prop := Rel w (fun _ => True) (fun _ => False) φ0 [] a v
abbrev ArgRels (w : World) (as : List AV) (vs : List Value) : Prop := RelL w (fun _ => True) (fun _ => False) φ0 [] as vs

section view
variable {w0 : Base} {w : World} {H : Heap} {φ : Nat → Value}

theorem RdSl.any {α : Type} {F F' : Nat → Prop} {n : Nat} {R R' : α → List Value → Prop} {l : List α} {v : Value} (hF : ∀ b, F b → F' b) (hR : ∀ x us, R x us → R' x us) (h : RdSl w F n R l v) : RdSl w F' n R' l v := by
  rcases h with h | ⟨b, off, cap, h1, h2, h3, h4, h5⟩
  · exact .inl h
  · exact .inr ⟨b, off, cap, h1, h2, hF b h3, h4, fun i x hx => let ⟨us, e1, e2, e3⟩ := h5 i x hx; ⟨us, e1, hR _ _ e2, e3⟩⟩

theorem RdC.any {F F' : Nat → Prop} (hF : ∀ b, F b → F' b) : ∀ (t : STy) (x : t.S) (us : List Value), RdC w F t x us → RdC w F' t x us := by
  intro t
  induction t with
  | int k => exact fun _ _ h => h
  | bool => exact fun _ _ h => h
  | flt k => exact fun _ _ h => h
  | cpx k => exact fun _ _ h => h
  | str => exact fun _ _ h => h
  | sl e ih => rintro l us ⟨v, h1, h2⟩; exact ⟨v, h1, h2.any hF ih⟩
  | pair a b iha ihb => rintro p us ⟨u1, u2, h1, h2, h3⟩; exact ⟨u1, u2, h1, iha _ _ h2, ihb _ _ h3⟩

theorem view_rel (hs : Sim w0 w φ H) : ∀ (n : Nat), (∀ (a : AV) (v : Value), Rel w (Fr φ H) (Gr w0 φ H) φ H a v → ArgRel w (view H n a) v)
  | 0 => fun a v _ => by simp only [view, ArgRel, Rel]
  | n + 1 => by
    have ih := view_rel hs n
    have ihL : ∀ (cs : List AV) (us : List Value), RelL w (Fr φ H) (Gr w0 φ H) φ H cs us → ArgRels w (cs.map (view H n)) us := by
      intro cs
      induction cs with
      | nil => intro us h; exact h
      | cons c cs ihc =>
        intro us h
        simp only [RelL] at h
        obtain ⟨v, vs, rfl, h1, h2⟩ := h
        exact ⟨v, vs, rfl, ih c v h1, ihc vs h2⟩
    intro a v h
    cases a <;> simp only [view] <;> simp only [Rel] at h
    case tt => simp only [ArgRel, Rel]; exact h
    case ff => simp only [ArgRel, Rel]; exact h
    case val u => simp only [ArgRel, Rel]; exact h
    case flt => simp only [ArgRel, Rel]; exact h
    case cpx => simp only [ArgRel, Rel]; exact h
    case sl fr t l =>
      simp only [ArgRel, Rel, cond_false]
      exact h.any (fun _ _ => trivial) (fun x us hx => RdC.any (fun _ _ => trivial) t x us hx)
    case agg cs => simp only [ArgRel, Rel]; obtain ⟨us, h1, h2⟩ := h; exact ⟨us, h1, ihL _ _ h2⟩
    case tup cs => simp only [ArgRel, Rel]; obtain ⟨us, h1, h2⟩ := h; exact ⟨us, h1, ihL _ _ h2⟩
    case ptrR cs => simp only [ArgRel, Rel]; obtain ⟨b, o, us, h1, _, h3, h4, h5⟩ := h; exact ⟨b, o, us, h1, trivial, h3, ihL _ _ h4, h5⟩
    case own id =>
      split
      · rename_i e t l hh
        simp only [ArgRel, Rel, cond_false]
        rw [h.2 _ _ _ hh]
        rcases hs.good id _ hh with ⟨h0, h1⟩ | ⟨b, cap, vs, h1, h2, h3, _, h5, h6⟩
        · left; exact ⟨h0, _, _, h1⟩
        · right
          have hlt := (hs.good id _ hh).block_lt (b := b) (by intro hc; cases hc) (by rw [h1]; rfl)
          refine ⟨b, 0, cap, h1, h3, trivial, hlt, fun i x hx => ?_⟩
          obtain ⟨us, e1, e2, e3⟩ := h6 i x hx
          refine ⟨us, e1, RdC.any (fun _ _ => trivial) t x us e2, fun j u hj => ?_⟩
          simp only [World.cell?, h2, Nat.zero_add]
          simpa using e3 j u hj
      · simp only [ArgRel, Rel]
    case ptrO id off =>
      split
      · rename_i cs hh
        obtain ⟨b, h1, h2⟩ := h.2 _ hh
        obtain ⟨b', us, k1, k2, k3⟩ := (hs.good id _ hh).box_cells
        rw [h1] at k1; cases k1
        have hlt := (hs.good id _ hh).block_lt (b := b) (by intro hc; cases hc) (by rw [h1]; rfl)
        have k4 := k3.drop off
        simp only [Nat.zero_add] at k4
        simp only [ArgRel, Rel]
        exact ⟨b, off, us.drop off, h2, trivial, hlt, ihL _ _ (k2.drop off), k4⟩
      · simp only [ArgRel, Rel]
    case ptrE id i off => simp only [ArgRel, Rel]
    case fn f caps => simp only [ArgRel, Rel]; obtain ⟨us, h1, h2⟩ := h; exact ⟨us, h1, ihL _ _ h2⟩
    case junk => simp only [ArgRel, Rel]

theorem views_rel (hs : Sim w0 w φ H) (n : Nat) : ∀ (cs : List AV) (us : List Value), RelL w (Fr φ H) (Gr w0 φ H) φ H cs us → ArgRels w (cs.map (view H n)) us
  | [], us, h => h
  | c :: cs, us, h => by
    simp only [RelL] at h
    obtain ⟨v, vs, rfl, h1, h2⟩ := h
    exact ⟨v, vs, rfl, view_rel hs n c v h1, views_rel hs n cs vs h2⟩
end view

/-- What a call of a known function comes to. -/
def CallsF (P : Program) (f : FuncId) (args : Array Value) (w : World) (R : Value → World → Prop) : Prop :=
  match (callFunc f args).run P w with
  | .ok (.value v) w' => R v w'
  | .ok (.enter g as) w' => Calls P g as w' (fun e w'' => ∃ v, e = .returned v ∧ R v w'')
  | _ => False

theorem CallsF.mono {P : Program} {f : FuncId} {args : Array Value} {w : World} {R R' : Value → World → Prop} (h : CallsF P f args w R) (hr : ∀ v w', R v w' → R' v w') : CallsF P f args w R' := by
  unfold CallsF at *
  split
  · rename_i e; rw [e] at h; exact hr _ _ h
  · rename_i e; rw [e] at h; exact h.mono fun e w'' ⟨v, h1, h2⟩ => ⟨v, h1, hr _ _ h2⟩
  · rename_i e1 e2
    split at h
    · rename_i e; exact (e1 _ _ e).elim
    · rename_i e; exact (e2 _ _ _ e).elim
    · exact h

/-- CONTRACT: called with arguments that read as 'args', in whatever world, the function returns what is told by 'r' and 'Hr', in new memory, and writes to no other. -/
def Con (P : Program) (f : FuncId) (args : List AV) (r : AV) (Hr : Heap) : Prop :=
  ∀ (w : World) (vs : List Value), KeepB (Base.all w) → ArgRels w args vs →
    CallsF P f vs.toArray w fun v w' => ∃ φ, Sim (Base.all w) w' φ Hr ∧ Rel w' (Gr (Base.all w) φ Hr) (Gr (Base.all w) φ Hr) φ Hr r v

/-- The names of a callee's memory are new here. -/
def newIds (H Hr : Heap) : Bool := Hr.all fun p => match hget H p.1, p.2 with
  | none, .row _ _ _ => true
  | none, .dead => true
  | _, _ => false

section import_
variable {N : Nat} {w0 : Base} {w w' : World} {E : Env} {H Hr : Heap} {φ φr : Nat → Value} {a : Act}

def both (Hr : Heap) (φr φ : Nat → Value) : Nat → Value := fun id => if (hget Hr id).isSome then φr id else φ id

theorem hlive_append {i : Nat} (h : hlive (Hr ++ H) i) : hlive Hr i ∨ ((hget Hr i = none) ∧ hlive H i) := by
  obtain ⟨C, h1, h2⟩ := h
  rw [hget_append] at h1
  cases hr : hget Hr i with
  | none => rw [hr] at h1; exact .inr ⟨rfl, C, h1, h2⟩
  | some D => rw [hr] at h1; cases h1; exact .inl ⟨_, hr, h2⟩

theorem newIds_spec (h : newIds H Hr = true) {i : Nat} {C : Cont} (hi : hget Hr i = some C) : hget H i = none ∧ ∀ cs, C ≠ .box cs := by
  unfold newIds at h
  rw [List.all_eq_true] at h
  have : ∀ (L : Heap), hget L i = some C → ∃ p ∈ L, p.1 = i ∧ p.2 = C := by
    intro L
    induction L with
    | nil => intro h; cases h
    | cons p L ih =>
      obtain ⟨s, D⟩ := p
      intro h
      rw [hget_cons] at h
      split at h
      · rename_i e; cases h; exact ⟨(s, C), by simp, e, rfl⟩
      · obtain ⟨q, h1, h2⟩ := ih h; exact ⟨q, by simp [h1], h2⟩
  obtain ⟨p, hp, rfl, rfl⟩ := this Hr hi
  have := h p hp
  split at this
  · rename_i e1 e2; exact ⟨e1, fun cs hc => by rw [e2] at hc; cases hc⟩
  · rename_i e1 e2; exact ⟨e1, fun cs hc => by rw [e2] at hc; cases hc⟩
  · cases this

/-- What a callee hands back becomes the caller's own. -/
theorem St.take (h : St N w0 E H φ a w) (hn : newIds H Hr = true) (hr : Sim (Base.all w) w' φr Hr) : St N w0 E (Hr ++ H) (both Hr φr φ) a w' ∧
    ∀ av v, Rel w' (Gr (Base.all w) φr Hr) (Gr (Base.all w) φr Hr) φr Hr av v → Rel w' (Fr (both Hr φr φ) (Hr ++ H)) (Gr w0 (both Hr φr φ) (Hr ++ H)) (both Hr φr φ) (Hr ++ H) av v := by
  have hb : Below w.heap.size w w' := ⟨hr.below.os, hr.below.tape, hr.below.output, hr.below.size, hr.below.block⟩
  have bR : ∀ i C, hget Hr i = some C → both Hr φr φ i = φr i := fun i C hi => by simp [both, hi]
  have bH : ∀ i, hget Hr i = none → both Hr φr φ i = φ i := fun i hi => by simp [both, hi]
  have live : ∀ i, hlive (Hr ++ H) i → ∀ b, blk (both Hr φr φ i) = some b → (hlive Hr i ∧ blk (φr i) = some b ∧ w.heap.size ≤ b) ∨ (hlive H i ∧ blk (φ i) = some b ∧ b < w.heap.size) := by
    intro i hi b hbk
    rcases hlive_append hi with ⟨C, h1, h2⟩ | ⟨h1, h2⟩
    · rw [bR i C h1] at hbk
      exact .inl ⟨⟨C, h1, h2⟩, hbk, (hr.fresh i b ⟨C, h1, h2⟩ hbk).1⟩
    · rw [bH i h1] at hbk
      exact .inr ⟨h2, hbk, h.sim.block_lt h2 hbk⟩
  have hsz := h.sim.below.size
  -- the caller's own, seen from behind the call
  have kF : Keeps w w' (Fr φ H) (Fr (both Hr φr φ) (Hr ++ H)) := fun b hf hlt => ⟨hb.block b hlt, fun i hi hbk => by
    rcases live i hi b hbk with ⟨_, _, h1⟩ | ⟨h1, h2, _⟩
    · omega
    · exact hf i h1 h2⟩
  have kG : Keeps w w' (Gr w0 φ H) (Gr w0 (both Hr φr φ) (Hr ++ H)) := fun b hf hlt => ⟨hb.block b hlt, hf.1, (kF b hf.2 hlt).2⟩
  have hkH : HKeeps φ (both Hr φr φ) H (Hr ++ H) := by
    have key : ∀ id C, (hget H id).isSome = true → hget (Hr ++ H) id = some C → hget H id = some C ∧ both Hr φr φ id = φ id := by
      intro id C hi hc
      rw [hget_append] at hc
      cases hx : hget Hr id with
      | some D => have := (newIds_spec hn hx).1; rw [this] at hi; cases hi
      | none => rw [hx] at hc; exact ⟨hc, bH id hx⟩
    exact ⟨fun id hi => by rw [hget_append]; cases hget Hr id <;> simp_all, fun id e t l hi hc => ⟨l, (key id _ hi hc).1, rfl, (key id _ hi hc).2⟩, fun id cs hi hc => ⟨cs, (key id _ hi hc).1, (key id _ hi hc).2⟩⟩
  -- the callee's
  have gsub : ∀ b, Gr (Base.all w) φr Hr b → Fr (both Hr φr φ) (Hr ++ H) b := fun b hg i hi hbk => by
    rcases live i hi b hbk with ⟨h1, h2, _⟩ | ⟨_, _, h3⟩
    · exact hg.2 i h1 h2
    · have h0 : w.heap.size ≤ b := hg.1
      omega
  have rF : Keeps w' w' (Gr (Base.all w) φr Hr) (Fr (both Hr φr φ) (Hr ++ H)) := fun b hg _ => ⟨rfl, gsub b hg⟩
  have rG : Keeps w' w' (Gr (Base.all w) φr Hr) (Gr w0 (both Hr φr φ) (Hr ++ H)) := fun b hg _ => ⟨rfl, w0.new b (Nat.le_trans hsz hg.1), gsub b hg⟩
  have hkR : HKeeps φr (both Hr φr φ) Hr (Hr ++ H) := by
    have key : ∀ id C, (hget Hr id).isSome = true → hget (Hr ++ H) id = some C → hget Hr id = some C ∧ both Hr φr φ id = φr id := by
      intro id C hi hc
      rw [hget_append] at hc
      cases hx : hget Hr id with
      | some D => rw [hx] at hc; exact ⟨hc, bR id D hx⟩
      | none => rw [hx] at hi; cases hi
    exact ⟨fun id hi => by rw [hget_append]; cases hx : hget Hr id <;> simp_all, fun id e t l hi hc => ⟨l, (key id _ hi hc).1, rfl, (key id _ hi hc).2⟩, fun id cs hi hc => ⟨cs, (key id _ hi hc).1, (key id _ hi hc).2⟩⟩
  refine ⟨⟨⟨h.sim.below.trans (Below.onto hb hsz), ?_, ?_, ?_, h.sim.keep⟩, fun s => Rel.keep hb.size kF kG hkH _ _ (h.env s), h.defers, h.size, RelL.keep hb.size kF kG hkH _ _ h.gh⟩, fun av v hv => Rel.keep (Nat.le_refl _) rF rG hkR _ _ hv⟩
  · intro i C hi
    rw [hget_append] at hi
    cases hx : hget Hr i with
    | some D =>
      rw [hx] at hi; cases hi
      have hg := hr.good i _ hx
      cases C with
      | dead => trivial
      | row e t l =>
        rcases hg with ⟨h0, h1⟩ | ⟨b, cap, vs, h1, h2, h3, h4, h5, h6⟩
        · exact .inl ⟨h0, by rw [bR i _ hx, h1]⟩
        · refine .inr ⟨b, cap, vs, by rw [bR i _ hx, h1], h2, h3, h4, h5, fun j x hj => ?_⟩
          obtain ⟨us, e1, e2, e3⟩ := h6 j x hj
          exact ⟨us, e1, RdC.keep (Nat.le_refl _) rG t x us e2, e3⟩
      | box cs => exact absurd rfl ((newIds_spec hn hx).2 cs)
    | none =>
      rw [hx] at hi
      exact (h.sim.good i C hi).keep hb.size kF kG hkH (fun _ => bH i hx) (fun hd b hbk => hb.block b (h.sim.block_lt ⟨C, hi, hd⟩ hbk))
  · intro i b hi hbk
    rcases live i hi b hbk with ⟨_, _, h1⟩ | ⟨h1, h2, _⟩
    · exact Base.new' hsz h1
    · exact h.sim.fresh i b h1 h2
  · intro i j b hi hj hbi hbj
    rcases live i hi b hbi with ⟨h1, h2, h3⟩ | ⟨h1, h2, h3⟩ <;> rcases live j hj b hbj with ⟨k1, k2, k3⟩ | ⟨k1, k2, k3⟩
    · exact hr.inj i j b h1 k1 h2 k2
    · omega
    · omega
    · exact h.sim.inj i j b h1 k1 h2 k2
end import_

def smem : List Nat → Nat → Bool
  | [], _ => false
  | a :: l, k => bif Nat.beq a k then true else smem l k

/-- What is shadowed is dropped. -/
def hclean : List Nat → Heap → (Heap → Prop) → Prop
  | _, [], K => K []
  | seen, (i, C) :: H, K => bif smem seen i then hclean seen H K else hclean (i :: seen) H fun T => K ((i, C) :: T)

/-! ### Less is known, under other names -/

def nget : List (Nat × Nat) → Nat → Option Nat
  | [], _ => none
  | (i, k) :: m, j => bif Nat.beq i j then some k else nget m j
def ninv : List (Nat × Nat) → Nat → Option Nat
  | [], _ => none
  | (i, k) :: m, j => bif Nat.beq k j then some i else ninv m j

mutual
/-- What is told by the second is told by the first. -/
def Cv (m : List (Nat × Nat)) (H : Heap) : AV → AV → Prop
  | .junk, _ => True
  | .own k, a => match a with
    | .own id => nget m id = some k
    | _ => False
  | .ptrO k off, a => match a with
    | .ptrO id off' => nget m id = some k ∧ off' = off
    | _ => False
  | .ptrE k i off, a => match a with
    | .ptrE id i' off' => nget m id = some k ∧ i' = i ∧ off' = off
    | _ => False
  | .sl fr t l, a => match a with
    | .val (.slice none 0 0) => l = []
    | .own id => nget m id = none ∧ ∃ e, hget H id = some (.row e t l)
    | .sl fr' t' l' => (bif fr then fr' = true else True) ∧ AV.sl true t' l' = AV.sl true t l
    | _ => False
  | .agg ds, a => match a with
    | .agg cs => CvL m H ds cs
    | _ => False
  | .tup ds, a => match a with
    | .tup cs => CvL m H ds cs
    | _ => False
  | .ptrR ds, a => match a with
    | .ptrR cs => CvL m H ds cs
    | _ => False
  | .fn g ds, a => match a with
    | .fn f cs => f = g ∧ CvL m H ds cs
    | _ => False
  | .val v, a => match a with
    | .tt => v = .bool true
    | .ff => v = .bool false
    | .val u => u = v
    | _ => False
  | .flt k x, a => a = .flt k x
  | .cpx k x y, a => a = .cpx k x y
  | .tt, a => a = .tt
  | .ff, a => a = .ff
def CvL (m : List (Nat × Nat)) (H : Heap) : List AV → List AV → Prop
  | [], cs => cs = []
  | d :: ds, cs => match cs with
    | c :: cs => Cv m H d c ∧ CvL m H ds cs
    | [] => False
end

def WE (m : List (Nat × Nat)) (H : Heap) (E : Env) : Env → Prop
  | [] => True
  | (s, b) :: E' => Cv m H b (eget E s) ∧ WE m H E E'
def CC (m : List (Nat × Nat)) (H : Heap) : Cont → Cont → Prop
  | .row e t l, C => C = .row e t l
  | .box ds, .box cs => CvL m H ds cs
  | .dead, _ => True
  | _, _ => False
def WH (m : List (Nat × Nat)) (H : Heap) : Heap → Prop
  | [] => True
  | (k, C') :: H' => (match ninv m k with
    | some i => nget m i = some k ∧ (match hget H i with
      | some C => CC m H C' C
      | none => False)
    | none => False) ∧ WH m H H'

/-- New names are given once. -/
def ninj : List (Nat × Nat) → Bool
  | [] => true
  | (_, k) :: m => (m.all fun p => !Nat.beq p.2 k) && ninj m

/-- .. and stand for something. -/
def nin (H' : Heap) (m : List (Nat × Nat)) : Bool := m.all fun p => (hget H' p.2).isSome

def Weak (G : List AV) (E : Env) (H : Heap) (E' : Env) (H' : Heap) : Prop := ∃ m, ninj m = true ∧ nin H' m = true ∧ WE m H E E' ∧ WH m H H' ∧ CvL m H G G

/-! ### What reads new memory alone -/

mutual
/-- What is handed back reads no other memory than what was made since. -/
def sealedB : AV → Bool
  | .sl fr _ _ => fr
  | .agg cs => sealedL cs
  | .tup cs => sealedL cs
  | .fn _ cs => sealedL cs
  | .ptrR _ => false
  | .ptrO _ _ => false
  | .ptrE _ _ _ => false
  | .tt => true
  | .ff => true
  | .val _ => true
  | .flt _ _ => true
  | .cpx _ _ _ => true
  | .own _ => true
  | .junk => true
def sealedL : List AV → Bool
  | [] => true
  | c :: cs => sealedB c && sealedL cs
end


/-! ### A callee that writes to what it is handed -/

def kindB : Cont → Cont → Bool
  | .row e t _, .row e' t' _ => Nat.beq e e' && decide (t = t')
  | .box _, .box _ => true
  | _, _ => false

/-- CONTRACT of a function that may write to what it is handed: the memory 'Ha' is the caller's own. -/
def ConW (P : Program) (f : FuncId) (args : List AV) (Ha : Heap) (r : AV) (Hr : Heap) : Prop :=
  ∀ (w0 : Base) (w : World) (φ : Nat → Value) (vs : List Value), Sim w0 w φ Ha → RelL w (Fr φ Ha) (Gr w0 φ Ha) φ Ha args vs →
    CallsF P f vs.toArray w fun v w' => ∃ φ', Sim w0 w' φ' Hr ∧ Rel w' (Gr w0 φ' Hr) (Gr w0 φ' Hr) φ' Hr r v ∧
      ∀ id C C', hget Ha id = some C → hget Hr id = some C' → kindB C C' = true → φ' id = φ id

/-- What such a callee sees of an argument. -/
def wview (m : List (Nat × Nat)) (H : Heap) : Nat → AV → AV
  | 0, _ => .junk
  | n + 1, a => match a with
    | .tt => .val (.bool true)
    | .ff => .val (.bool false)
    | .val v => .val v
    | .flt k x => .flt k x
    | .cpx k x y => .cpx k x y
    | .sl _ t l => .sl false t l
    | .agg cs => .agg (cs.map (wview m H n))
    | .tup cs => .tup (cs.map (wview m H n))
    | .ptrR cs => .ptrR (cs.map (wview m H n))
    | .own id => match nget m id with
      | some k => .own k
      | none => match hget H id with
        | some (.row _ t l) => .sl false t l
        | _ => .junk
    | .ptrO id off => match nget m id with
      | some k => .ptrO k off
      | none => .junk
    | .ptrE _ _ _ => .junk
    | .fn f caps => .fn f (caps.map (wview m H n))
    | .junk => .junk

def passB (m m' : List (Nat × Nat)) (H Hr : Heap) : Bool := m.all fun p =>
  (match nget m' p.2 with
    | some i => Nat.beq i p.1
    | none => false) &&
  (match hget H p.1, hget Hr p.1 with
    | some C, some C' => kindB C C'
    | _, _ => false)
def newB (m : List (Nat × Nat)) (H Hr : Heap) : Bool := Hr.all fun p => ((nget m p.1).isSome || (hget H p.1).isNone) && (match p.2 with
  | .box cs => sealedL cs
  | _ => true)

/-- .. with all that it points to. -/
def WH0 (m : List (Nat × Nat)) (H : Heap) : Heap → Prop
  | [] => True
  | (k, C') :: H' => (match ninv m k with
    | some i => nget m i = some k ∧ (match hget H i with
      | some C => CC m [] C' C
      | none => False)
    | none => False) ∧ WH0 m H H'

/-- Each name once, and none of them given up. -/
def once : Heap → Bool
  | [] => true
  | (id, C) :: H => (hget H id).isNone && (match C with | .dead => false | _ => true) && once H

theorem once_spec : ∀ {H : Heap}, once H = true → ∀ {id : Nat} {C : Cont}, hget H id = some C → C ≠ .dead
  | [], _, id, C, h => by cases h
  | (s, D) :: H, ho, id, C, h => by
    simp only [once, Bool.and_eq_true] at ho
    rw [hget_cons] at h
    split at h
    · cases h
      intro hc; subst hc
      simp at ho
    · exact once_spec ho.2 h

def vcallW (P : Program) (E : Env) (H : Heap) (g : FuncId) (xs : List Operand) (caps : List AV) (fin : AV → Heap → Prop) : Prop :=
  ∃ m Ha r Hr m' r' Hr', (ninj m = true ∧ nin Ha m = true ∧ once Ha = true ∧ WH0 m H Ha) ∧ ConW P g ((xs.map fun x => wview m H 6 (avOf E x)) ++ caps.map (wview m H 6)) Ha r Hr ∧
    (ninj m' = true ∧ nin Hr' m' = true ∧ Cv m' Hr r' r ∧ WH m' Hr Hr') ∧ sealedB r' = true ∧ passB m m' H Hr' = true ∧ newB m H Hr' = true ∧ fin r' (Hr' ++ H)

/-! ### A region in the text's order, with calls -/

def callee (E : Env) : Operand → Option (FuncId × List AV)
  | x => match avOf E x with
    | .fn f caps => some (f, caps)
    | _ => none

def vop (P : Program) (Γ : Tab) (N : Nat) (own : List Nat) (o : Oper) (E : Env) (H : Heap) (K : Env → Heap → Prop) : Prop :=
  let fin : AV → Heap → Prop := fun av H' => match o.dst with
    | some d => bif Nat.blt d N then K ((d, av) :: E) H' else False
    | none => K E H'
  match o.op with
  | .call ⟨.value f, args, _⟩ => match callee E f with
    | some (g, caps) => (∃ r Hr, Con P g ((args.toList.map fun x => view H 6 (avOf E x)) ++ caps.map (view H 6)) r Hr ∧ newIds H Hr = true ∧ fin r (Hr ++ H)) ∨ vcallW P E H g args.toList caps fin
    | none => False
  | _ => wop Γ own E H o fin

def gslot (all : List Oper) (j : Nat) : Option Nat := (all[j]?).bind (·.dst)

def vskip (N : Nat) (o : Oper) (E : Env) (K : Env → Prop) : Prop :=
  match o.dst with
  | some d => bif Nat.blt d N then K ((d, .val undef) :: E) else False
  | none => K E

def vops (P : Program) (Γ : Tab) (N : Nat) (own : List Nat) (all : List Oper) : List Oper → Env → Heap → (Env → Heap → Prop) → Prop
  | [], E, H, K => K E H
  | o :: rest, E, H, K =>
    match o.guard with
    | none => vop P Γ N own o E H fun E' H' => vops P Γ N own all rest E' H' K
    | some (j, want) => match gslot all j with
      | none => False
      | some s =>
        let go : Bool → Env → Prop := fun t E => match t, want with
          | true, true | false, false => vop P Γ N own o E H fun E' H' => vops P Γ N own all rest E' H' K
          | _, _ => vskip N o E fun E' => vops P Γ N own all rest E' H K
        match eget E s with
        | .tt => go true E
        | .ff => go false E
        | .val (.bool b) => (b = true → go true ((s, .tt) :: E)) ∧ (b = false → go false ((s, .ff) :: E))
        | .val (.tuple _) => vskip N o E fun E' => vops P Γ N own all rest E' H K
        | _ => False

/-- Of what is known, the slots that are asked for. -/
def trim : List Nat → Env → Env → (Env → Prop) → Prop
  | [], _, acc, K => K acc
  | s :: ss, E, acc, K => force (eget E s) fun a => match a with
    | .junk => trim ss E acc K
    | a => trim ss E ((s, a) :: acc) K

def VLoop (G : List AV) (f : Env → Heap → (Exit → Env → Heap → Prop) → Prop) (E : Env) (H : Heap) (Q : Exit → Env → Heap → Prop) : Prop :=
  ∃ (X : Type) (mkE : X → Env) (mkH : X → Heap) (I : X → Prop) (μ : X → Nat) (x0 : X), Weak G E H (mkE x0) (mkH x0) ∧ I x0 ∧
    ∀ x, I x → f (mkE x) (mkH x) fun e E' H' => match e with
      | .normal => ∃ x', Weak G E' H' (mkE x') (mkH x') ∧ I x' ∧ μ x' < μ x
      | e => Q e E' H'

/-! ### A region whose order is drawn: what only reads, in whatever order; then the rest, in the text's -/

def vhead (P : Program) (Γ : Tab) (o : Oper) (E : Env) (H : Heap) (K : AV → Prop) : Prop :=
  match o.op with
  | .call ⟨.value f, args, _⟩ => match callee E f with
    | some (g, caps) => ∃ r, Con P g ((args.toList.map fun x => view H 6 (avOf E x)) ++ caps.map (view H 6)) r [] ∧ K r
    | none => False
  | op => aop Γ E H op K

def nmem : List Nat → Nat → Bool
  | [], _ => false
  | a :: l, k => bif Nat.beq a k then true else nmem l k

/-- What comes to the same whenever it is done. -/
def quietK (Γ : Tab) (o : Oper) : Bool := o.guard.isNone && (match o.op with
  | .move _ => true
  | .assign _ => true
  | .binOp _ T _ _ _ => match tget Γ T with
    | some td => match td.k with
      | .int _ => true
      | _ => false
    | none => false
  | _ => false)

def afterB (acc : List Nat) : List Edge → Bool
  | [] => true
  | e :: es => (match e.ground with
    | .textOnly _ => true
    | .gcOnly _ => true
    | _ => nmem acc e.on) && afterB acc es

def qidx (Γ : Tab) : List Oper → Nat → List Nat → List Nat
  | [], _, acc => acc
  | o :: rest, k, acc => bif quietK Γ o && afterB acc o.after.toList then qidx Γ rest (k + 1) (acc ++ [k]) else qidx Γ rest (k + 1) acc

def vquiet (o : Oper) (E : Env) (K : AV → Prop) : Prop :=
  match o.op with
  | .move x => force (avOf E x) K
  | .assign x => force (avOf E x) K
  | .binOp op _ x y _ => match avOf E x, avOf E y with
    | .val (.int k a), .val (.int k' b) => abinI op k k' a b K
    | _, _ => False
  | _ => False

def vheads (P : Program) (Γ : Tab) (N : Nat) (all : List Oper) (qs : List Nat) : List Oper → Nat → Env → Heap → (Env → Prop) → Prop
  | [], _, E, _, K => K E
  | o :: rest, k, E, H, K =>
    let fin : Env → AV → Prop := fun E av => match o.dst with
      | some d => bif Nat.blt d N then vheads P Γ N all qs rest (k + 1) ((d, av) :: E) H K else False
      | none => False
    match o.guard with
    | none => bif nmem qs k then vquiet o E (fin E) else vhead P Γ o E H (fin E)
    | some (j, want) => bif nmem qs k then False else match gslot all j with
      | none => False
      | some s =>
        let go : Bool → Env → Prop := fun t E => match t, want with
          | true, true | false, false => vhead P Γ o E H (fin E)
          | _, _ => fin E (.val undef)
        match eget E s with
        | .tt => go true E
        | .ff => go false E
        | .val (.bool b) => (b = true → go true ((s, .tt) :: E)) ∧ (b = false → go false ((s, .ff) :: E))
        | .val (.tuple _) => fin E (.val undef)
        | _ => False

/-- How many of the operations only read. -/
def heads : List Oper → Nat
  | [] => 0
  | o :: rest => match o.op with
    | .store .. | .alloc .. | .buildSlice .. | .makeSlice .. => 0
    | .call ⟨.builtin .append, _, _⟩ => 0
    | _ => heads rest + 1

def waitsB (o : Oper) (i : Nat) : Bool := o.after.any fun e => Region.binds .any e && e.on == i

/-- The quiet ones may be done ahead of all others. -/
def qfree (ops : Array Oper) (n : Nat) : List Nat → Array Bool → Bool
  | [], _ => true
  | i :: qs, listed => decide (i < n) && (Region.ready .any ops listed).contains i && Region.free .any ops listed i && qfree ops n qs (listed.setIfInBounds i true)

/-- The order of the first 'n' is of no account, and the others come behind them, in the text's order. -/
def dB (ops : Array Oper) (n : Nat) (qs : List Nat) : Bool :=
  (List.range ops.size).all (fun i => match ops[i]? with
    | some o => o.after.all (fun e => !Region.binds .any e || decide (e.on < i)) &&
      (decide (n ≤ i) || ((List.range ops.size).all fun j => match ops[j]? with
        | some p => match p.dst with
          | some d => j == i || ((p.dst != o.dst) && (!(o.looksAt ops).contains d || (if j < i then waitsB o j else waitsB p i)))
          | none => true
        | none => true) && (match o.dst with
          | some d => !(o.looksAt ops).contains d
          | none => false))
    | none => true) &&
  (n == ops.size || (decide (n < ops.size) && ((List.range n).all fun i => nmem qs i || (List.range (n + 1)).any fun j => decide (i < j) && Region.waitsFor .any ops j i) && Region.chainB .any ops n)) &&
  Region.seqB .any ops (ops.size - n) n (Array.replicate n true ++ Array.replicate (ops.size - n) false) &&
  Region.noSelect ops && qfree ops n qs (Array.replicate ops.size false)

/-- A region whose order is drawn. -/
def vdraw (P : Program) (Γ : Tab) (N : Nat) (own : List Nat) (ops : List Oper) (n : Nat) (qs : List Nat) (E : Env) (H : Heap) (K : Env → Heap → Prop) : Prop :=
  dB ops.toArray n qs = true ∧ vheads P Γ N ops qs (ops.take n) 0 E H fun E' => vops P Γ N own ops (ops.drop n) E' H K

/-! ### .. or order by order: for regions that make memory -/

def rdyB (done : List Nat) (i : Nat) (o : Oper) : Bool := bif nmem done i then false else afterB done o.after.toList

/-- All that are ready. -/
def eachL (done : List Nat) (f : Nat → Oper → Prop) : List Oper → Nat → Prop
  | [], _ => True
  | o :: rest, i => bif rdyB done i o then f i o ∧ eachL done f rest (Nat.succ i) else eachL done f rest (Nat.succ i)

def vany (P : Program) (Γ : Tab) (N : Nat) (own : List Nat) (ops : List Oper) : Nat → List Nat → Env → Heap → (Env → Heap → Prop) → Prop
  | 0, _, E, H, K => K E H
  | n + 1, done, E, H, K => eachL done (fun i o => match o.guard with
    | none => vop P Γ N own o E H fun E' H' => vany P Γ N own ops n (i :: done) E' H' K
    | some _ => False) ops 0

/-- The quiet ones, ahead. -/
def vqs (N : Nat) (ops : List Oper) : List Nat → Env → (Env → Prop) → Prop
  | [], E, K => K E
  | i :: qs, E, K => match ops[i]? with
    | none => False
    | some o => match o.guard, o.dst with
      | none, some d => bif Nat.blt d N then vquiet o E fun av => vqs N ops qs ((d, av) :: E) K else False
      | _, _ => False

def backB (ops : Array Oper) : Bool := (List.range ops.size).all fun i => match ops[i]? with
  | some o => o.after.all fun e => !Region.binds .any e || decide (e.on < i)
  | none => true

def cB (ops : Array Oper) (qs : List Nat) : Bool := backB ops && Region.noSelect ops && qfree ops ops.size qs (Array.replicate ops.size false)

/-- The parameters of a walk: how many slots, which of them are kept behind a region, which boxes and literals are written. -/
structure Cfg where
  N : Nat
  keep : List Nat
  own : List Nat
  gh : List AV := []

def vreg (P : Program) (Γ : Tab) (c : Cfg) (ops : Array Oper) (draw : Bool) (E : Env) (H : Heap) (Q : Exit → Env → Heap → Prop) : Prop :=
  match draw with
  | false => vops P Γ c.N c.own ops.toList ops.toList E H fun E' H' => trim c.keep E' [] fun E'' => hclean [] H' fun H2 => Q .normal E'' H2
  | true => vdraw P Γ c.N c.own ops.toList (heads ops.toList) (qidx Γ (ops.toList.take (heads ops.toList)) 0 []) E H fun E'' H' => trim c.keep E'' [] fun E3 => hclean [] H' fun H2 => Q .normal E3 H2

/-- A region whose order is drawn, order by order (asked for by 200000 + the region's number among 'own'). -/
def vregA (P : Program) (Γ : Tab) (c : Cfg) (ops : Array Oper) (draw : Bool) (E : Env) (H : Heap) (Q : Exit → Env → Heap → Prop) : Prop :=
  match draw with
  | false => False
  | true => (cB ops (qidx Γ ops.toList 0 []) && Nat.ble (qidx Γ ops.toList 0 []).length ops.toList.length) = true ∧ vqs c.N ops.toList (qidx Γ ops.toList 0 []) E fun E' =>
      vany P Γ c.N c.own ops.toList (Nat.sub ops.toList.length (qidx Γ ops.toList 0 []).length) (qidx Γ ops.toList 0 []).reverse E' H fun E' H' => trim c.keep E' [] fun E3 => hclean [] H' fun H2 => Q .normal E3 H2

/-- Ways that come together: less is known from here on (asked for by 100000 + the region's number among 'own'). -/
def VJoin (G : List AV) (f : Env → Heap → Prop) (E : Env) (H : Heap) : Prop :=
  ∃ (X : Type) (mkE : X → Env) (mkH : X → Heap) (I : X → Prop) (x0 : X), Weak G E H (mkE x0) (mkH x0) ∧ I x0 ∧ ∀ x, I x → f (mkE x) (mkH x)

def vwp (P : Program) (Γ : Tab) (c : Cfg) : Code → Env → Heap → (Exit → Env → Heap → Prop) → Prop
  | .skip, E, H, Q => Q .normal E H
  | .seq x y, E, H, Q => vwp P Γ c x E H fun e E' H' => match e with
    | .normal => vwp P Γ c y E' H' Q
    | e => Q e E' H'
  | .cond x t f, E, H, Q => match avOf E x with
    | .tt => vwp P Γ c t E H Q
    | .ff => vwp P Γ c f E H Q
    | .val (.bool b) => (b = true → vwp P Γ c t E H Q) ∧ (b = false → vwp P Γ c f E H Q)
    | _ => False
  | .block id x, E, H, Q => vwp P Γ c x E H fun e E' H' => match e with
    | .exit id' => bif Nat.beq id' id then Q .normal E' H' else Q (.exit id') E' H'
    | e => Q e E' H'
  | .exit id, E, H, Q => Q (.exit id) E H
  | .ret, E, H, Q => Q .ret E H
  | .loop x, E, H, Q => VLoop c.gh (vwp P Γ c x) E H Q
  | .label _, E, H, Q => Q .normal E H
  | .region id ops draw, E, H, Q => bif smem c.own (Nat.add 200000 id) then vregA P Γ c ops draw E H Q else bif smem c.own (Nat.add 100000 id) then VJoin c.gh (fun E H => vreg P Γ c ops draw E H Q) E H else vreg P Γ c ops draw E H Q
  | _, _, _, _ => False
end Go.V

namespace Go.V
open Go.RowKit

section weak
variable {N : Nat} {w0 : Base} {w : World} {E E' : Env} {H H' : Heap} {φ : Nat → Value} {a : Act} {m : List (Nat × Nat)}

def back (m : List (Nat × Nat)) (φ : Nat → Value) : Nat → Value := fun k => match ninv m k with
  | some i => φ i
  | none => .tuple #[]

theorem WH.get (h : WH m H H') {k : Nat} {C' : Cont} (hk : hget H' k = some C') : ∃ i C, ninv m k = some i ∧ nget m i = some k ∧ hget H i = some C ∧ CC m H C' C := by
  induction H' with
  | nil => cases hk
  | cons p H' ih =>
    obtain ⟨s, D⟩ := p
    simp only [WH] at h
    rw [hget_cons] at hk
    split at hk
    · rename_i e; subst e
      simp only [Option.some.injEq] at hk
      subst hk
      have h1 := h.1
      split at h1
      · rename_i i hi
        obtain ⟨h2, h3⟩ := h1
        split at h3
        · rename_i C hg; exact ⟨i, C, hi, h2, hg, h3⟩
        · exact h3.elim
      · exact h1.elim
    · exact ih h.2 hk

theorem back_live (h : WH m H H') {k : Nat} (hk : hlive H' k) : ∃ i, hlive H i ∧ back m φ k = φ i ∧ nget m i = some k := by
  obtain ⟨C', h1, h2⟩ := hk
  obtain ⟨i, C, e1, e2, e3, e4⟩ := h.get h1
  refine ⟨i, ⟨C, e3, ?_⟩, by simp [back, e1], e2⟩
  rintro rfl
  cases C' with
  | dead => exact h2 rfl
  | row e t l => simp only [CC] at e4; cases e4
  | box ds => simp only [CC] at e4

theorem back_keeps (h : WH m H H') : Keeps w w (Fr φ H) (Fr (back m φ) H') := fun b hf _ => ⟨rfl, fun k hk hb => by
  obtain ⟨i, h1, h2, _⟩ := back_live (φ := φ) h hk
  rw [h2] at hb; exact hf i h1 hb⟩
theorem back_keepsG (h : WH m H H') {B : Base} : Keeps w w (Gr B φ H) (Gr B (back m φ) H') := fun b hf hlt => ⟨rfl, hf.1, (back_keeps (w := w) h b hf.2 hlt).2⟩

theorem sl_sealed (hs : Sim w0 w φ H) (h : WH m H H') {id : Nat} (hn : nget m id = none) {e : TypeId} {t : STy} {l : List t.S} (hh : hget H id = some (.row e t l)) (fr : Bool) :
    Rel w (Fr (back m φ) H') (Gr w0 (back m φ) H') (back m φ) H' (.sl fr t l) (φ id) := by
  have hlv : hlive H id := ⟨_, hh, by intro hc; cases hc⟩
  simp only [Rel]
  have key : ∀ F : Nat → Prop, (∀ b, Gr w0 (back m φ) H' b → F b) → RdSl w F t.n (RdC w F t) l (φ id) := by
    intro F hF
    rcases hs.good id _ hh with ⟨h0, h1⟩ | ⟨b, cap, vs, h1, h2, h3, h4, h5, h6⟩
    · exact .inl ⟨h0, _, _, h1⟩
    · have hbk : blk (φ id) = some b := by rw [h1]; rfl
      refine .inr ⟨b, 0, cap, h1, h3, hF b ⟨(hs.fresh id b hlv hbk).1, fun k hk hb => ?_⟩, hs.block_lt hlv hbk, fun i x hx => ?_⟩
      · obtain ⟨i, g1, g2, g3⟩ := back_live (φ := φ) h hk
        rw [g2] at hb
        have := hs.inj i id b g1 hlv hb hbk
        subst this
        rw [hn] at g3; cases g3
      · obtain ⟨us, e1, e2, e3⟩ := h6 i x hx
        refine ⟨us, e1, RdC.any hF t x us (RdC.keep (Nat.le_refl _) (back_keepsG h) t x us e2), fun j u hj => ?_⟩
        simp only [World.cell?, h2, Nat.zero_add]
        simpa using e3 j u hj
  cases fr
  · exact key _ fun b hb => hb.2
  · exact key _ fun b hb => hb

theorem ninj_spec : ∀ {m : List (Nat × Nat)}, ninj m = true → ∀ i j k, nget m i = some k → nget m j = some k → i = j
  | [], _, i, j, k, h, _ => by cases h
  | (s, t) :: m, hn, i, j, k, hi, hj => by
    simp only [ninj, Bool.and_eq_true, List.all_eq_true] at hn
    have mem : ∀ (m : List (Nat × Nat)) i k, nget m i = some k → ∃ p ∈ m, p.2 = k := by
      intro m
      induction m with
      | nil => intro i k h; cases h
      | cons p m ih =>
        obtain ⟨s, t⟩ := p
        intro i k h
        simp only [nget, beq_eq, Bool.cond_decide] at h
        split at h
        · cases h; exact ⟨(s, t), by simp, rfl⟩
        · obtain ⟨q, h1, h2⟩ := ih i k h; exact ⟨q, by simp [h1], h2⟩
    have no : ∀ i k, nget m i = some k → k ≠ t := by
      intro i k h e
      obtain ⟨p, h1, h2⟩ := mem m i k h
      have := hn.1 p h1
      simp only [beq_eq, Bool.not_eq_true', decide_eq_false_iff_not] at this
      exact this (h2.trans e)
    simp only [nget, beq_eq, Bool.cond_decide] at hi hj
    split at hi <;> split at hj
    · rename_i e1 e2; exact e1.symm.trans e2
    · cases hi; exact absurd rfl (no _ _ hj)
    · cases hj; exact absurd rfl (no _ _ hi)
    · exact ninj_spec hn.2 i j k hi hj

theorem back_hkeeps (h : WH m H H') (hn : ninj m = true) {id k : Nat} (hk : nget m id = some k) {C' : Cont} (hc : hget H' k = some C') :
    ∃ C, hget H id = some C ∧ back m φ k = φ id ∧ CC m H C' C := by
  obtain ⟨i, C, e1, e2, e3, e4⟩ := h.get hc
  have := ninj_spec hn i id k e2 hk
  subst this
  exact ⟨C, e3, by simp [back, e1], e4⟩

mutual
theorem Cv_rel (hs : Sim w0 w φ H) (h : WH m H H') (hn : ninj m = true) (hin : ∀ id k, nget m id = some k → (hget H' k).isSome = true) : ∀ (b a : AV) (v : Value), Cv m H b a → Rel w (Fr φ H) (Gr w0 φ H) φ H a v →
    Rel w (Fr (back m φ) H') (Gr w0 (back m φ) H') (back m φ) H' b v
  | .junk, a, v, _, _ => by simp only [Rel]
  | .tt, a, v, hc, hr => by simp only [Cv] at hc; subst hc; simpa only [Rel] using hr
  | .ff, a, v, hc, hr => by simp only [Cv] at hc; subst hc; simpa only [Rel] using hr
  | .flt k x, a, v, hc, hr => by simp only [Cv] at hc; subst hc; simpa only [Rel] using hr
  | .cpx k x y, a, v, hc, hr => by simp only [Cv] at hc; subst hc; simpa only [Rel] using hr
  | .val u, a, v, hc, hr => by
    simp only [Cv] at hc
    split at hc
    · subst hc; simpa only [Rel] using hr
    · subst hc; simpa only [Rel] using hr
    · subst hc; simpa only [Rel] using hr
    · exact hc.elim
  | .own k, a, v, hc, hr => by
    simp only [Cv] at hc
    split at hc
    · rename_i id
      simp only [Rel] at hr ⊢
      refine ⟨hin id k hc, fun e t l hk => ?_⟩
      obtain ⟨C, h1, h2, h3⟩ := back_hkeeps (φ := φ) h hn hc hk
      simp only [CC] at h3; subst h3
      rw [h2]; exact hr.2 _ _ _ h1
    · exact hc.elim
  | .ptrO k off, a, v, hc, hr => by
    simp only [Cv] at hc
    split at hc
    · rename_i id off'
      obtain ⟨hc, rfl⟩ := hc
      simp only [Rel] at hr ⊢
      refine ⟨hin id k hc, fun cs hk => ?_⟩
      obtain ⟨C, h1, h2, h3⟩ := back_hkeeps (φ := φ) h hn hc hk
      cases C <;> simp only [CC] at h3
      rw [h2]; exact hr.2 _ h1
    · exact hc.elim
  | .ptrE k i off, a, v, hc, hr => by
    simp only [Cv] at hc
    split at hc
    · rename_i id i' off'
      obtain ⟨hc, rfl, rfl⟩ := hc
      simp only [Rel] at hr ⊢
      refine ⟨hin id k hc, fun e t l hk => ?_⟩
      obtain ⟨C, h1, h2, h3⟩ := back_hkeeps (φ := φ) h hn hc hk
      simp only [CC] at h3; subst h3
      rw [h2]; exact hr.2 _ _ _ h1
    · exact hc.elim
  | .sl fr t l, a, v, hc, hr => by
    simp only [Cv] at hc
    split at hc
    · subst hc
      simp only [Rel] at hr ⊢
      exact .inl ⟨rfl, _, _, hr⟩
    · rename_i id
      obtain ⟨hc, e, hh⟩ := hc
      simp only [Rel] at hr
      rw [hr.2 _ _ _ hh]
      exact sl_sealed hs h hc hh fr
    · rename_i fr' t' l'
      obtain ⟨h1, h2⟩ := hc
      cases h2
      simp only [Rel] at hr ⊢
      cases fr'
      · cases fr
        · exact hr.keep (Nat.le_refl _) (back_keeps h) (fun x us hx => RdC.keep (Nat.le_refl _) (back_keeps h) t x us hx)
        · cases h1
      · have hr' := hr.keep (Nat.le_refl _) (back_keepsG h) (fun x us hx => RdC.keep (Nat.le_refl _) (back_keepsG h) t x us hx)
        cases fr
        · exact hr'.any (fun b hb => hb.2) (fun x us hx => RdC.any (fun b hb => hb.2) t x us hx)
        · exact hr'
    · exact hc.elim
  | .agg ds, a, v, hc, hr => by
    simp only [Cv] at hc
    split at hc
    · simp only [Rel] at hr ⊢
      obtain ⟨us, h1, h2⟩ := hr
      exact ⟨us, h1, CvL_rel hs h hn hin ds _ us hc h2⟩
    · exact hc.elim
  | .tup ds, a, v, hc, hr => by
    simp only [Cv] at hc
    split at hc
    · simp only [Rel] at hr ⊢
      obtain ⟨us, h1, h2⟩ := hr
      exact ⟨us, h1, CvL_rel hs h hn hin ds _ us hc h2⟩
    · exact hc.elim
  | .ptrR ds, a, v, hc, hr => by
    simp only [Cv] at hc
    split at hc
    · simp only [Rel] at hr ⊢
      obtain ⟨b, off, us, h1, h2, h3, h4, h5⟩ := hr
      exact ⟨b, off, us, h1, (back_keeps (w := w) h b h2 h3).2, h3, CvL_rel hs h hn hin ds _ us hc h4, h5⟩
    · exact hc.elim
  | .fn g ds, a, v, hc, hr => by
    simp only [Cv] at hc
    split at hc
    · obtain ⟨rfl, hc⟩ := hc
      simp only [Rel] at hr ⊢
      obtain ⟨us, h1, h2⟩ := hr
      exact ⟨us, h1, CvL_rel hs h hn hin ds _ us hc h2⟩
    · exact hc.elim
theorem CvL_rel (hs : Sim w0 w φ H) (h : WH m H H') (hn : ninj m = true) (hin : ∀ id k, nget m id = some k → (hget H' k).isSome = true) : ∀ (ds cs : List AV) (us : List Value), CvL m H ds cs → RelL w (Fr φ H) (Gr w0 φ H) φ H cs us →
    RelL w (Fr (back m φ) H') (Gr w0 (back m φ) H') (back m φ) H' ds us
  | [], cs, us, hc, hr => by simp only [CvL] at hc; subst hc; exact hr
  | d :: ds, cs, us, hc, hr => by
    simp only [CvL] at hc
    split at hc
    · rename_i c cs
      simp only [RelL] at hr ⊢
      obtain ⟨v, vs, h1, h2, h3⟩ := hr
      exact ⟨v, vs, h1, Cv_rel hs h hn hin d c v hc.1 h2, CvL_rel hs h hn hin ds cs vs hc.2 h3⟩
    · exact hc.elim
end

theorem Sim.weak (hs : Sim w0 w φ H) (h : WH m H H') (hn : ninj m = true) (hin : ∀ id k, nget m id = some k → (hget H' k).isSome = true) : Sim w0 w (back m φ) H' where
  below := hs.below
  good := fun k C' hk => by
    obtain ⟨i, C, e1, e2, e3, e4⟩ := h.get hk
    have hb : back m φ k = φ i := by simp [back, e1]
    have hg := hs.good i C e3
    cases C' with
    | dead => trivial
    | row e t l =>
      simp only [CC] at e4; subst e4
      rcases hg with ⟨h0, h1⟩ | ⟨b, cap, vs, h1, h2, h3, h4, h5, h6⟩
      · exact .inl ⟨h0, by rw [hb, h1]⟩
      · refine .inr ⟨b, cap, vs, by rw [hb, h1], h2, h3, h4, h5, fun j x hj => ?_⟩
        obtain ⟨us, g1, g2, g3⟩ := h6 j x hj
        exact ⟨us, g1, RdC.keep (Nat.le_refl _) (back_keepsG h) t x us g2, g3⟩
    | box ds =>
      cases C <;> simp only [CC] at e4
      obtain ⟨b, T, us, h1, h2, h3⟩ := hg
      exact ⟨b, T, us, by rw [hb, h1], h2, CvL_rel hs h hn hin ds _ us e4 h3⟩
  fresh := fun k b hk hb => by
    obtain ⟨i, h1, h2, _⟩ := back_live (φ := φ) h hk
    rw [h2] at hb; exact hs.fresh i b h1 hb
  inj := fun k k' b hk hk' hb hb' => by
    obtain ⟨i, h1, h2, h3⟩ := back_live (φ := φ) h hk
    obtain ⟨j, g1, g2, g3⟩ := back_live (φ := φ) h hk'
    rw [h2] at hb; rw [g2] at hb'
    have := hs.inj i j b h1 g1 hb hb'
    subst this
    rw [h3] at g3; cases g3; rfl
  keep := hs.keep
mutual
theorem sealed_rel {w : World} {F F' G : Nat → Prop} {φ : Nat → Value} {H : Heap} : ∀ (r : AV) (v : Value), sealedB r = true → Rel w F G φ H r v → Rel w F' G φ H r v
  | .sl fr t l, v, hs, h => by
    simp only [sealedB] at hs
    subst hs
    simp only [Rel] at h ⊢
    exact h
  | .agg cs, v, hs, h => by
    simp only [sealedB] at hs; simp only [Rel] at h ⊢
    obtain ⟨us, h1, h2⟩ := h
    exact ⟨us, h1, sealedL_rel cs us hs h2⟩
  | .tup cs, v, hs, h => by
    simp only [sealedB] at hs; simp only [Rel] at h ⊢
    obtain ⟨us, h1, h2⟩ := h
    exact ⟨us, h1, sealedL_rel cs us hs h2⟩
  | .fn g cs, v, hs, h => by
    simp only [sealedB] at hs; simp only [Rel] at h ⊢
    obtain ⟨us, h1, h2⟩ := h
    exact ⟨us, h1, sealedL_rel cs us hs h2⟩
  | .ptrR _, v, hs, h => by simp only [sealedB] at hs; cases hs
  | .ptrO _ _, v, hs, h => by simp only [sealedB] at hs; cases hs
  | .ptrE _ _ _, v, hs, h => by simp only [sealedB] at hs; cases hs
  | .tt, v, hs, h => by simpa only [Rel] using h
  | .ff, v, hs, h => by simpa only [Rel] using h
  | .val _, v, hs, h => by simpa only [Rel] using h
  | .flt _ _, v, hs, h => by simpa only [Rel] using h
  | .cpx _ _ _, v, hs, h => by simpa only [Rel] using h
  | .own _, v, hs, h => by simpa only [Rel] using h
  | .junk, v, hs, h => by simp only [Rel]
theorem sealedL_rel {w : World} {F F' G : Nat → Prop} {φ : Nat → Value} {H : Heap} : ∀ (cs : List AV) (us : List Value), sealedL cs = true → RelL w F G φ H cs us → RelL w F' G φ H cs us
  | [], us, hs, h => h
  | c :: cs, us, hs, h => by
    simp only [sealedL, Bool.and_eq_true] at hs
    simp only [RelL] at h ⊢
    obtain ⟨v, vs, h1, h2, h3⟩ := h
    exact ⟨v, vs, h1, sealed_rel c v hs.1 h2, sealedL_rel cs vs hs.2 h3⟩
end

end weak
end Go.V

namespace Go.V
open Go.RowKit

section handed
variable {N : Nat} {w0 : Base} {w w' : World} {E : Env} {H Ha Hr Hr' : Heap} {φ φ' : Nat → Value} {a : Act} {m m' : List (Nat × Nat)}

theorem nget_mem' : ∀ {m : List (Nat × Nat)} {i k : Nat}, nget m i = some k → (i, k) ∈ m
  | [], i, k, h => by cases h
  | (s, t) :: m, i, k, h => by
    simp only [nget, beq_eq, Bool.cond_decide] at h
    split at h
    · rename_i e; cases h; subst e; simp
    · exact List.mem_cons_of_mem _ (nget_mem' h)

theorem nin_spec' (h : nin Ha m = true) : ∀ id k, nget m id = some k → (hget Ha k).isSome = true := fun id k hk =>
  List.all_eq_true.1 h (id, k) (nget_mem' hk)

/-- What the callee starts from: all that is there stays, but for what it is handed. -/
def handed (w0 : Base) (w : World) (φ : Nat → Value) (H : Heap) (φa : Nat → Value) (Ha : Heap) : Base where
  w := w
  S := fun b => b < w.heap.size ∧ Fr φa Ha b
  D := fun b => w.heap.size ≤ b ∨ (∃ id, hlive Ha id ∧ blk (φa id) = some b) ∨ Gr w0 φ H b
  lt := fun _ h => h.1
  new := fun _ h => .inl h
  ga := []
  gv := []

theorem fr_back (h3 : WH m H Ha) {b : Nat} (hf : Fr φ H b) : Fr (back m φ) Ha b := fun k hk hb => by
  obtain ⟨i, g1, g2, _⟩ := back_live (φ := φ) h3 hk
  rw [g2] at hb; exact hf i g1 hb

mutual
theorem Cv_mono : ∀ (b a : AV), Cv m [] b a → Cv m H b a
  | .junk, a, _ => by simp only [Cv]
  | .tt, a, hc => by simpa only [Cv] using hc
  | .ff, a, hc => by simpa only [Cv] using hc
  | .flt k x, a, hc => by simpa only [Cv] using hc
  | .cpx k x y, a, hc => by simpa only [Cv] using hc
  | .val u, a, hc => by simp only [Cv] at hc ⊢; exact hc
  | .own k, a, hc => by simp only [Cv] at hc ⊢; exact hc
  | .ptrO k off, a, hc => by simp only [Cv] at hc ⊢; exact hc
  | .ptrE k i off, a, hc => by simp only [Cv] at hc ⊢; exact hc
  | .sl fr t l, a, hc => by
    simp only [Cv] at hc ⊢
    split at hc
    · exact hc
    · obtain ⟨_, e, h⟩ := hc; cases h
    · exact hc
    · exact hc.elim
  | .agg ds, a, hc => by
    simp only [Cv] at hc ⊢
    split at hc
    · exact CvL_mono ds _ hc
    · exact hc.elim
  | .tup ds, a, hc => by
    simp only [Cv] at hc ⊢
    split at hc
    · exact CvL_mono ds _ hc
    · exact hc.elim
  | .ptrR ds, a, hc => by
    simp only [Cv] at hc ⊢
    split at hc
    · exact CvL_mono ds _ hc
    · exact hc.elim
  | .fn g ds, a, hc => by
    simp only [Cv] at hc ⊢
    split at hc
    · exact ⟨hc.1, CvL_mono ds _ hc.2⟩
    · exact hc.elim
theorem CvL_mono : ∀ (ds cs : List AV), CvL m [] ds cs → CvL m H ds cs
  | [], cs, hc => by simpa only [CvL] using hc
  | d :: ds, cs, hc => by
    simp only [CvL] at hc ⊢
    split at hc
    · exact ⟨Cv_mono d _ hc.1, CvL_mono ds _ hc.2⟩
    · exact hc.elim
end

theorem CC_mono {C C' : Cont} (h : CC m [] C' C) : CC m H C' C := by
  cases C' <;> cases C <;> simp only [CC] at h ⊢ <;> first | exact h | exact CvL_mono _ _ h

theorem WH0.wh : ∀ {L : Heap}, WH0 m H L → WH m H L
  | [], _ => trivial
  | (k, C') :: L, h => by
    simp only [WH0] at h
    simp only [WH]
    refine ⟨?_, h.2.wh⟩
    have h1 := h.1
    split at h1
    · rename_i i hi
      obtain ⟨h2, h3⟩ := h1
      refine ⟨h2, ?_⟩
      split at h3
      · rename_i C hC; first | exact CC_mono h3 | (rw [hC]; exact CC_mono h3)
      · exact h3.elim
    · exact h1.elim

theorem WH0.get : ∀ {L : Heap}, WH0 m H L → ∀ {k : Nat} {C' : Cont}, hget L k = some C' → ∃ i C, ninv m k = some i ∧ nget m i = some k ∧ hget H i = some C ∧ CC m [] C' C
  | [], _, k, C', hk => by cases hk
  | (s, D) :: L, h, k, C', hk => by
    simp only [WH0] at h
    rw [hget_cons] at hk
    split at hk
    · rename_i e; subst e
      simp only [Option.some.injEq] at hk
      subst hk
      have h1 := h.1
      split at h1
      · rename_i i hi
        obtain ⟨h2, h3⟩ := h1
        split at h3
        · rename_i C hg; exact ⟨i, C, hi, h2, hg, h3⟩
        · exact h3.elim
      · exact h1.elim
    · exact WH0.get h.2 hk

mutual
theorem Cv0_rel {w1 : Base} (hG : ∀ b, Gr w0 φ H b → Gr w1 (back m φ) Ha b) (h : WH m H Ha) (hn : ninj m = true) (hin : ∀ id k, nget m id = some k → (hget Ha k).isSome = true) :
    ∀ (b a : AV) (v : Value), Cv m [] b a → Rel w (Fr φ H) (Gr w0 φ H) φ H a v → Rel w (Fr (back m φ) Ha) (Gr w1 (back m φ) Ha) (back m φ) Ha b v
  | .junk, a, v, _, _ => by simp only [Rel]
  | .tt, a, v, hc, hr => by simp only [Cv] at hc; subst hc; simpa only [Rel] using hr
  | .ff, a, v, hc, hr => by simp only [Cv] at hc; subst hc; simpa only [Rel] using hr
  | .flt k x, a, v, hc, hr => by simp only [Cv] at hc; subst hc; simpa only [Rel] using hr
  | .cpx k x y, a, v, hc, hr => by simp only [Cv] at hc; subst hc; simpa only [Rel] using hr
  | .val u, a, v, hc, hr => by
    simp only [Cv] at hc
    split at hc
    · subst hc; simpa only [Rel] using hr
    · subst hc; simpa only [Rel] using hr
    · subst hc; simpa only [Rel] using hr
    · exact hc.elim
  | .own k, a, v, hc, hr => by
    simp only [Cv] at hc
    split at hc
    · rename_i id
      simp only [Rel] at hr ⊢
      refine ⟨hin id k hc, fun e t l hk => ?_⟩
      obtain ⟨C, h1, h2, h3⟩ := back_hkeeps (φ := φ) h hn hc hk
      simp only [CC] at h3; subst h3
      rw [h2]; exact hr.2 _ _ _ h1
    · exact hc.elim
  | .ptrO k off, a, v, hc, hr => by
    simp only [Cv] at hc
    split at hc
    · rename_i id off'
      obtain ⟨hc, rfl⟩ := hc
      simp only [Rel] at hr ⊢
      refine ⟨hin id k hc, fun cs hk => ?_⟩
      obtain ⟨C, h1, h2, h3⟩ := back_hkeeps (φ := φ) h hn hc hk
      cases C <;> simp only [CC] at h3
      rw [h2]; exact hr.2 _ h1
    · exact hc.elim
  | .ptrE k i off, a, v, hc, hr => by
    simp only [Cv] at hc
    split at hc
    · rename_i id i' off'
      obtain ⟨hc, rfl, rfl⟩ := hc
      simp only [Rel] at hr ⊢
      refine ⟨hin id k hc, fun e t l hk => ?_⟩
      obtain ⟨C, h1, h2, h3⟩ := back_hkeeps (φ := φ) h hn hc hk
      simp only [CC] at h3; subst h3
      rw [h2]; exact hr.2 _ _ _ h1
    · exact hc.elim
  | .sl fr t l, a, v, hc, hr => by
    simp only [Cv] at hc
    split at hc
    · subst hc
      simp only [Rel] at hr ⊢
      exact .inl ⟨rfl, _, _, hr⟩
    · obtain ⟨_, e, hh⟩ := hc; cases hh
    · rename_i fr' t' l'
      obtain ⟨h1, h2⟩ := hc
      cases h2
      have hF : ∀ b, Fr φ H b → Fr (back m φ) Ha b := fun b hb => fr_back h hb
      simp only [Rel] at hr ⊢
      cases fr'
      · cases fr
        · exact hr.any hF (fun x us hx => RdC.any hF t x us hx)
        · cases h1
      · cases fr
        · exact hr.any (fun b hb => hF b hb.2) (fun x us hx => RdC.any (fun b hb => hF b hb.2) t x us hx)
        · exact hr.any hG (fun x us hx => RdC.any hG t x us hx)
    · exact hc.elim
  | .agg ds, a, v, hc, hr => by
    simp only [Cv] at hc
    split at hc
    · simp only [Rel] at hr ⊢
      obtain ⟨us, h1, h2⟩ := hr
      exact ⟨us, h1, CvL0_rel hG h hn hin ds _ us hc h2⟩
    · exact hc.elim
  | .tup ds, a, v, hc, hr => by
    simp only [Cv] at hc
    split at hc
    · simp only [Rel] at hr ⊢
      obtain ⟨us, h1, h2⟩ := hr
      exact ⟨us, h1, CvL0_rel hG h hn hin ds _ us hc h2⟩
    · exact hc.elim
  | .ptrR ds, a, v, hc, hr => by
    simp only [Cv] at hc
    split at hc
    · simp only [Rel] at hr ⊢
      obtain ⟨b, off, us, h1, h2, h3, h4, h5⟩ := hr
      exact ⟨b, off, us, h1, fr_back h h2, h3, CvL0_rel hG h hn hin ds _ us hc h4, h5⟩
    · exact hc.elim
  | .fn g ds, a, v, hc, hr => by
    simp only [Cv] at hc
    split at hc
    · obtain ⟨rfl, hc⟩ := hc
      simp only [Rel] at hr ⊢
      obtain ⟨us, h1, h2⟩ := hr
      exact ⟨us, h1, CvL0_rel hG h hn hin ds _ us hc h2⟩
    · exact hc.elim
theorem CvL0_rel {w1 : Base} (hG : ∀ b, Gr w0 φ H b → Gr w1 (back m φ) Ha b) (h : WH m H Ha) (hn : ninj m = true) (hin : ∀ id k, nget m id = some k → (hget Ha k).isSome = true) :
    ∀ (ds cs : List AV) (us : List Value), CvL m [] ds cs → RelL w (Fr φ H) (Gr w0 φ H) φ H cs us → RelL w (Fr (back m φ) Ha) (Gr w1 (back m φ) Ha) (back m φ) Ha ds us
  | [], cs, us, hc, hr => by simp only [CvL] at hc; subst hc; exact hr
  | d :: ds, cs, us, hc, hr => by
    simp only [CvL] at hc
    split at hc
    · rename_i c cs
      simp only [RelL] at hr ⊢
      obtain ⟨v, vs, h1, h2, h3⟩ := hr
      exact ⟨v, vs, h1, Cv0_rel hG h hn hin d c v hc.1 h2, CvL0_rel hG h hn hin ds cs vs hc.2 h3⟩
    · exact hc.elim
end

theorem handed_keep (h3 : WH m H Ha) : ∀ b, Gr w0 φ H b → Gr (handed w0 w φ H (back m φ) Ha) (back m φ) Ha b := fun _ hb => ⟨.inr (.inr hb), fr_back h3 hb.2⟩

theorem handed_sim (h : Sim w0 w φ H) (h1 : ninj m = true) (h2 : nin Ha m = true) (h30 : WH0 m H Ha) : Sim (handed w0 w φ H (back m φ) Ha) w (back m φ) Ha := by
  have h3 := h30.wh
  have hk := h.weak h3 h1 (nin_spec' h2)
  have kG := handed_keep (w0 := w0) (w := w) (φ := φ) h3
  refine ⟨Onto.refl _ _, fun k C' hC => ?_, fun k _ hl hb => ⟨.inr (.inl ⟨k, hl, hb⟩), fun hS => hS.2 k hl hb⟩, hk.inj, fun w' k' => h.keep _ (h.below.trans ⟨k'.os, k'.tape, k'.output, k'.size, fun b hb => k'.block b ⟨Nat.lt_of_lt_of_le (w0.lt b hb) h.below.size, fun k hk2 hbk => by
    obtain ⟨j, e1, e2, e3⟩ := back_live (φ := φ) h3 hk2
    rw [e2] at hbk
    exact (h.fresh j b e1 hbk).2 hb⟩⟩)⟩
  obtain ⟨i, C, e1, e2, e3, e4⟩ := h30.get hC
  have hb : back m φ k = φ i := by simp [back, e1]
  have hg := h.good i C e3
  cases C' with
  | dead => trivial
  | row e t l =>
    simp only [CC] at e4; subst e4
    rcases hg with ⟨h0, h1⟩ | ⟨b, cap, vs, h1, h2, h3, h4, h5, h6⟩
    · exact .inl ⟨h0, by rw [hb, h1]⟩
    · refine .inr ⟨b, cap, vs, by rw [hb, h1], h2, h3, h4, h5, fun j x hj => ?_⟩
      obtain ⟨us, g1, g2, g3⟩ := h6 j x hj
      exact ⟨us, g1, RdC.any kG t x us g2, g3⟩
  | box ds =>
    cases C <;> simp only [CC] at e4
    obtain ⟨b, T, us, g1, g2, g3⟩ := hg
    exact ⟨b, T, us, by rw [hb, g1], g2, CvL0_rel kG h3 h1 (nin_spec' h2) ds _ us e4 g3⟩

theorem wview_rel {w1 : Base} (hs : Sim w0 w φ H) (h3 : WH m H Ha) (h1 : ninj m = true) (h2 : nin Ha m = true) : ∀ (n : Nat) (a : AV) (v : Value), Rel w (Fr φ H) (Gr w0 φ H) φ H a v →
    Rel w (Fr (back m φ) Ha) (Gr w1 (back m φ) Ha) (back m φ) Ha (wview m H n a) v
  | 0 => fun a v _ => by simp only [wview, Rel]
  | n + 1 => by
    have ih := wview_rel (w1 := w1) hs h3 h1 h2 n
    have hF : ∀ b, Fr φ H b → Fr (back m φ) Ha b := fun b hb => fr_back h3 hb
    have ihL : ∀ (cs : List AV) (us : List Value), RelL w (Fr φ H) (Gr w0 φ H) φ H cs us → RelL w (Fr (back m φ) Ha) (Gr w1 (back m φ) Ha) (back m φ) Ha (cs.map (wview m H n)) us := by
      intro cs
      induction cs with
      | nil => intro us h; exact h
      | cons c cs ihc =>
        intro us h
        simp only [RelL] at h
        obtain ⟨v, vs, rfl, h1, h2⟩ := h
        exact ⟨v, vs, rfl, ih c v h1, ihc vs h2⟩
    intro a v h
    cases a <;> simp only [wview] <;> simp only [Rel] at h
    case tt => simp only [Rel]; exact h
    case ff => simp only [Rel]; exact h
    case val u => simp only [Rel]; exact h
    case flt => simp only [Rel]; exact h
    case cpx => simp only [Rel]; exact h
    case sl fr t l =>
      simp only [Rel, cond_false]
      cases fr
      · exact h.any hF (fun x us hx => RdC.any hF t x us hx)
      · exact h.any (fun b hb => hF b hb.2) (fun x us hx => RdC.any (fun b hb => hF b hb.2) t x us hx)
    case agg cs => simp only [Rel]; obtain ⟨us, h1, h2⟩ := h; exact ⟨us, h1, ihL _ _ h2⟩
    case tup cs => simp only [Rel]; obtain ⟨us, h1, h2⟩ := h; exact ⟨us, h1, ihL _ _ h2⟩
    case ptrR cs => simp only [Rel]; obtain ⟨b, o, us, h1, h2, h3, h4, h5⟩ := h; exact ⟨b, o, us, h1, hF b h2, h3, ihL _ _ h4, h5⟩
    case own id =>
      split
      · rename_i k hk
        simp only [Rel]
        refine ⟨nin_spec' h2 id k hk, fun e t l hC => ?_⟩
        obtain ⟨C, g1, g2, g3⟩ := back_hkeeps (φ := φ) h3 h1 hk hC
        simp only [CC] at g3; subst g3
        rw [g2]; exact h.2 _ _ _ g1
      · rename_i hk
        split
        · rename_i e t l hh
          simp only [Rel, cond_false]
          rw [h.2 _ _ _ hh]
          rcases hs.good id _ hh with ⟨h0, h1⟩ | ⟨b, cap, vs, e1, e2, e3, _, e5, e6⟩
          · left; exact ⟨h0, _, _, h1⟩
          · right
            have hbk : blk (φ id) = some b := by rw [e1]; rfl
            have hlv : hlive H id := ⟨_, hh, by intro hc; cases hc⟩
            have hfr : Fr (back m φ) Ha b := fun j hj hb => by
              obtain ⟨i, g1, g2, g3⟩ := back_live (φ := φ) h3 hj
              rw [g2] at hb
              have := hs.inj i id b g1 hlv hb hbk
              subst this
              rw [hk] at g3; cases g3
            refine ⟨b, 0, cap, e1, e3, hfr, hs.block_lt hlv hbk, fun i x hx => ?_⟩
            obtain ⟨us, q1, q2, q3⟩ := e6 i x hx
            refine ⟨us, q1, RdC.any (fun b hb => hF b hb.2) t x us q2, fun j u hj => ?_⟩
            simp only [World.cell?, e2, Nat.zero_add]
            simpa using q3 j u hj
        · simp only [Rel]
    case ptrO id off =>
      split
      · rename_i k hk
        simp only [Rel]
        refine ⟨nin_spec' h2 id k hk, fun cs hC => ?_⟩
        obtain ⟨C, g1, g2, g3⟩ := back_hkeeps (φ := φ) h3 h1 hk hC
        cases C <;> simp only [CC] at g3
        rw [g2]; exact h.2 _ g1
      · simp only [Rel]
    case ptrE id i off => simp only [Rel]
    case fn f caps => simp only [Rel]; obtain ⟨us, h1, h2⟩ := h; exact ⟨us, h1, ihL _ _ h2⟩
    case junk => simp only [Rel]
theorem newB_spec (h : newB m H Hr' = true) {i : Nat} {C : Cont} (hi : hget Hr' i = some C) : ((nget m i).isSome = true ∨ hget H i = none) ∧ ∀ cs, C = .box cs → sealedL cs = true := by
  have mem : ∀ (L : Heap), hget L i = some C → (i, C) ∈ L := by
    intro L
    induction L with
    | nil => intro h; cases h
    | cons p L ih =>
      obtain ⟨s, D⟩ := p
      intro h
      rw [hget_cons] at h
      split at h
      · rename_i e; cases h; subst e; simp
      · exact List.mem_cons_of_mem _ (ih h)
  have := List.all_eq_true.1 h _ (mem Hr' hi)
  simp only [Bool.and_eq_true, Bool.or_eq_true, Option.isNone_iff_eq_none] at this
  refine ⟨this.1, fun cs e => ?_⟩
  subst e
  exact this.2

theorem passB_spec (h : passB m m' H Hr' = true) {i k : Nat} (hi : nget m i = some k) : nget m' k = some i ∧ ∃ C C', hget H i = some C ∧ hget Hr' i = some C' ∧ kindB C C' = true := by
  have := List.all_eq_true.1 h _ (nget_mem' hi)
  simp only [Bool.and_eq_true] at this
  obtain ⟨h1, h2⟩ := this
  refine ⟨?_, ?_⟩
  · split at h1
    · rename_i j hj; rw [hj, Nat.eq_of_beq_eq_true h1]
    · cases h1
  · split at h2
    · rename_i C C' e1 e2; exact ⟨C, C', e1, e2, h2⟩
    · cases h2

theorem kindB_row {e : TypeId} {t : STy} {l : List t.S} {C : Cont} (h : kindB C (.row e t l) = true) : ∃ l0, C = .row e t l0 := by
  cases C with
  | row e' t' l' =>
    simp only [kindB, Bool.and_eq_true, decide_eq_true_eq] at h
    obtain ⟨h1, rfl⟩ := h
    have := Nat.eq_of_beq_eq_true h1
    subst this
    exact ⟨l', rfl⟩
  | box cs => cases h
  | dead => cases h
theorem kindB_box {cs : List AV} {C : Cont} (h : kindB C (.box cs) = true) : ∃ cs0, C = .box cs0 := by
  cases C with
  | row e' t' l' => cases h
  | box cs => exact ⟨_, rfl⟩
  | dead => cases h

theorem St.back_handed {r r' : AV} {v : Value} (hst : St N w0 E H φ a w) (h1 : ninj m = true) (h2 : nin Ha m = true) (ho : once Ha = true) (h30 : WH0 m H Ha)
    (hs' : Sim (handed w0 w φ H (back m φ) Ha) w' φ' Hr) (hkeep : ∀ id C C', hget Ha id = some C → hget Hr id = some C' → kindB C C' = true → φ' id = back m φ id)
    (g1 : ninj m' = true) (g2 : nin Hr' m' = true) (g3 : Cv m' Hr r' r) (g4 : WH m' Hr Hr') (gs : sealedB r' = true) (gp : passB m m' H Hr' = true) (gn : newB m H Hr' = true)
    (hr : Rel w' (Gr (handed w0 w φ H (back m φ) Ha) φ' Hr) (Gr (handed w0 w φ H (back m φ) Ha) φ' Hr) φ' Hr r v) :
    St N w0 E (Hr' ++ H) (both Hr' (back m' φ') φ) a w' ∧
      Rel w' (Fr (both Hr' (back m' φ') φ) (Hr' ++ H)) (Gr w0 (both Hr' (back m' φ') φ) (Hr' ++ H)) (both Hr' (back m' φ') φ) (Hr' ++ H) r' v := by
  have h3 := h30.wh
  have hS := hs'.weak g4 g1 (nin_spec' g2)
  have hsz := hst.sim.below.size
  have hsz' : w.heap.size ≤ w'.heap.size := hs'.below.size
  have hrel := sealed_rel (F' := Gr (handed w0 w φ H (back m φ) Ha) (back m' φ') Hr') r' v gs
    (Cv_rel hs' g4 g1 (nin_spec' g2) r' r v g3 (Rel.keep (Nat.le_refl _) (fun b hg _ => ⟨rfl, hg.2⟩) (fun b hg _ => ⟨rfl, hg⟩) (HKeeps.refl _ _) _ _ hr))
  have bR : ∀ i C, hget Hr' i = some C → both Hr' (back m' φ') φ i = back m' φ' i := fun i C hi => by simp [both, hi]
  have bH : ∀ i, hget Hr' i = none → both Hr' (back m' φ') φ i = φ i := fun i hi => by simp [both, hi]
  -- what was handed on keeps its name
  have pass : ∀ i k, nget m i = some k → ∃ C C', hget H i = some C ∧ hget Hr' i = some C' ∧ kindB C C' = true ∧ back m' φ' i = φ i := by
    intro i k hi
    obtain ⟨p1, C, C', p2, p3, p4⟩ := passB_spec gp hi
    refine ⟨C, C', p2, p3, p4, ?_⟩
    obtain ⟨k', C2, q1, q2, q3, q4⟩ := g4.get p3
    have := ninj_spec g1 k' k i q2 p1
    subst this
    have hb : back m' φ' i = φ' k' := by simp [back, q1]
    obtain ⟨Ck, hCk⟩ := Option.isSome_iff_exists.1 (nin_spec' h2 i k' hi)
    obtain ⟨i2, C3, s1, s2, s3, s4⟩ := h30.get hCk
    have := ninj_spec h1 i2 i k' s2 hi
    subst this
    rw [p2] at s3
    simp only [Option.some.injEq] at s3
    subst s3
    have hbm : back m φ k' = φ i2 := by simp [back, s1]
    rw [hb, hkeep k' Ck C2 hCk q3 ?_, hbm]
    have hnd := once_spec ho hCk
    cases Ck with
    | dead => exact absurd rfl hnd
    | row e t l =>
      simp only [CC] at s4
      subst s4
      cases C' with
      | row e' t' l' =>
        simp only [CC] at q4
        subst q4
        exact p4
      | box cs => cases p4
      | dead => cases p4
    | box ds =>
      cases C <;> simp only [CC] at s4
      cases C' with
      | row e' t' l' => cases p4
      | dead => cases p4
      | box cs =>
        cases C2 <;> simp only [CC] at q4
        rfl
  -- a block of the call's own that was not handed on
  have apart : ∀ i b, hget Hr' i = none → hlive H i → blk (φ i) = some b → Fr (back m φ) Ha b := fun i b hn hl hb k hk hbk => by
    obtain ⟨j, e1, e2, e3⟩ := back_live (φ := φ) h3 hk
    rw [e2] at hbk
    have := hst.sim.inj i j b hl e1 hb hbk
    subst this
    obtain ⟨C, C', _, q, _⟩ := pass i k e3
    rw [hn] at q; cases q
  have toS : ∀ b, Fr φ H b → b < w.heap.size → (handed w0 w φ H (back m φ) Ha).S b := fun b hf hlt => ⟨hlt, fr_back h3 hf⟩
  have live : ∀ i, hlive (Hr' ++ H) i → ∀ b, blk (both Hr' (back m' φ') φ i) = some b →
      (hlive Hr' i ∧ blk (back m' φ' i) = some b) ∨ (hget Hr' i = none ∧ hlive H i ∧ blk (φ i) = some b) := by
    intro i hi b hbk
    rcases hlive_append hi with ⟨C, e1, e2⟩ | ⟨e1, e2⟩
    · rw [bR i C e1] at hbk; exact .inl ⟨⟨C, e1, e2⟩, hbk⟩
    · rw [bH i e1] at hbk; exact .inr ⟨e1, e2, hbk⟩
  have toD : ∀ b, (handed w0 w φ H (back m φ) Ha).D b → w0.D b := by
    rintro b (h | ⟨k, hk, hb⟩ | h)
    · exact w0.new b (Nat.le_trans hsz h)
    · obtain ⟨j, e1, e2, e3⟩ := back_live (φ := φ) h3 hk
      rw [e2] at hb
      exact (hst.sim.fresh j b e1 hb).1
    · exact h.1
  have S0 : ∀ b, w0.S b → (handed w0 w φ H (back m φ) Ha).S b := fun b hb => ⟨Nat.lt_of_lt_of_le (w0.lt b hb) hsz, fun k hk hbk => by
    obtain ⟨j, e1, e2, e3⟩ := back_live (φ := φ) h3 hk
    rw [e2] at hbk
    exact (hst.sim.fresh j b e1 hbk).2 hb⟩
  have kF : Keeps w w' (Fr φ H) (Fr (both Hr' (back m' φ') φ) (Hr' ++ H)) := fun b hf hlt => ⟨hs'.below.block b (toS b hf hlt), fun i hi hbk => by
    rcases live i hi b hbk with ⟨e1, e2⟩ | ⟨_, e1, e2⟩
    · exact (hS.fresh i b e1 e2).2 (toS b hf hlt)
    · exact hf i e1 e2⟩
  have kG : Keeps w w' (Gr w0 φ H) (Gr w0 (both Hr' (back m' φ') φ) (Hr' ++ H)) := fun b hf hlt => ⟨(kF b hf.2 hlt).1, hf.1, (kF b hf.2 hlt).2⟩
  have hkH : HKeeps φ (both Hr' (back m' φ') φ) H (Hr' ++ H) := by
    refine ⟨fun id hi => by rw [hget_append]; cases hget Hr' id <;> simp_all, fun id e t l hi hc => ?_, fun id cs hi hc => ?_⟩
    · rw [hget_append] at hc
      cases hx : hget Hr' id with
      | none => rw [hx] at hc; exact ⟨l, hc, rfl, bH id hx⟩
      | some D =>
        rw [hx] at hc
        simp only [Option.some.injEq] at hc
        subst hc
        rcases (newB_spec gn hx).1 with hp | hp
        · obtain ⟨k, hk⟩ := Option.isSome_iff_exists.1 hp
          obtain ⟨C, C', q1, q2, q3, q4⟩ := pass id k hk
          rw [hx] at q2; cases q2
          obtain ⟨l0, rfl⟩ := kindB_row q3
          refine ⟨l0, q1, ?_, by rw [bR id _ hx, q4]⟩
          have ga := hst.sim.good id _ q1
          have gb := hS.good id _ hx
          rcases ga with ⟨e0, e1⟩ | ⟨b, cap, vs, e1, _⟩ <;> rcases gb with ⟨f0, f1⟩ | ⟨b', cap', vs', f1, _⟩ <;> rw [q4] at f1
          · rw [e0, f0]
          · rw [e1] at f1; cases f1
          · rw [e1] at f1; cases f1
          · rw [e1] at f1
            simp only [Value.slice.injEq] at f1
            exact f1.2.1
        · rw [hp] at hi; cases hi
    · rw [hget_append] at hc
      cases hx : hget Hr' id with
      | none => rw [hx] at hc; exact ⟨cs, hc, bH id hx⟩
      | some D =>
        rw [hx] at hc
        simp only [Option.some.injEq] at hc
        subst hc
        rcases (newB_spec gn hx).1 with hp | hp
        · obtain ⟨k, hk⟩ := Option.isSome_iff_exists.1 hp
          obtain ⟨C, C', q1, q2, q3, q4⟩ := pass id k hk
          rw [hx] at q2; cases q2
          obtain ⟨cs0, rfl⟩ := kindB_box q3
          exact ⟨cs0, q1, by rw [bR id _ hx, q4]⟩
        · rw [hp] at hi; cases hi
  have gsub : ∀ b, Gr (handed w0 w φ H (back m φ) Ha) (back m' φ') Hr' b → Fr (both Hr' (back m' φ') φ) (Hr' ++ H) b := fun b hg i hi hbk => by
    rcases live i hi b hbk with ⟨e1, e2⟩ | ⟨e0, e1, e2⟩
    · exact hg.2 i e1 e2
    · rcases hg.1 with h | ⟨k, hk, hb⟩ | h
      · have := hst.sim.block_lt e1 e2; omega
      · exact apart i b e0 e1 e2 k hk hb
      · exact h.2 i e1 e2
  have rF : Keeps w' w' (Gr (handed w0 w φ H (back m φ) Ha) (back m' φ') Hr') (Fr (both Hr' (back m' φ') φ) (Hr' ++ H)) := fun b hg _ => ⟨rfl, gsub b hg⟩
  have rG : Keeps w' w' (Gr (handed w0 w φ H (back m φ) Ha) (back m' φ') Hr') (Gr w0 (both Hr' (back m' φ') φ) (Hr' ++ H)) := fun b hg _ => ⟨rfl, toD b hg.1, gsub b hg⟩
  have hkR : HKeeps (back m' φ') (both Hr' (back m' φ') φ) Hr' (Hr' ++ H) := by
    have key : ∀ id C, (hget Hr' id).isSome = true → hget (Hr' ++ H) id = some C → hget Hr' id = some C ∧ both Hr' (back m' φ') φ id = back m' φ' id := by
      intro id C hi hc
      rw [hget_append] at hc
      cases hx : hget Hr' id with
      | some D => rw [hx] at hc; exact ⟨hc, bR id D hx⟩
      | none => rw [hx] at hi; cases hi
    exact ⟨fun id hi => by rw [hget_append]; cases hx : hget Hr' id <;> simp_all, fun id e t l hi hc => ⟨l, (key id _ hi hc).1, rfl, (key id _ hi hc).2⟩, fun id cs hi hc => ⟨cs, (key id _ hi hc).1, (key id _ hi hc).2⟩⟩
  have hon : Onto w0 w w' := ⟨hs'.below.os, hs'.below.tape, hs'.below.output, hsz', fun b hb => hs'.below.block b (S0 b hb)⟩
  refine ⟨⟨⟨hst.sim.below.trans hon, ?_, ?_, ?_, hst.sim.keep⟩, fun s => Rel.keep hsz' kF kG hkH _ _ (hst.env s), hst.defers, hst.size, RelL.keep hsz' kF kG hkH _ _ hst.gh⟩, Rel.keep (Nat.le_refl _) rF rG hkR _ _ hrel⟩
  · intro i C hi
    rw [hget_append] at hi
    cases hx : hget Hr' i with
    | some D =>
      rw [hx] at hi
      simp only [Option.some.injEq] at hi
      subst hi
      have hg := hS.good i _ hx
      cases D with
      | dead => trivial
      | row e t l =>
        rcases hg with ⟨e0, e1⟩ | ⟨b, cap, vs, e1, e2, e3, e4, e5, e6⟩
        · exact .inl ⟨e0, by rw [bR i _ hx, e1]⟩
        · refine .inr ⟨b, cap, vs, by rw [bR i _ hx, e1], e2, e3, e4, e5, fun j x hj => ?_⟩
          obtain ⟨us, f1, f2, f3⟩ := e6 j x hj
          exact ⟨us, f1, RdC.keep (Nat.le_refl _) rG t x us f2, f3⟩
      | box cs =>
        obtain ⟨b, T, us, e1, e2, e3⟩ := hg
        exact ⟨b, T, us, by rw [bR i _ hx, e1], e2, RelL.keep (Nat.le_refl _) rF rG hkR _ _ (sealedL_rel cs us ((newB_spec gn hx).2 cs rfl) e3)⟩
    | none =>
      rw [hx] at hi
      exact (hst.sim.good i C hi).keep hsz' kF kG hkH (fun _ => bH i hx) (fun hd b hbk => hs'.below.block b ⟨hst.sim.block_lt ⟨C, hi, hd⟩ hbk, apart i b hx ⟨C, hi, hd⟩ hbk⟩)
  · intro i b hi hbk
    rcases live i hi b hbk with ⟨e1, e2⟩ | ⟨_, e1, e2⟩
    · have := hS.fresh i b e1 e2
      exact ⟨toD b this.1, fun h => this.2 (S0 b h)⟩
    · exact hst.sim.fresh i b e1 e2
  · intro i j b hi hj hbi hbj
    rcases live i hi b hbi with ⟨e1, e2⟩ | ⟨e0, e1, e2⟩ <;> rcases live j hj b hbj with ⟨f1, f2⟩ | ⟨f0, f1, f2⟩
    · exact hS.inj i j b e1 f1 e2 f2
    · exact absurd ⟨hst.sim.block_lt f1 f2, apart j b f0 f1 f2⟩ (hS.fresh i b e1 e2).2
    · exact absurd ⟨hst.sim.block_lt e1 e2, apart i b e0 e1 e2⟩ (hS.fresh j b f1 f2).2
    · exact hst.sim.inj i j b e1 f1 e2 f2
end handed
end Go.V

namespace Go.V
open Go.RowKit

section weak
variable {N : Nat} {w0 : Base} {w : World} {E E' : Env} {H H' : Heap} {φ : Nat → Value} {a : Act} {m : List (Nat × Nat)}

theorem nget_mem : ∀ {m : List (Nat × Nat)} {i k : Nat}, nget m i = some k → ∃ p ∈ m, p.2 = k
  | [], i, k, h => by cases h
  | (s, t) :: m, i, k, h => by
    simp only [nget, beq_eq, Bool.cond_decide] at h
    split at h
    · cases h; exact ⟨(s, t), by simp, rfl⟩
    · obtain ⟨q, h1, h2⟩ := nget_mem h; exact ⟨q, by simp [h1], h2⟩

theorem nin_spec (h : nin H' m = true) : ∀ id k, nget m id = some k → (hget H' k).isSome = true := fun id k hk => by
  obtain ⟨p, h1, rfl⟩ := nget_mem hk
  exact List.all_eq_true.1 h p h1

theorem WE_get : ∀ {E' : Env}, WE m H E E' → ∀ s, Cv m H (eget E' s) (eget E s)
  | [], _, s => by simp only [eget, Cv]
  | (t, b) :: E', h, s => by
    simp only [WE] at h
    rw [eget_cons]
    by_cases e : t = s
    · subst e; rw [if_pos rfl]; exact h.1
    · rw [if_neg e]; exact WE_get h.2 s

theorem St.less (h : St N w0 E H φ a w) (hw : Weak w0.ga E H E' H') : ∃ φ', St N w0 E' H' φ' a w := by
  obtain ⟨m, h1, h2, h3, h4, h5⟩ := hw
  exact ⟨back m φ, h.sim.weak h4 h1 (nin_spec h2), fun s => Cv_rel h.sim h4 h1 (nin_spec h2) _ _ _ (WE_get h3 s) (h.env s), h.defers, h.size, CvL_rel h.sim h4 h1 (nin_spec h2) _ _ _ h5 h.gh⟩
end weak

section calls
variable {P : Program} {Γ : Tab} {N : Nat} {w0 : Base} {w : World} {E : Env} {H : Heap} {φ : Nat → Value} {a : Act} {own : List Nat}

theorem callee_spec {f : Operand} {g : FuncId} {caps : List AV} (h : callee E f = some (g, caps)) : avOf E f = .fn g caps := by
  unfold callee at h
  simp only at h
  split at h
  · rename_i e; cases h; exact e
  · cases h

theorem blt_lt {a b : Nat} (h : Nat.blt a b = true) : a < b := by simpa using h

theorem call_run {d : Option Tmp} {f : Operand} {args : Array Operand} {tys : Array TypeId} {ty : TypeId} {pos : String} {af : Array Edge} {gd : Option (Nat × Bool)} {g : FuncId} {us : List Value}
    (hf : a.eval f = .func (.func g) #[] us.toArray) :
    (execOp a.eval ⟨d, .call ⟨.value f, args, tys⟩, ty, pos, af, gd⟩).run P w = (callFunc g ((args.toList.map a.eval) ++ us).toArray).run P w := by
  simp only [execOp, resolve, hf, Deferred.ofValue, Sem.run_bind, Sem.run_pure, Result.andThen_ok, invoke]
  congr 2
  apply Array.ext'
  simp

theorem calls_does {d : Option Tmp} {f : Operand} {args : Array Operand} {tys : Array TypeId} {ty : TypeId} {pos : String} {af : Array Edge} {gd : Option (Nat × Bool)} {g : FuncId} {us : List Value} {R : Value → World → Prop}
    (hf : a.eval f = .func (.func g) #[] us.toArray) (h : CallsF P g ((args.toList.map a.eval) ++ us).toArray w R) :
    DoesV P ⟨d, .call ⟨.value f, args, tys⟩, ty, pos, af, gd⟩ a w R := by
  unfold DoesV
  unfold CallsF at h
  rw [call_run hf]
  split at h
  · rename_i e; rw [e]; exact h
  · rename_i e; rw [e]; exact h
  · exact h.elim

theorem views_args (hs : Sim w0 w φ H) : ∀ (l : List Operand), (∀ x ∈ l, Rel w (Fr φ H) (Gr w0 φ H) φ H (avOf E x) (a.eval x)) →
    ArgRels w (l.map fun x => view H 6 (avOf E x)) (l.map a.eval)
  | [], _ => rfl
  | x :: l, h => ⟨_, _, rfl, view_rel hs 6 _ _ (h x (by simp)), views_args hs l fun y hy => h y (by simp [hy])⟩

def Then (N : Nat) (w0 : Base) (K : Env → Heap → Prop) (a : Act) (w : World) : Prop := ∃ E' H' φ', K E' H' ∧ St N w0 E' H' φ' a w

theorem vop_sound (hΓ : TabOK P Γ) {o : Oper} {K : Env → Heap → Prop} (h : vop P Γ N own o E H K) (hst : St N w0 E H φ a w) :
    DoesV P o a w fun v w' => Then N w0 K (a.put o.dst v) w' := by
  have fin : ∀ (av : AV) (H' : Heap) (φ' : Nat → Value) (v : Value) (w' : World),
      (match o.dst with
      | some d => bif Nat.blt d N then K ((d, av) :: E) H' else False
      | none => K E H') → St N w0 E H' φ' a w' → Rel w' (Fr φ' H') (Gr w0 φ' H') φ' H' av v → Then N w0 K (a.put o.dst v) w' := by
    intro av H' φ' v w' hK hs hr
    cases hd : o.dst with
    | none => rw [hd] at hK; exact ⟨_, _, _, hK, hs⟩
    | some d =>
      rw [hd] at hK
      cases hb : Nat.blt d N
      · simp only [hb, cond_false] at hK
      · simp only [hb, cond_true] at hK
        exact ⟨_, _, _, hK, hs.put (blt_lt hb) hr⟩
  have other : (wop Γ own E H o fun av H' => match o.dst with
      | some d => bif Nat.blt d N then K ((d, av) :: E) H' else False
      | none => K E H') → DoesV P o a w fun v w' => Then N w0 K (a.put o.dst v) w' := fun h =>
    (wop_sound hΓ hst h).mono fun v w' ⟨av, H', φ', h1, h2, h3⟩ => fin av H' φ' v w' h1 h2 h3
  by_cases hc : ∃ f args tys, o.op = .call ⟨.value f, args, tys⟩
  · obtain ⟨f, args, tys, e⟩ := hc
    obtain ⟨d, op, ty, pos, af, gd⟩ := o
    simp only at e
    subst e
    simp only [vop] at h
    cases hcc : callee E f with
    | none => rw [hcc] at h; exact h.elim
    | some p =>
      obtain ⟨g, caps⟩ := p
      rw [hcc] at h
      have hf := hst.opd f
      rw [callee_spec hcc] at hf
      simp only [Rel] at hf
      obtain ⟨us, h1, h2⟩ := hf
      rcases h with ⟨r, Hr, hcon, hn, hK⟩ | ⟨m, Ha, r, Hr, m', r', Hr', ⟨k1, k2, ko, k3⟩, hcon, ⟨g1, g2, g3, g4⟩, gs, gp, gn, hK⟩
      case inr =>
        refine calls_does h1 ((hcon _ w _ _ (handed_sim hst.sim k1 k2 k3) ?_).mono ?_)
        · have hargs : ∀ l : List Operand, RelL w (Fr (back m φ) Ha) (Gr (handed w0 w φ H (back m φ) Ha) (back m φ) Ha) (back m φ) Ha (l.map fun x => wview m H 6 (avOf E x)) (l.map a.eval) := by
            intro l
            induction l with
            | nil => rfl
            | cons x l ih => exact ⟨_, _, rfl, wview_rel hst.sim k3.wh k1 k2 6 _ _ (hst.opd x), ih⟩
          have hcaps : ∀ (cs : List AV) (us : List Value), RelL w (Fr φ H) (Gr w0 φ H) φ H cs us →
              RelL w (Fr (back m φ) Ha) (Gr (handed w0 w φ H (back m φ) Ha) (back m φ) Ha) (back m φ) Ha (cs.map (wview m H 6)) us := by
            intro cs
            induction cs with
            | nil => intro us h; exact h
            | cons c cs ih =>
              intro us h
              simp only [RelL] at h
              obtain ⟨v, vs, rfl, q1, q2⟩ := h
              exact ⟨v, vs, rfl, wview_rel hst.sim k3.wh k1 k2 6 _ _ q1, ih vs q2⟩
          exact RelL.append (hargs _) (hcaps _ _ h2)
        · rintro v w' ⟨φr, hr, hv, hkp⟩
          obtain ⟨q1, q2⟩ := hst.back_handed k1 k2 ko k3 hr hkp g1 g2 g3 g4 gs gp gn hv
          exact fin r' (Hr' ++ H) _ v w' hK q1 q2
      refine calls_does h1 ((hcon w _ hst.sim.keepAll ?_).mono ?_)
      · exact RelL.append (views_args hst.sim _ fun x _ => hst.opd x) (views_rel hst.sim 6 _ _ h2)
      · rintro v w' ⟨φr, hr, hv⟩
        obtain ⟨k1, k2⟩ := hst.take hn hr
        exact fin r (Hr ++ H) _ v w' hK k1 (k2 _ _ hv)
  · refine other ?_
    unfold vop at h
    simp only at h
    split at h
    · rename_i f args tys e; exact absurd ⟨f, args, tys, e⟩ hc
    · exact h

theorem wanted_of {ops : List Oper} {o : Oper} {j s : Nat} {want t : Bool} (hg : o.guard = some (j, want)) (hs : gslot ops j = some s) (hv : a.tmps.getD s undef = .bool t) :
    Region.wanted o (yielded ops.toArray a.tmps) = (t == want) := by
  unfold gslot at hs
  have h1 : ((ops.toArray)[j]?).bind (·.dst) = some s := by simpa using hs
  have h2 : a.tmps[s]? = some (.bool t) := by
    simp only [Array.getD_eq_getD_getElem?] at hv
    cases hx : a.tmps[s]? with
    | none => rw [hx] at hv; cases hv
    | some v => rw [hx] at hv; simp at hv; rw [hv]
  simp only [Region.wanted, hg, yielded, h1, Option.bind_some, h2]
  rfl

theorem unwanted_of {ops : List Oper} {o : Oper} {j s : Nat} {want : Bool} {cs : Array Value} (hg : o.guard = some (j, want)) (hs : gslot ops j = some s) (hv : a.tmps.getD s undef = .tuple cs) :
    Region.wanted o (yielded ops.toArray a.tmps) = false := by
  unfold gslot at hs
  have h1 : ((ops.toArray)[j]?).bind (·.dst) = some s := by simpa using hs
  simp only [Region.wanted, hg, yielded, h1, Option.bind_some]
  simp only [Array.getD_eq_getD_getElem?] at hv
  cases hx : a.tmps[s]? with
  | none => rfl
  | some v => rw [hx] at hv; simp at hv; rw [hv]; rfl

theorem St.refine {s : Nat} {b : Bool} (hst : St N w0 E H φ a w) (hv : a.tmps.getD s undef = .bool b) : St N w0 ((s, bif b then .tt else .ff) :: E) H φ a w where
  sim := hst.sim
  env := fun t => by
    rw [eget_cons]
    by_cases e : s = t
    · subst e; rw [if_pos rfl, hv]; cases b <;> simp only [cond_true, cond_false, Rel]
    · rw [if_neg e]; exact hst.env t
  defers := hst.defers
  size := hst.size
  gh := hst.gh

theorem vops_sound (hΓ : TabOK P Γ) {all : List Oper} {Q : Exit → Act → World → Prop} {K : Env → Heap → Prop} (hQ : ∀ a w, Then N w0 K a w → Q .normal a w) :
    ∀ (l : List Oper) (E : Env) (H : Heap) (φ : Nat → Value) (a : Act) (w : World), vops P Γ N own all l E H K → St N w0 E H φ a w → wpList P all.toArray Q l a w
  | [], E, H, φ, a, w, h, hst => hQ _ _ ⟨E, H, φ, h, hst⟩
  | o :: rest, E, H, φ, a, w, h, hst => by
    have ih := vops_sound hΓ (all := all) (Q := Q) hQ rest
    have run : ∀ {E1 : Env}, St N w0 E1 H φ a w → Region.wanted o (yielded all.toArray a.tmps) = true → vop P Γ N own o E1 H (fun E' H' => vops P Γ N own all rest E' H' K) →
        wpList P all.toArray Q (o :: rest) a w := by
      intro E1 hs hw hv
      unfold wpList
      rw [if_pos hw]
      exact .inl ((vop_sound hΓ hv hs).wp fun v w' ⟨E', H', φ', h1, h2⟩ => ih E' H' φ' _ _ h1 h2)
    have skip : ∀ {E1 : Env}, St N w0 E1 H φ a w → Region.wanted o (yielded all.toArray a.tmps) = false → vskip N o E1 (fun E' => vops P Γ N own all rest E' H K) →
        wpList P all.toArray Q (o :: rest) a w := by
      intro E1 hs hw hv
      unfold wpList
      rw [if_neg (by rw [hw]; exact Bool.false_ne_true)]
      unfold vskip at hv
      cases hd : o.dst with
      | none => rw [hd] at hv; exact ih _ _ _ _ _ hv hs
      | some d =>
        rw [hd] at hv
        cases hb : Nat.blt d N
        · simp only [hb, cond_false] at hv
        · simp only [hb, cond_true] at hv
          exact ih _ _ _ _ _ hv (hs.put (blt_lt hb) (by simp only [Rel]))
    unfold vops at h
    split at h
    · rename_i hg
      exact run hst (by simp only [Region.wanted, hg]) h
    · rename_i j want hg
      split at h
      · exact h.elim
      · rename_i s hs
        have key : ∀ (t : Bool) (E1 : Env), St N w0 E1 H φ a w → a.tmps.getD s undef = .bool t →
            ((t = want ∧ vop P Γ N own o E1 H fun E' H' => vops P Γ N own all rest E' H' K) ∨ (t ≠ want ∧ vskip N o E1 fun E' => vops P Γ N own all rest E' H K)) →
            wpList P all.toArray Q (o :: rest) a w := by
          intro t E1 h1 hv h2
          have hw := wanted_of hg hs hv
          rcases h2 with ⟨rfl, h2⟩ | ⟨h3, h2⟩
          · exact run h1 (by rw [hw]; simp) h2
          · exact skip h1 (by rw [hw]; simpa using h3) h2
        have he := hst.env s
        simp only at h
        split at h
        · rename_i e; rw [e] at he
          exact key true _ hst (by simpa only [Rel] using he) (by cases want <;> first | exact .inl ⟨rfl, h⟩ | exact .inr ⟨by simp, h⟩)
        · rename_i e; rw [e] at he
          exact key false _ hst (by simpa only [Rel] using he) (by cases want <;> first | exact .inl ⟨rfl, h⟩ | exact .inr ⟨by simp, h⟩)
        · rename_i b e
          rw [e] at he
          simp only [Rel] at he
          cases b
          · have h := h.2 rfl
            exact key false _ (hst.refine he) he (by cases want <;> first | exact .inl ⟨rfl, h⟩ | exact .inr ⟨by simp, h⟩)
          · have h := h.1 rfl
            exact key true _ (hst.refine he) he (by cases want <;> first | exact .inl ⟨rfl, h⟩ | exact .inr ⟨by simp, h⟩)
        · rename_i cs e
          rw [e] at he
          simp only [Rel] at he
          exact skip hst (unwanted_of hg hs he) h
        · exact h.elim

theorem trim_spec : ∀ (ss : List Nat) (E acc : Env) (K : Env → Prop), trim ss E acc K → (∀ s, eget acc s = eget E s ∨ eget acc s = .junk) → ∃ E', K E' ∧ ∀ s, eget E' s = eget E s ∨ eget E' s = .junk
  | [], E, acc, K, h, ha => ⟨acc, h, ha⟩
  | s :: ss, E, acc, K, h, ha => by
    unfold trim at h
    rw [force_eq] at h
    have cons : trim ss E ((s, eget E s) :: acc) K → ∃ E', K E' ∧ ∀ s, eget E' s = eget E s ∨ eget E' s = .junk := fun h =>
      trim_spec ss E _ K h fun t => by
        rw [eget_cons]
        by_cases e : s = t
        · subst e; simp
        · simp only [e, if_false]; exact ha t
    split at h
    · exact trim_spec ss E acc K h ha
    · exact cons h
theorem hclean_spec : ∀ (H : Heap) (seen : List Nat) (K : Heap → Prop), hclean seen H K → ∃ H', K H' ∧ ∀ i, hget H' i = if smem seen i then none else hget H i
  | [], seen, K, h => ⟨[], h, fun i => by simp [hget]⟩
  | (s, C) :: H, seen, K, h => by
    unfold hclean at h
    cases hs : smem seen s
    · rw [hs, cond_false] at h
      obtain ⟨H', h1, h2⟩ := hclean_spec H (s :: seen) _ h
      refine ⟨_, h1, fun i => ?_⟩
      rw [hget_cons, hget_cons, h2]
      simp only [smem, beq_eq, Bool.cond_decide]
      by_cases e : s = i
      · subst e; simp [hs]
      · simp [e]
    · rw [hs, cond_true] at h
      obtain ⟨H', h1, h2⟩ := hclean_spec H seen K h
      refine ⟨H', h1, fun i => ?_⟩
      rw [h2, hget_cons]
      by_cases e : s = i
      · subst e; simp [hs]
      · simp [e]

theorem St.same {H' : Heap} (hst : St N w0 E H φ a w) (h : ∀ i, hget H' i = hget H i) : St N w0 E H' φ a w := by
  have lv : ∀ i, hlive H' i ↔ hlive H i := fun i => by unfold hlive; rw [h]
  have fr : ∀ b, Fr φ H b → Fr φ H' b := fun b hb i hi => hb i ((lv i).1 hi)
  have kF : Keeps w w (Fr φ H) (Fr φ H') := fun b hb _ => ⟨rfl, fr b hb⟩
  have kG : Keeps w w (Gr w0 φ H) (Gr w0 φ H') := fun b hb _ => ⟨rfl, hb.1, fr b hb.2⟩
  have hk : HKeeps φ φ H H' := ⟨fun id hi => by rw [h]; exact hi, fun id e t l _ hl => ⟨l, by rw [← h]; exact hl, rfl, rfl⟩, fun id cs _ hl => ⟨cs, by rw [← h]; exact hl, rfl⟩⟩
  exact ⟨⟨hst.sim.below, fun i C hi => (hst.sim.good i C (by rw [← h]; exact hi)).keep (Nat.le_refl _) kF kG hk (fun _ => rfl) (fun _ _ _ => rfl), fun i b hi => hst.sim.fresh i b ((lv i).1 hi),
    fun i j b hi hj => hst.sim.inj i j b ((lv i).1 hi) ((lv j).1 hj), hst.sim.keep⟩, fun s => Rel.keep (Nat.le_refl _) kF kG hk _ _ (hst.env s), hst.defers, hst.size, RelL.keep (Nat.le_refl _) kF kG hk _ _ hst.gh⟩
end calls
end Go.V

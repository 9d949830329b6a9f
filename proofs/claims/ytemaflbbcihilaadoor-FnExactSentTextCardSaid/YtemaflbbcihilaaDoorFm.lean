/- The fragment logic's steps: one operation, a list of operations, and a region whose order is drawn: what holds in the checked order holds in every order. No conditions. -/
import Derived.Test.YtemaflbbcihilaaDoorFl
namespace Go.Proofs.YtemaflbbcihilaaDoor.Fl
open Go Go.RowKit
set_option linter.unusedSimpArgs false
set_option linter.unusedVariables false

/-- One operation, without what only the drawing of orders asks. -/
structure FOp where
  dst : Option Nat
  op : Op
  ty : TypeId
  gd : Option (Option Nat × Bool)
  q : Bool
  pu : Bool
  ext : Bool
  nw : List (Op × TypeId)

abbrev Tm := Nat → Value

def evt (t : Tm) : Operand → Value
  | .tmp i => t i
  | .const v => v
  | .global g => .pointer (some ⟨g, 0, Option.none⟩)
  | .func f => .func (.func f) #[] #[]

def upd (t : Tm) (d : Option Nat) (v : Value) : Tm := match d with
  | some d => fun i => if i = d then v else t i
  | Option.none => t

def wantT (gd : Option (Option Nat × Bool)) (t : Tm) : Bool := match gd with
  | Option.none => true
  | some (some d, b) => match t d with
    | .bool c => c == b
    | _ => false
  | some (Option.none, _) => false

def execF (ρ : Operand → Value) (op : Op) (ty : TypeId) : Sem Next := execOp ρ { dst := Option.none, op, type := ty, pos := "", after := #[], guard := Option.none }

theorem execF_eq (ρ : Operand → Value) (o : Oper) : execOp ρ o = execF ρ o.op o.type := by
  cases o; rfl

/-- The contract of a call, over the fragment. -/
def ACall (P : Program) (w0 : World) (f : FuncId) (args : Array Value) (m : Frag) (R : Value → Frag → Prop) : Prop :=
  ∀ w, Fits w0 m w → Calls P f args w fun e w' => ∃ v m', e = .returned v ∧ R v m' ∧ Fits w0 m' w' ∧ Keeps m w m' w'

theorem ACall.mono {P : Program} {w0 : World} {f : FuncId} {args : Array Value} {m : Frag} {R R' : Value → Frag → Prop} (h : ACall P w0 f args m R)
    (hr : ∀ v m', R v m' → R' v m') : ACall P w0 f args m R' :=
  fun w hw => (h w hw).mono fun _ _ ⟨v, m', he, hR, hf, hk⟩ => ⟨v, m', he, hr _ _ hR, hf, hk⟩

/-- What a quiet operation leaves. -/
def qv (P : Program) (w0 : World) (m : Frag) (t : Tm) (op : Op) (ty : TypeId) : Option Value := match SQ P w0 m (execF (evt t) op ty) with
  | some (.value v) => some v
  | _ => Option.none

theorem qv_sq {P : Program} {w0 : World} {m : Frag} {t : Tm} {op : Op} {ty : TypeId} {v : Value} (h : qv P w0 m t op ty = some v) : SQ P w0 m (execF (evt t) op ty) = some (.value v) := by
  unfold qv at h
  split at h
  · rename_i u hu; cases h; exact hu
  · cases h

theorem qv_ext {P : Program} {w0 : World} {m m' : Frag} (hx : Ext m m') {t : Tm} {op : Op} {ty : TypeId} {v : Value} (h : qv P w0 m t op ty = some v) : qv P w0 m' t op ty = some v := by
  have := SQ_ext hx _ (qv_sq h)
  unfold qv; rw [this]

/-- Does it lay a new variable, or a new row? -/
def newK : Op → Bool
  | .alloc _ | .box .. | .buildSlice .. => true
  | _ => false

/-- What an operation that acts comes to. -/
def act (P : Program) (w0 : World) (m : Frag) (t : Tm) (op : Op) (ty : TypeId) (R : Value → Frag → Prop) : Prop :=
  SX P w0 (execF (evt t) op ty) m fun nx m' => match nx with
    | .value v => ∃ m'', Ext m'' m' ∧ (newK op = true → m'' = m') ∧ R v m''
    | .skip => ∃ m'', Ext m'' m' ∧ R undef m''
    | .enter g args => ACall P w0 g args m' R
    | _ => False

theorem act_mono {P : Program} {w0 : World} {m : Frag} {t : Tm} {op : Op} {ty : TypeId} {R R' : Value → Frag → Prop} (h : act P w0 m t op ty R) (hr : ∀ v m', R v m' → R' v m') : act P w0 m t op ty R' := by
  refine SX_mono _ h fun nx m' hn => ?_
  cases nx <;> first | (obtain ⟨m'', hx, hw, hn⟩ := hn; exact ⟨m'', hx, hw, hr _ _ hn⟩) | (obtain ⟨m'', hx, hn⟩ := hn; exact ⟨m'', hx, hr _ _ hn⟩) | exact hn.mono hr | exact hn.elim

theorem ACall.frame {P : Program} {w0 : World} {n : Nat} {b : Blk} {f : FuncId} {args : Array Value} {m : Frag} {R : Value → Frag → Prop} (hn : m n = Option.none) (h : ACall P w0 f args m R) :
    ACall P w0 f args (m.set n b) (Framed n b R) := by
  intro w hw
  refine (h w (hw.ext (Ext.set b hn))).mono fun e w' ⟨v, m', he, hR, hf, hk⟩ => ?_
  have hlt := hw.lt (Frag.set_same m n b)
  obtain ⟨h1, h2⟩ := hk.2 n hlt hn
  obtain ⟨hB, hb⟩ := hw.blk _ _ (Frag.set_same m n b)
  refine ⟨v, m'.set n b, he, ⟨m', rfl, h2, hR⟩, ⟨hf.below, fun k c hc => ?_⟩, hk.1, fun k hk' hm => ?_⟩
  · by_cases e : k = n
    · subst e; rw [Frag.set_same] at hc; cases hc; exact ⟨hB, by rw [h1]; exact hb⟩
    · rw [Frag.set_ne _ _ e] at hc; exact hf.blk _ _ hc
  · by_cases e : k = n
    · subst e; rw [Frag.set_same] at hm; cases hm
    · rw [Frag.set_ne _ _ e] at hm ⊢; exact hk.2 k hk' hm

theorem act_frame {P : Program} {w0 : World} {n : Nat} {b : Blk} (hB : w0.heap.size ≤ n) {m : Frag} {t : Tm} {op : Op} {ty : TypeId} {R : Value → Frag → Prop} (hn : m n = Option.none) (h : act P w0 m t op ty R) :
    act P w0 (m.set n b) t op ty (Framed n b R) := by
  refine SX_mono _ (SX_frame hB _ h hn) fun nx M ⟨m', hM, hn', h'⟩ => ?_
  subst hM
  have sub : ∀ {m'' : Frag}, Ext m'' m' → m'' n = Option.none := fun {m''} hx => by
    cases hc : m'' n with
    | none => rfl
    | some x => have := hx _ _ hc; rw [hn'] at this; cases this
  cases nx <;> first
    | (obtain ⟨m'', hx, hw, h'⟩ := h'; exact ⟨m''.set n b, Frag.set_ext hx n b, fun he => by rw [hw he], m'', rfl, sub hx, h'⟩)
    | (obtain ⟨m'', hx, h'⟩ := h'; exact ⟨m''.set n b, Frag.set_ext hx n b, m'', rfl, sub hx, h'⟩)
    | exact h'.frame hn'
    | exact h'.elim

/-- An operation that comes to one new block, whatever it lays there. -/
def NewPos (P : Program) (w0 : World) (t : Tm) (op : Op) (ty : TypeId) : Prop := ∃ (c : List Value) (e : TypeId) (g : Nat → Value), ∀ m R, SX P w0 (execF (evt t) op ty) m R ↔
  ∀ n, w0.heap.size ≤ n → m n = Option.none → R (.value (g n)) (m.set n (.cells c c.length e))

def Mono (S : Frag → Prop) : Prop := ∀ a b, Ext a b → S a → S b

abbrev Cont := (Frag → Prop) → Tm → Frag → Prop

/-- One operation; S: what was read in this region. -/
def step0 (P : Program) (w0 : World) (f : FOp) (S : Frag → Prop) (t : Tm) (m : Frag) (K : Cont) : Prop :=
  if wantT f.gd t then
    if f.q then ∃ v, qv P w0 (if f.pu then Frag.none else m) t f.op f.ty = some v ∧ K (if f.pu then S else fun m' => S m' ∧ SR P w0 m (execF (evt t) f.op f.ty) m') (upd t f.dst v) m
    else act P w0 m t f.op f.ty fun v m' => (f.ext = true → S m') ∧ K S (upd t f.dst v) m'
  else K S (upd t f.dst undef) m

def stepF (P : Program) (w0 : World) (f : FOp) (S : Frag → Prop) (t : Tm) (m : Frag) (K : Cont) : Prop := (∀ p ∈ f.nw, NewPos P w0 t p.1 p.2) ∧ step0 P w0 f S t m K

section
variable {P : Program} {w0 : World} {f : FOp} {S : Frag → Prop} {t : Tm} {m : Frag} {K : Cont}
theorem step0_q (hw : wantT f.gd t = true) (hq : f.q = true) :
    step0 P w0 f S t m K = ∃ v, qv P w0 (if f.pu then Frag.none else m) t f.op f.ty = some v ∧ K (if f.pu then S else fun m' => S m' ∧ SR P w0 m (execF (evt t) f.op f.ty) m') (upd t f.dst v) m := by unfold step0; rw [if_pos hw, if_pos hq]
theorem step0_a (hw : wantT f.gd t = true) (hq : ¬ f.q = true) :
    step0 P w0 f S t m K = act P w0 m t f.op f.ty fun v m' => (f.ext = true → S m') ∧ K S (upd t f.dst v) m' := by unfold step0; rw [if_pos hw, if_neg hq]
theorem step0_s (hw : ¬ wantT f.gd t = true) :
    step0 P w0 f S t m K = K S (upd t f.dst undef) m := by unfold step0; rw [if_neg hw]
theorem step0_mono {K' : Cont} (h : step0 P w0 f S t m K) (hk : ∀ S t m, K S t m → K' S t m) : step0 P w0 f S t m K' := by
  by_cases hw : wantT f.gd t = true
  · by_cases hq : f.q = true
    · rw [step0_q hw hq] at h ⊢; obtain ⟨v, hv, h⟩ := h; exact ⟨v, hv, hk _ _ _ h⟩
    · rw [step0_a hw hq] at h ⊢; exact act_mono h fun v m' ⟨h1, h2⟩ => ⟨h1, hk _ _ _ h2⟩
  · rw [step0_s hw] at h ⊢; exact hk _ _ _ h
theorem stepF_mono' {K' : Cont} (hS : Mono S) (h : stepF P w0 f S t m K) (hk : ∀ S t m, Mono S → K S t m → K' S t m) : stepF P w0 f S t m K' := by
  refine ⟨h.1, ?_⟩
  have h := h.2
  by_cases hw : wantT f.gd t = true
  · by_cases hq : f.q = true
    · rw [step0_q hw hq] at h ⊢; obtain ⟨v, hv, h⟩ := h
      refine ⟨v, hv, hk _ _ _ ?_ h⟩
      split
      · exact hS
      · exact fun a b hx ⟨h1, h2⟩ => ⟨hS a b hx h1, SR_mono hx _ h2⟩
    · rw [step0_a hw hq] at h ⊢; exact act_mono h fun v m' ⟨h1, h2⟩ => ⟨h1, hk _ _ _ hS h2⟩
  · rw [step0_s hw] at h ⊢; exact hk _ _ _ hS h
theorem stepF_mono {K' : Cont} (h : stepF P w0 f S t m K) (hk : ∀ S t m, K S t m → K' S t m) : stepF P w0 f S t m K' := ⟨h.1, step0_mono h.2 hk⟩
end

def stepsF (P : Program) (w0 : World) : List FOp → (Frag → Prop) → Tm → Frag → (Tm → Frag → Prop) → Prop
  | [], _, t, m, K => K t m
  | f :: l, S, t, m, K => stepF P w0 f S t m fun S' t' m' => stepsF P w0 l S' t' m' K

theorem stepsF_mono {P : Program} {w0 : World} {l : List FOp} : ∀ {S : Frag → Prop} {t : Tm} {m : Frag} {K K' : Tm → Frag → Prop}, stepsF P w0 l S t m K → (∀ t m, K t m → K' t m) → stepsF P w0 l S t m K' := by
  induction l with
  | nil => intro S t m K K' h hk; exact hk _ _ h
  | cons f l ih => intro S t m K K' h hk; exact stepF_mono h fun S' t' m' h' => ih h' hk

/-- The less was read, the less is asked. -/
def Anti (K : Cont) : Prop := ∀ A B t m, (∀ z, A z → B z) → K A t m → K B t m

theorem step0_anti {P : Program} {w0 : World} {f : FOp} {K : Cont} (hK : Anti K) : Anti fun S t m => step0 P w0 f S t m K := by
  intro A B t m hab h
  by_cases hw : wantT f.gd t = true
  · by_cases hq : f.q = true
    · rw [step0_q hw hq] at h ⊢
      obtain ⟨v, hv, h⟩ := h
      refine ⟨v, hv, hK _ _ _ _ (fun z hz => ?_) h⟩
      by_cases hp : f.pu = true
      · rw [if_pos hp] at hz ⊢; exact hab z hz
      · rw [if_neg hp] at hz ⊢; exact ⟨hab z hz.1, hz.2⟩
    · rw [step0_a hw hq] at h ⊢; exact act_mono h fun v m' ⟨h1, h2⟩ => ⟨fun he => hab _ (h1 he), hK _ _ _ _ hab h2⟩
  · rw [step0_s hw] at h ⊢; exact hK _ _ _ _ hab h

theorem stepF_anti {P : Program} {w0 : World} {f : FOp} {K : Cont} (hK : Anti K) : Anti fun S t m => stepF P w0 f S t m K :=
  fun A B t m hab h => ⟨h.1, step0_anti hK A B t m hab h.2⟩

theorem stepsF_anti {P : Program} {w0 : World} {K : Tm → Frag → Prop} : ∀ (l : List FOp), Anti fun S t m => stepsF P w0 l S t m K
  | [] => fun _ _ _ _ _ h => h
  | _ :: l => stepF_anti (stepsF_anti l)

/-! ### The machine's frame -/

def AT (N : Nat) (t : Tm) : Act := { tmps := Array.ofFn (n := N) fun i => t i.val, defers := [] }

theorem AT_get (N : Nat) (t : Tm) (i : Nat) (h : i < N) : (AT N t).tmps[i]? = some (t i) := by
  simp [AT, h]

theorem AT_eval {N : Nat} {t : Tm} {x : Operand} (h : ∀ i, x = .tmp i → i < N) : (AT N t).eval x = evt t x := by
  cases x with
  | tmp i =>
    have := AT_get N t i (h i rfl)
    simp [Act.eval, evt, Array.getD_eq_getD_getElem?, this]
  | _ => rfl

theorem AT_put (N : Nat) (t : Tm) (d : Option Nat) (v : Value) : (AT N t).put d v = AT N (upd t d v) := by
  cases d with
  | none => rfl
  | some d =>
    simp only [Act.put, AT, upd]
    congr 1
    apply Array.ext_getElem?
    intro i
    rw [Array.getElem?_setIfInBounds, Array.getElem?_ofFn, Array.getElem?_ofFn]
    by_cases e : d = i
    · subst e
      by_cases hd : d < N <;> simp [hd]
    · by_cases hi : i < N <;> simp [hi, e, Ne.symm e]

def gdOf (ops : Array Oper) (o : Oper) : Option (Option Nat × Bool) := o.guard.map fun g => ((ops[g.1]?).bind (·.dst), g.2)

def notSelect : Op → Bool
  | .select .. => false
  | _ => true

def okOper (N : Nat) (ops : Array Oper) (o : Oper) : Bool :=
  (o.op.operands.toList.all fun
    | .tmp i => decide (i < N)
    | _ => true) && notSelect o.op && match gdOf ops o with
    | some (some d, _) => decide (d < N)
    | _ => true

def quietK (P : Program) : Op → Bool
  | .move _ | .assign _ | .pick .. | .load .. | .nilCheck _ | .binOp .. | .unOp .. | .fieldAddr .. | .field .. | .indexAddr .. | .index .. | .extract .. | .makeFunc .. | .slice .. | .build .. | .lookup .. => true
  | .convert _ d _ => match P.underlying d with
    | some (.slice _) => false
    | _ => true
  | .call { callee := .builtin .len, .. } | .call { callee := .builtin .cap, .. } | .call { callee := .builtin .min, .. } | .call { callee := .builtin .max, .. } => true
  | _ => false

def pureK : Op → Bool
  | .move _ | .assign _ | .pick .. | .nilCheck _ | .binOp .. | .unOp .. | .fieldAddr .. | .field .. | .indexAddr .. | .index .. | .extract .. | .makeFunc .. | .slice .. | .build .. => true
  | _ => false

def fop (P : Program) (ops : Array Oper) (ext : Bool) (nw : List (Op × TypeId)) (o : Oper) : FOp := { dst := o.dst, op := o.op, ty := o.type, gd := gdOf ops o, q := quietK P o.op, pu := pureK o.op, ext, nw }

theorem wanted_eq {N : Nat} {ops : Array Oper} {o : Oper} (t : Tm) (h : okOper N ops o = true) : Region.wanted o (yielded ops (AT N t).tmps) = wantT (gdOf ops o) t := by
  unfold Region.wanted wantT gdOf
  simp only [okOper, Bool.and_eq_true] at h
  obtain ⟨_, h⟩ := h
  cases hg : o.guard with
  | none => simp
  | some g =>
    obtain ⟨j, b⟩ := g
    simp only [gdOf, hg, Option.map_some] at h ⊢
    unfold yielded
    cases hd : (ops[j]?).bind (·.dst) with
    | none => simp
    | some d =>
      rw [hd] at h
      simp only [decide_eq_true_eq] at h
      simp only [Option.bind_some, AT_get N t d h]
      cases t d <;> first | rfl | simp

theorem exec_eq {N : Nat} {ops : Array Oper} {o : Oper} (t : Tm) (h : okOper N ops o = true) : execOp (AT N t).eval o = execF (evt t) o.op o.type := by
  simp only [okOper, Bool.and_eq_true] at h
  obtain ⟨⟨h, hs⟩, _⟩ := h
  rw [← execF_eq]
  refine execOp_congr o (fun cs b e => by rw [e] at hs; cases hs) fun x hx => AT_eval fun i e => ?_
  subst e
  have := List.all_eq_true.1 h (.tmp i) (by simpa using hx)
  simpa using this

/-- One operation, on the machine. -/
theorem step0_sound {P : Program} {w0 : World} {N : Nat} {ops : Array Oper} {i : Nat} {o : Oper} {ext : Bool} {nw : List (Op × TypeId)} (ho : ops[i]? = some o) (hok : okOper N ops o = true)
    {S : Frag → Prop} {t : Tm} {m : Frag} {K : Cont} (h : step0 P w0 (fop P ops ext nw o) S t m K) {w : World} (hf : Fits w0 m w) {KK : Act → World → Prop} {Q : Exit → Act → World → Prop}
    (hK : ∀ S' t' m' w', K S' t' m' → (Mono S → Mono S') → Fits w0 m' w' → Keeps m w m' w' → KK (AT N t') w') : wpOp P ops Q i KK (AT N t) w := by
  unfold wpOp
  simp only [ho]
  rw [wanted_eq t hok]
  by_cases hw : wantT (gdOf ops o) t = true
  · rw [if_pos hw]
    refine .inl ?_
    unfold Oper.wp
    rw [exec_eq t hok]
    by_cases hq : quietK P o.op = true
    · rw [step0_q (f := fop P ops ext nw o) hw hq] at h
      obtain ⟨v, hv, h⟩ := h
      have hv' : qv P w0 m t o.op o.type = some v := by
        by_cases hp : pureK o.op = true
        · rw [if_pos (show (fop P ops ext nw o).pu = true from hp)] at hv; exact qv_ext (Ext.none m) hv
        · rw [if_neg (show ¬ (fop P ops ext nw o).pu = true from hp)] at hv; exact hv
      rw [SQ_sound _ (qv_sq hv') hf]
      simp only [Oper.upon]
      rw [AT_put]
      refine hK _ _ _ _ h (fun hS => ?_) hf (Keeps.refl _ _)
      by_cases hp : (fop P ops ext nw o).pu = true
      · rw [if_pos hp]; exact hS
      · rw [if_neg hp]; exact fun a b hx ⟨h1, h2⟩ => ⟨hS a b hx h1, SR_mono hx _ h2⟩
    · rw [step0_a (f := fop P ops ext nw o) hw hq] at h
      obtain ⟨nx, w', m', hrun, hn, hf', hk⟩ := SX_sound _ h hf
      have hrun' : Sem.run P (execF (evt t) o.op o.type) w = .ok nx w' := hrun
      rw [hrun']
      cases nx <;> simp only [Oper.upon] at hn ⊢
      case value v => obtain ⟨m'', hx, _, hn⟩ := hn; rw [AT_put]; exact hK _ _ _ _ hn.2 id (hf'.ext hx) (hk.weak hx)
      case skip => obtain ⟨m'', hx, hn⟩ := hn; rw [AT_put]; exact hK _ _ _ _ hn.2 id (hf'.ext hx) (hk.weak hx)
      case enter g args =>
        refine (hn w' hf').mono fun e w'' ⟨v, m'', he, hR, hf'', hk'⟩ => ?_
        subst he
        show KK ((AT N t).put o.dst v) w''
        rw [AT_put]; exact hK _ _ _ _ hR.2 id hf'' (hk.trans hk')
  · rw [if_neg hw, AT_put]
    rw [step0_s (f := fop P ops ext nw o) hw] at h
    exact hK _ _ _ _ h id hf (Keeps.refl _ _)

/-! ### Two operations that don't touch each other -/

def looks (f : FOp) : List Nat := (f.op.operands.toList.filterMap fun
  | .tmp t => some t
  | _ => Option.none) ++ match f.gd with
    | some (some d, _) => [d]
    | _ => []

def apartF (x y : FOp) : Bool :=
  (match x.dst with
   | some d => !(looks y).contains d && y.dst != some d
   | Option.none => true) &&
  (match y.dst with
   | some d => !(looks x).contains d
   | Option.none => true)

theorem evt_upd {t : Tm} {d : Option Nat} {v : Value} {x : Operand} (h : ∀ i, d = some i → x ≠ .tmp i) : evt (upd t d v) x = evt t x := by
  cases d with
  | none => rfl
  | some d =>
    cases x with
    | tmp i =>
      have : i ≠ d := fun e => h d rfl (by rw [e])
      simp [evt, upd, this]
    | _ => rfl

theorem execF_upd {t : Tm} {d : Option Nat} {v : Value} {f : FOp} (hs : notSelect f.op = true) (h : ∀ i, d = some i → i ∉ looks f) : execF (evt (upd t d v)) f.op f.ty = execF (evt t) f.op f.ty := by
  unfold execF
  refine execOp_congr _ (fun cs b e => by simp only at e; rw [e] at hs; cases hs) fun x hx => evt_upd fun i e he => ?_
  subst he
  refine h i e (List.mem_append_left _ ?_)
  rw [List.mem_filterMap]
  exact ⟨_, by simpa using hx, rfl⟩

theorem wantT_upd {t : Tm} {d : Option Nat} {v : Value} {f : FOp} (h : ∀ i, d = some i → i ∉ looks f) : wantT f.gd (upd t d v) = wantT f.gd t := by
  cases d with
  | none => rfl
  | some d =>
    unfold wantT
    split
    · rfl
    · rename_i e b hg
      have : e ≠ d := fun he => h d rfl (List.mem_append_right _ (by rw [hg, he]; simp))
      simp [upd, this]
    · rfl

theorem upd_comm {t : Tm} {d e : Option Nat} {u v : Value} (h : ∀ i, d = some i → e ≠ some i) : upd (upd t d u) e v = upd (upd t e v) d u := by
  cases d with
  | none => rfl
  | some d =>
    cases e with
    | none => rfl
    | some e =>
      funext i
      have : e ≠ d := fun x => h d rfl (by rw [x])
      simp only [upd]
      by_cases h1 : i = e
      · subst h1; simp [this]
      · simp [h1]

theorem apartF_spec {x y : FOp} (h : apartF x y = true) : (∀ i, x.dst = some i → i ∉ looks y) ∧ (∀ i, x.dst = some i → y.dst ≠ some i) ∧ (∀ i, y.dst = some i → i ∉ looks x) := by
  refine ⟨fun d hd => ?_, fun d hd => ?_, fun d hd => ?_⟩ <;> simp [apartF, hd] at h
  · exact h.1.1
  · exact h.1.2
  · exact h.2

/-- Does an operation stay as it is, whatever lies in a slot? -/
def opFree (d : Option Nat) (op : Op) : Bool := notSelect op && match d with
  | some d => op.operands.toList.all fun
    | .tmp i => i != d
    | _ => true
  | Option.none => true

theorem execF_free {t : Tm} {d : Option Nat} {v : Value} {op : Op} {ty : TypeId} (h : opFree d op = true) : execF (evt (upd t d v)) op ty = execF (evt t) op ty := by
  simp only [opFree, Bool.and_eq_true] at h
  obtain ⟨hs, h⟩ := h
  unfold execF
  refine execOp_congr _ (fun cs b e => by simp only at e; rw [e] at hs; cases hs) fun x hx => evt_upd fun i e he => ?_
  subst he e
  have := List.all_eq_true.1 h (.tmp i) (by simpa using hx)
  simp at this

theorem NewPos_free {P : Program} {w0 : World} {t : Tm} {d : Option Nat} {v : Value} {op : Op} {ty : TypeId} (h : opFree d op = true) : NewPos P w0 (upd t d v) op ty ↔ NewPos P w0 t op ty := by
  unfold NewPos; rw [execF_free h]

theorem SR_turn {α : Type} {P : Program} {w0 : World} {m m' z : Frag} (s : Sem α) : SR P w0 m s m' → SR P w0 m' s m → SR P w0 m s z → SR P w0 m' s z := by
  induction s with
  | load md ad k ih =>
    intro h1 h2 h3
    simp only [SR] at h1 h2 h3 ⊢
    cases hr : rd w0 m ad with
    | none =>
      rw [hr] at h1 h2 h3
      cases hr' : rd w0 m' ad with
      | none => trivial
      | some v => rw [hr'] at h2; simp only at h2; cases h2.1
    | some v =>
      rw [hr] at h1 h3
      simp only at h1 h3
      rw [h1.1] at h2 ⊢
      simp only at h2 ⊢
      exact ⟨h3.1, ih v h1.2 h2.2 h3.2⟩
  | program k ih => intro h1 h2 h3; exact ih P h1 h2 h3
  | mark md k ih => intro h1 h2 h3; exact ih h1 h2 h3
  | getObj r k ih =>
    intro h1 h2 h3
    simp only [SR] at h1 h2 h3 ⊢
    cases hm : m r with
    | none =>
      rw [hm] at h1 h2 h3
      cases hm' : m' r with
      | none => trivial
      | some b =>
        cases b with
        | cells cs sz e => trivial
        | map es clk => rw [hm'] at h2; simp only at h2; cases h2.1
    | some b =>
      cases b with
      | cells cs sz e =>
        rw [hm] at h2
        cases hm' : m' r with
        | none => trivial
        | some b =>
          cases b with
          | cells cs sz e => trivial
          | map es clk => rw [hm'] at h2; simp only at h2; cases h2.1
      | map es clk =>
        rw [hm] at h1 h2 h3
        simp only at h1 h3
        rw [h1.1] at h2 ⊢
        simp only at h2 ⊢
        exact ⟨h3.1, ih _ h1.2 h2.2 h3.2⟩
  | choose q k ih =>
    intro h1 h2 h3
    simp only [SR] at h1 h2 h3 ⊢
    split
    · rename_i hq; rw [if_pos hq] at h1 h2 h3; exact ih _ h1 h2 h3
    · trivial
  | _ => intro _ _ _; trivial

/-- Where all that is read gives a value, what was read binds both ways. -/
theorem SR_back {α : Type} {P : Program} {w0 : World} {m m' : Frag} (s : Sem α) {v : α} : SQ P w0 m s = some v → SR P w0 m s m' → SR P w0 m' s m := by
  induction s with
  | load md ad k ih =>
    intro h hr
    simp only [SQ, Option.bind_eq_some_iff] at h
    obtain ⟨u, hu, h⟩ := h
    simp only [SR, hu] at hr ⊢
    rw [hr.1]
    exact ⟨rfl, ih u h hr.2⟩
  | program k ih => intro h hr; exact ih P h hr
  | mark md k ih => intro h hr; exact ih h hr
  | getObj r k ih =>
    intro h hr
    simp only [SQ] at h
    split at h
    · rename_i es clk hm
      simp only [SR, hm] at hr ⊢
      rw [hr.1]
      exact ⟨rfl, ih _ h hr.2⟩
    · cases h
  | choose q k ih =>
    intro h hr
    simp only [SQ] at h
    simp only [SR] at hr ⊢
    split at h
    · rename_i hq; rw [if_pos hq] at hr ⊢; exact ih _ h hr
    · cases h
  | _ => intro _ _; trivial

theorem act_new {P : Program} {w0 : World} {t : Tm} {op : Op} {ty : TypeId} {c : List Value} {e : TypeId} {g : Nat → Value} (hk : newK op = true) (h : ∀ m R, SX P w0 (execF (evt t) op ty) m R ↔ ∀ n, w0.heap.size ≤ n → m n = Option.none → R (.value (g n)) (m.set n (.cells c c.length e)))
    {m : Frag} {R : Value → Frag → Prop} : act P w0 m t op ty R ↔ ∀ n, w0.heap.size ≤ n → m n = Option.none → R (g n) (m.set n (.cells c c.length e)) := by
  unfold act
  rw [h]
  constructor
  · intro h' n hB hn
    obtain ⟨m'', _, he, hr⟩ := h' n hB hn
    rw [he hk] at hr; exact hr
  · intro h' n hB hn; exact ⟨_, Ext.refl _, fun _ => rfl, h' n hB hn⟩

/-- Behind a quiet one comes another one: it may come ahead of it. -/
theorem swap_q {P : Program} {w0 : World} {x y : FOp} (hsx : notSelect x.op = true) (hsy : notSelect y.op = true) (hap : apartF x y = true) (hnx : ∀ p ∈ x.nw, opFree y.dst p.1 = true) (hq : x.q = true)
    {S : Frag → Prop} {t : Tm} {m : Frag} (hy : y.q = true ∨ x.pu = true ∨ y.ext = true ∨ (newK y.op = true ∧ NewPos P w0 t y.op y.ty)) {K : Cont} (hK : Anti K)
    (h : stepF P w0 x S t m fun S' t' m' => step0 P w0 y S' t' m' K) : step0 P w0 y S t m fun S' t' m' => stepF P w0 x S' t' m' K := by
  obtain ⟨h1, h2, h3⟩ := apartF_spec hap
  obtain ⟨hnw, h⟩ := h
  have hnw' : ∀ u, ∀ p ∈ x.nw, NewPos P w0 (upd t y.dst u) p.1 p.2 := fun u p hp => (NewPos_free (hnx p hp)).2 (hnw p hp)
  -- the value of x
  obtain ⟨vx, S', hS', hx, hxv⟩ : ∃ (vx : Value) (S' : Frag → Prop), (∀ z, S' z → S z) ∧ (step0 P w0 y S' (upd t x.dst vx) m K) ∧
      ∀ (u : Value) (m' : Frag) (T A : Frag → Prop), (x.pu = true ∨ S' m' ∨ Ext m m') → (∀ z, A z → T z) → (∀ z, A z → S' z) → K A (upd (upd t y.dst u) x.dst vx) m' → step0 P w0 x T (upd t y.dst u) m' K := by
    by_cases hw : wantT x.gd t = true
    · rw [step0_q hw hq] at h
      obtain ⟨v, hv, h⟩ := h
      refine ⟨v, _, ?_, h, fun u m' T A hm hT hA hk => ?_⟩
      · intro z hz
        by_cases hp : x.pu = true
        · rw [if_pos hp] at hz; exact hz
        · rw [if_neg hp] at hz; exact hz.1
      rw [step0_q (by rw [wantT_upd h3]; exact hw) hq]
      have he : ∀ M, qv P w0 M (upd t y.dst u) x.op x.ty = qv P w0 M t x.op x.ty := fun M => by unfold qv; rw [execF_upd hsx h3]
      rw [he, execF_upd hsx h3]
      by_cases hp : x.pu = true
      · rw [if_pos hp] at hv ⊢; exact ⟨v, hv, by rw [if_pos hp]; exact hK _ _ _ _ hT hk⟩
      · rw [if_neg hp] at hv hm hA ⊢
        have hsr : SR P w0 m (execF (evt t) x.op x.ty) m' := by
          rcases hm with hm | hm | hm
          · exact absurd hm hp
          · exact hm.2
          · exact SR_mono hm _ (SR_self _)
        have hsq := SQ_same _ (qv_sq hv) hsr
        refine ⟨v, by unfold qv; rw [hsq], ?_⟩
        rw [if_neg hp]
        exact hK _ _ _ _ (fun z hz => ⟨hT z hz, SR_turn _ hsr (SR_back _ (qv_sq hv) hsr) (hA z hz).2⟩) hk
    · rw [step0_s hw] at h
      refine ⟨undef, S, fun _ h => h, h, fun u m' T A _ hT _ hk => ?_⟩
      rw [step0_s (by rw [wantT_upd h3]; exact hw)]; exact hK _ _ _ _ hT hk
  have hwy : wantT y.gd (upd t x.dst vx) = wantT y.gd t := wantT_upd h1
  by_cases hw : wantT y.gd t = true
  · by_cases hyq : y.q = true
    · rw [step0_q (by rw [hwy]; exact hw) hyq] at hx
      rw [step0_q hw hyq]
      obtain ⟨v, hv, hk⟩ := hx
      have he : ∀ M, qv P w0 M (upd t x.dst vx) y.op y.ty = qv P w0 M t y.op y.ty := fun M => by unfold qv; rw [execF_upd hsy h1]
      rw [he] at hv
      rw [execF_upd hsy h1] at hk
      refine ⟨v, hv, hnw' v, ?_⟩
      by_cases hyp : y.pu = true
      · rw [if_pos hyp] at hk ⊢
        exact hxv v m S S' (.inr (.inr (Ext.refl m))) hS' (fun _ h => h) (by rw [← upd_comm h2]; exact hk)
      · rw [if_neg hyp] at hk ⊢
        exact hxv v m (fun z => S z ∧ SR P w0 m (execF (evt t) y.op y.ty) z) (fun z => S' z ∧ SR P w0 m (execF (evt t) y.op y.ty) z) (.inr (.inr (Ext.refl m))) (fun z hz => ⟨hS' z hz.1, hz.2⟩) (fun z hz => hz.1) (by rw [← upd_comm h2]; exact hk)
    · rw [step0_a (by rw [hwy]; exact hw) hyq] at hx
      rw [step0_a hw hyq]
      unfold act at hx
      rw [execF_upd hsy h1] at hx
      by_cases hn : newK y.op = true ∧ NewPos P w0 t y.op y.ty
      · obtain ⟨hn1, c, e, g, hn2⟩ := hn
        rw [act_new hn1 hn2]
        have hx' : act P w0 m t y.op y.ty _ := hx
        rw [act_new hn1 hn2] at hx'
        intro n hB hm
        obtain ⟨h4, h5⟩ := hx' n hB hm
        exact ⟨fun hy' => hS' _ (h4 hy'), hnw' _, hxv _ _ S S' (.inr (.inr (Ext.set _ hm))) hS' (fun _ h => h) (by rw [← upd_comm h2]; exact h5)⟩
      · refine act_mono (P := P) (w0 := w0) (m := m) (t := t) (op := y.op) (ty := y.ty) hx fun v m' ⟨he, hk⟩ => ⟨fun hy' => hS' _ (he hy'), hnw' v, hxv v m' S S' ?_ hS' (fun _ h => h) (by rw [← upd_comm h2]; exact hk)⟩
        rcases hy with hy | hy | hy | hy
        · exact absurd hy hyq
        · exact .inl hy
        · exact .inr (.inl (he hy))
        · exact absurd hy hn
  · rw [step0_s (by rw [hwy]; exact hw)] at hx
    rw [step0_s hw]
    exact ⟨hnw' undef, hxv _ _ S S' (.inr (.inr (Ext.refl m))) hS' (fun _ h => h) (by rw [← upd_comm h2]; exact hx)⟩

/-- Behind one that acts a new row is laid: it may be laid ahead of it. -/
theorem swap_n {P : Program} {w0 : World} {x y : FOp} (hsx : notSelect x.op = true) (hsy : notSelect y.op = true) (hap : apartF x y = true) (hnx : ∀ p ∈ x.nw, opFree y.dst p.1 = true) (hq : ¬ x.q = true) (hyq : ¬ y.q = true)
    {S : Frag → Prop} {t : Tm} {m : Frag} (hy : newK y.op = true) (hye : ¬ y.ext = true) (hyn : NewPos P w0 t y.op y.ty) (hS : Mono S) {K : Cont}
    (h : stepF P w0 x S t m fun S' t' m' => step0 P w0 y S' t' m' K) : step0 P w0 y S t m fun S' t' m' => stepF P w0 x S' t' m' K := by
  obtain ⟨h1, h2, h3⟩ := apartF_spec hap
  obtain ⟨hnw, h⟩ := h
  have hnw' : ∀ u, ∀ p ∈ x.nw, NewPos P w0 (upd t y.dst u) p.1 p.2 := fun u p hp => (NewPos_free (hnx p hp)).2 (hnw p hp)
  obtain ⟨c, e, g, hyn⟩ := hyn
  by_cases hw : wantT y.gd t = true
  · rw [step0_a hw hyq, act_new hy hyn]
    intro n hB hm
    refine ⟨fun he => absurd he hye, hnw' _, ?_⟩
    by_cases hwx : wantT x.gd t = true
    · rw [step0_a hwx hq] at h
      rw [step0_a (by rw [wantT_upd h3]; exact hwx) hq]
      have h' := act_frame hB hm h (b := .cells c c.length e)
      unfold act at h' ⊢
      rw [execF_upd hsx h3]
      refine act_mono (P := P) (w0 := w0) (t := t) (op := x.op) (ty := x.ty) h' fun v M ⟨m1, hM, hn1, h4, h5⟩ => ?_
      subst hM
      refine ⟨fun he => hS _ _ (Ext.set _ hn1) (h4 he), ?_⟩
      rw [step0_a (by rw [wantT_upd h1]; exact hw) hyq] at h5
      unfold act at h5
      rw [execF_upd hsy h1] at h5
      have h6 : act P w0 m1 t y.op y.ty _ := h5
      rw [act_new hy hyn] at h6
      have := (h6 n hB hn1).2
      rw [← upd_comm h2]; exact this
    · rw [step0_s hwx] at h
      rw [step0_s (by rw [wantT_upd h3]; exact hwx)]
      rw [step0_a (by rw [wantT_upd h1]; exact hw) hyq] at h
      unfold act at h
      rw [execF_upd hsy h1] at h
      have h6 : act P w0 m t y.op y.ty _ := h
      rw [act_new hy hyn] at h6
      have := (h6 n hB hm).2
      rw [← upd_comm h2]; exact this
  · rw [step0_s hw]
    refine ⟨hnw' _, ?_⟩
    by_cases hwx : wantT x.gd t = true
    · rw [step0_a hwx hq] at h
      rw [step0_a (by rw [wantT_upd h3]; exact hwx) hq]
      unfold act at h ⊢
      rw [execF_upd hsx h3]
      refine act_mono (P := P) (w0 := w0) (t := t) (op := x.op) (ty := x.ty) h fun v m' ⟨h4, h5⟩ => ⟨h4, ?_⟩
      rw [step0_s (by rw [wantT_upd h1]; exact hw)] at h5
      rw [← upd_comm h2]; exact h5
    · rw [step0_s hwx] at h
      rw [step0_s (by rw [wantT_upd h3]; exact hwx)]
      rw [step0_s (by rw [wantT_upd h1]; exact hw)] at h
      rw [← upd_comm h2]; exact h

/-! ### A region that draws its order -/

/-- New rows that are laid whatever lies in the slots. -/
def newOk (P : Program) : Op → Bool
  | .alloc T => match P.info? T with
    | some i => i.zero.isSome
    | Option.none => false
  | .box _ _ => true
  | .buildSlice T n ps => n == 0 && ps.isEmpty && match P.underlying T with
    | some (.slice e) => (P.info? e).isSome
    | _ => false
  | _ => false

theorem newOk_spec {P : Program} {w0 : World} {t : Tm} {op : Op} {ty : TypeId} (h : newOk P op = true) : newK op = true ∧ NewPos P w0 t op ty := by
  cases op <;> simp only [newOk, Bool.false_eq_true] at h
  case alloc T =>
    refine ⟨rfl, ?_⟩
    cases hi : P.info? T with
    | none => rw [hi] at h; cases h
    | some i =>
      rw [hi] at h
      cases hz : i.zero with
      | none => simp only [hz] at h; cases h
      | some z =>
        refine ⟨z.cells.toList, T, fun n => .pointer (some ⟨n, 0, Option.none⟩), fun m R => ?_⟩
        have : execF (evt t) (.alloc T) ty = Sem.bind (Instr.alloc T true (.tuple #[])) fun v => Sem.pure (.value v) := rfl
        rw [this, SX_bind]
        show SX P w0 (Sem.bind (Sem.bind (typeInfo T) _) _) m _ ↔ _
        rw [SX_bind, SX_bind]
        show SX P w0 (Sem.bind program _) m _ ↔ _
        rw [SX_bind]
        show SX P w0 (match P.info? T with
          | some i => pure i
          | Option.none => stuck "no such type") m _ ↔ _
        rw [hi]
        show SX P w0 (match i.zero with
          | some v => pure v
          | Option.none => unsupported (.resourceLimit "a value of more than 2^22 cells")) m _ ↔ _
        rw [hz]
        show (((0, 0) : Nat × Nat) = (0, 0) ∧ ∀ n, _ → _ → _) ↔ _
        simp only [true_and, Array.length_toList]
        exact Iff.rfl
  case box T x =>
    refine ⟨rfl, (evt t x).cells.toList, T, fun n => .pointer (some ⟨n, 0, Option.none⟩), fun m R => ?_⟩
    have : execF (evt t) (.box T x) ty = Sem.new (.cells (evt t x).cells T) fun n => Sem.pure (.value (.pointer (some ⟨n, 0, Option.none⟩))) := rfl
    rw [this]
    simp only [SX, Array.length_toList, true_and]
  case buildSlice T n ps =>
    refine ⟨rfl, ?_⟩
    simp only [Bool.and_eq_true, beq_iff_eq, Array.isEmpty_iff] at h
    obtain ⟨⟨rfl, rfl⟩, h⟩ := h
    cases hu : P.underlying T with
    | none => rw [hu] at h; cases h
    | some d =>
      rw [hu] at h
      cases d <;> simp only [Bool.false_eq_true] at h
      case slice e =>
        cases hi : P.info? e with
        | none => rw [hi] at h; cases h
        | some i =>
          refine ⟨[], e, fun n => .slice (some ⟨n, 0, Option.none⟩) 0 0, fun m R => ?_⟩
          have : execF (evt t) (.buildSlice T 0 #[]) ty = Sem.bind (Instr.buildSlice T 0 ((#[] : Array (Nat × Operand)).map fun (i, x) => (i, evt t x))) fun v => Sem.pure (.value v) := rfl
          rw [this, SX_bind, Array.map_empty]
          show SX P w0 (Sem.bind (underlying T) _) m _ ↔ _
          rw [SX_bind]
          show SX P w0 (match P.underlying T with
            | some d => pure d
            | Option.none => stuck "no such type") m _ ↔ _
          rw [hu]
          show SX P w0 (Sem.bind (sizeOf e) _) m _ ↔ _
          rw [SX_bind]
          show SX P w0 (Sem.bind (typeInfo e) _) m _ ↔ _
          rw [SX_bind]
          show SX P w0 (match P.info? e with
            | some i => pure i
            | Option.none => stuck "no such type") m _ ↔ _
          rw [hi]
          show SX P w0 _ m _ ↔ _
          simp only [Nat.zero_mul, bind, pure, Sem.bind]
          simp [SX, Sem.bind, Instr.fill, newRow, newObj, bind, pure]

def preds (ops : Array Oper) (i : Nat) : List Nat := match ops[i]? with
  | some o => (o.after.toList.filter (Region.binds .any)).map (·.on)
  | Option.none => []

/-- Ahead of whom: a table, checked. -/
def ancOk (ops : Array Oper) (A : Nat → List Nat) : Bool :=
  (List.range ops.size).all fun i => (A i).all fun x => (preds ops i).any fun p => decide (p < i) && (p == x || (A p).contains x)

def swapOk (P : Program) (A nwI : Nat → List Nat) (F : Nat → FOp) (x i : Nat) : Bool :=
  (A i).contains x || (apartF (F x) (F i) && (F x).nw.all (fun p => opFree (F i).dst p.1) &&
    (((F x).q && ((F i).q || (F x).pu || (F i).ext || newOk P (F i).op)) || (!(F x).q && !(F i).q && newK (F i).op && !(F i).ext && (newOk P (F i).op || (nwI x).contains i))))

def pairsOk (R : Nat → Nat → Bool) : List Nat → Bool
  | [] => true
  | x :: l => l.all (R x) && pairsOk R l

theorem pairsOk_spec {R : Nat → Nat → Bool} : ∀ {l : List Nat}, pairsOk R l = true → l.Pairwise fun x y => R x y = true
  | [], _ => .nil
  | x :: l, h => by
    simp only [pairsOk, Bool.and_eq_true] at h
    exact .cons (fun y hy => List.all_eq_true.1 h.1 y hy) (pairsOk_spec h.2)

def orderOk (P : Program) (N : Nat) (ops : Array Oper) (A nwI : Nat → List Nat) (F : Nat → FOp) (L : List Nat) : Bool :=
  ops.toList.all (okOper N ops) && ancOk ops A && pairsOk (fun x i => swapOk P A nwI F x i && !(preds ops x).contains i && x != i) L
    && (List.range ops.size).all (fun i => L.contains i) && L.all (fun i => decide (i < ops.size)) && (List.range ops.size).all (fun i => !(preds ops i).contains i && (preds ops i).all fun p => decide (p < ops.size))
    && L.length == ops.size

theorem mem_preds {ops : Array Oper} {i : Nat} {o : Oper} (ho : ops[i]? = some o) {p : Nat} : p ∈ preds ops i ↔ ∃ e ∈ o.after, Region.binds .any e = true ∧ e.on = p := by
  simp only [preds, ho, List.mem_map, List.mem_filter, Array.mem_toList_iff]
  constructor
  · rintro ⟨e, ⟨h1, h2⟩, h3⟩; exact ⟨e, h1, h2, h3⟩
  · rintro ⟨e, h1, h2, h3⟩; exact ⟨e, ⟨h1, h2⟩, h3⟩

theorem anc_listed {ops : Array Oper} {A : Nat → List Nat} (hA : ancOk ops A = true) {S : Nat → Prop} (hS : ∀ i, i < ops.size → S i → ∀ p ∈ preds ops i, S p) :
    ∀ (i : Nat), i < ops.size → (∀ p ∈ preds ops i, S p) → ∀ x ∈ A i, S x := by
  intro i
  induction i using Nat.strongRecOn with
  | _ i ih =>
    intro hi hp x hx
    have h1 := List.all_eq_true.1 hA i (List.mem_range.2 hi)
    have h2 := List.all_eq_true.1 h1 x hx
    obtain ⟨p, hpp, h3⟩ := List.any_eq_true.1 h2
    simp only [Bool.and_eq_true, decide_eq_true_eq, Bool.or_eq_true, beq_iff_eq, List.contains_iff_mem] at h3
    obtain ⟨hlt, h3⟩ := h3
    rcases h3 with h3 | h3
    · subst h3; exact hp _ hpp
    · exact ih p hlt (by omega) (hS p (by omega) (hp p hpp)) x h3

theorem bubble {P : Program} {w0 : World} {F : Nat → FOp} {nwI : Nat → List Nat} (hs : ∀ i, notSelect (F i).op = true) (hF : ∀ x j, j ∈ nwI x → ((F j).op, (F j).ty) ∈ (F x).nw) {i : Nat} {L2 : List Nat} {K : Tm → Frag → Prop} :
    ∀ {L1 : List Nat} {S : Frag → Prop} {t : Tm} {m : Frag}, Mono S →
    (∀ x ∈ L1, apartF (F x) (F i) = true ∧ (F x).nw.all (fun p => opFree (F i).dst p.1) = true ∧
      (((F x).q && ((F i).q || (F x).pu || (F i).ext || newOk P (F i).op)) || (!(F x).q && !(F i).q && newK (F i).op && !(F i).ext && (newOk P (F i).op || (nwI x).contains i))) = true) →
    stepsF P w0 ((L1 ++ i :: L2).map F) S t m K → step0 P w0 (F i) S t m fun S' t' m' => stepsF P w0 ((L1 ++ L2).map F) S' t' m' K := by
  intro L1
  induction L1 with
  | nil => intro S t m _ _ h; exact h.2
  | cons x L1 ih =>
    intro S t m hS hc h
    obtain ⟨h1, h2, h3⟩ := hc x (by simp)
    have h' : stepF P w0 (F x) S t m fun S' t' m' => step0 P w0 (F i) S' t' m' fun S' t' m' => stepsF P w0 ((L1 ++ L2).map F) S' t' m' K :=
      stepF_mono' hS h fun S' t' m' hS' hh => ih hS' (fun y hy => hc y (by simp [hy])) hh
    have h2' : ∀ p ∈ (F x).nw, opFree (F i).dst p.1 = true := fun p hp => List.all_eq_true.1 h2 p hp
    simp only [Bool.or_eq_true, Bool.and_eq_true, Bool.not_eq_true'] at h3
    rcases h3 with ⟨hq, h3⟩ | ⟨⟨⟨⟨hq, hyq⟩, hk⟩, he⟩, h3⟩
    · refine swap_q (hs x) (hs i) h1 h2' hq ?_ (stepsF_anti _) h'
      rcases h3 with ((h3 | h3) | h3) | h3
      · exact .inl h3
      · exact .inr (.inl h3)
      · exact .inr (.inr (.inl h3))
      · exact .inr (.inr (.inr (newOk_spec h3)))
    · refine swap_n (hs x) (hs i) h1 h2' (by rw [hq]; simp) (by rw [hyq]; simp) hk (by rw [he]; simp) ?_ hS h'
      rcases h3 with h3 | h3
      · exact (newOk_spec h3).2
      · exact h'.1 _ (hF x i (List.contains_iff_mem.1 h3))

/-- What holds in the checked order holds in every order that the region's edges allow. -/
theorem any_of_order {P : Program} {w0 : World} {N : Nat} {ops : Array Oper} {A nwI : Nat → List Nat} {F : Nat → FOp} {ex : Nat → Bool} {nw : Nat → List (Op × TypeId)} {Q : Exit → Act → World → Prop} {K : Tm → Frag → Prop} {mS : Frag} {wS : World}
    (hFd : ∀ i, F i = fop P ops (ex i) (nw i) (ops.getD i default)) (hF : ∀ x j, j ∈ nwI x → ((F j).op, (F j).ty) ∈ (F x).nw)
    (hok : ∀ o ∈ ops.toList, okOper N ops o = true) (hA : ancOk ops A = true)
    (hp : ∀ i, i < ops.size → i ∉ preds ops i ∧ ∀ p ∈ preds ops i, p < ops.size)
    (hK : ∀ t m w, K t m → Fits w0 m w → Keeps mS wS m w → Q .normal (AT N t) w) :
    ∀ (n : Nat) (L : List Nat) (listed : Array Bool) (S : Frag → Prop) (t : Tm) (m : Frag) (w : World), L.length = n → listed.size = ops.size → (∀ i, i < ops.size → (listed.getD i true = false ↔ i ∈ L)) →
      (∀ i ∈ L, i < ops.size) → (∀ i, i < ops.size → i ∉ L → ∀ p ∈ preds ops i, p ∉ L) →
      L.Pairwise (fun x i => (swapOk P A nwI F x i && !(preds ops x).contains i && x != i) = true) → Mono S →
      stepsF P w0 (L.map F) S t m K → Fits w0 m w → Keeps mS wS m w → wpAny P .any ops Q n listed (AT N t) w := by
  have hget : ∀ i, i < ops.size → ops[i]? = some (ops.getD i default) := fun i hi => by simp [Array.getD_eq_getD_getElem?, hi]
  have hoki : ∀ i, i < ops.size → okOper N ops (ops.getD i default) = true := fun i hi => hok _ (by
    have := hget i hi
    exact Array.mem_toList_iff.2 (Array.mem_of_getElem? this))
  intro n
  induction n with
  | zero =>
    intro L listed S t m w hn hsz hl hlt hcl hpw hS h hf hkp
    have : L = [] := List.length_eq_zero_iff.1 hn
    subst this
    refine ⟨?_, hK _ _ _ h hf hkp⟩
    rw [List.eq_nil_iff_forall_not_mem]
    intro i hi
    obtain ⟨h0, o, ho, _⟩ := mem_ready.1 hi
    have := (hl i (Array.getElem?_eq_some_iff.1 ho).1).1 h0
    cases this
  | succ n ih =>
    intro L listed S t m w hn hsz hl hlt hcl hpw hS h hf hkp
    refine ⟨fun hr => ?_, fun i hi => ?_⟩
    · -- the first of L may come up
      exfalso
      cases L with
      | nil => cases hn
      | cons x L =>
        have hx := hlt x (by simp)
        have : x ∈ Region.ready .any ops listed := mem_ready.2 ⟨(hl x hx).2 (by simp), _, hget x hx, fun e he hb => by
          have hmem : e.on ∈ preds ops x := (mem_preds (hget x hx)).2 ⟨e, he, hb, rfl⟩
          have hlt' := (hp x hx).2 _ hmem
          have hno : e.on ∉ x :: L := by
            intro hin
            rcases List.mem_cons.1 hin with h1 | h1
            · exact (hp x hx).1 (by rw [h1] at hmem; exact hmem)
            · have := (List.pairwise_cons.1 hpw).1 _ h1
              simp only [Bool.and_eq_true, Bool.not_eq_true'] at this
              have h3 := this.1.2
              rw [List.contains_iff_mem.2 hmem] at h3; cases h3
          cases hg : listed.getD e.on true with
          | true =>
            have hlt2 : e.on < listed.size := by omega
            simp only [Array.getD_eq_getD_getElem?, Array.getElem?_eq_getElem hlt2, Option.getD_some] at hg ⊢
            exact hg
          | false => exact absurd ((hl _ hlt').1 hg) hno⟩
        rw [hr] at this; cases this
    · obtain ⟨h0, o, ho, hall⟩ := mem_ready.1 hi
      have hilt := (Array.getElem?_eq_some_iff.1 ho).1
      have hiL := (hl i hilt).1 h0
      have hpredsListed : ∀ p ∈ preds ops i, p ∉ L := fun p hpm => by
        obtain ⟨e, he, hb, rfl⟩ := (mem_preds ho).1 hpm
        have h1 := hall e he hb
        intro hin
        have h2 := (hl _ (hlt _ hin)).2 hin
        have hlt2 : e.on < listed.size := by rw [hsz]; exact hlt _ hin
        simp only [Array.getD_eq_getD_getElem?, Array.getElem?_eq_getElem hlt2, Option.getD_some] at h1 h2
        rw [h1] at h2; cases h2
      obtain ⟨L1, L2, rfl⟩ := List.append_of_mem hiL
      have hnodup : ∀ x ∈ L1, x ≠ i := fun x hx => by
        have := (List.pairwise_append.1 hpw).2.2 x hx i (by simp)
        simp only [Bool.and_eq_true, bne_iff_ne] at this
        exact this.2
      have hnodup2 : ∀ x ∈ L2, i ≠ x := fun x hx => by
        have := (List.pairwise_cons.1 (List.pairwise_append.1 hpw).2.1).1 x hx
        simp only [Bool.and_eq_true, bne_iff_ne] at this
        exact this.2
      have hb := bubble (P := P) (w0 := w0) (F := F) (nwI := nwI) (fun j => by
          rw [hFd]
          by_cases hj : j < ops.size
          · have := hoki j hj
            simp only [okOper, Bool.and_eq_true] at this
            exact this.1.2
          · have : ops.getD j default = default := by simp [Array.getD_eq_getD_getElem?, Array.getElem?_eq_none (Nat.not_lt.1 hj)]
            show notSelect (ops.getD j default).op = true
            rw [this]; rfl) hF (i := i) (L2 := L2) (L1 := L1) hS (fun x hx => by
          have h1 := (List.pairwise_append.1 hpw).2.2 x hx i (by simp)
          rw [Bool.and_eq_true, Bool.and_eq_true] at h1
          have h1' := h1.1.1
          unfold swapOk at h1'
          rw [Bool.or_eq_true] at h1'
          rcases h1' with h2 | h2
          · exfalso
            have := anc_listed hA (S := fun j => j ∉ L1 ++ i :: L2) (fun j hj hjl p hp' => hcl j hj hjl p hp') i hilt hpredsListed x (List.contains_iff_mem.1 h2)
            exact this (by simp [hx])
          · rw [Bool.and_eq_true, Bool.and_eq_true] at h2
            exact ⟨h2.1.1, h2.1.2, h2.2⟩) h
      rw [hFd i] at hb
      refine step0_sound (P := P) (w0 := w0) (N := N) (ext := ex i) (o := ops.getD i default) (hget i hilt) (hoki i hilt) hb hf fun S' t' m' w' hs hS' hf' hk' => ?_
      refine ih (L1 ++ L2) (listed.setIfInBounds i true) S' t' m' w' (by simp at hn ⊢; omega) (by simp [hsz]) (fun j hj => ?_) (fun j hj => hlt j (by
          rcases List.mem_append.1 hj with h1 | h1 <;> simp [h1])) (fun j hj hjl p hpj => ?_) ?_ (hS' hS) hs hf' (hkp.trans hk')
      · by_cases hji : j = i
        · subst hji
          have : (listed.setIfInBounds j true).getD j true = true := by
            simp [Array.getD_eq_getD_getElem?, Array.getElem?_setIfInBounds, show j < listed.size by omega]
          rw [this]
          simp only [Bool.true_eq_false, false_iff, List.mem_append, not_or]
          exact ⟨fun h1 => hnodup _ h1 rfl, fun h1 => hnodup2 _ h1 rfl⟩
        · have : (listed.setIfInBounds i true).getD j true = listed.getD j true := by
            simp only [Array.getD_eq_getD_getElem?, Array.getElem?_setIfInBounds, if_neg (Ne.symm hji)]
          rw [this, hl j hj]
          simp [hji]
      · by_cases hji : j = i
        · subst hji
          intro hin
          exact hpredsListed p hpj (by rcases List.mem_append.1 hin with h1 | h1 <;> simp [h1])
        · intro hin
          exact hcl j hj (by simp only [List.mem_append, List.mem_cons, not_or] at hjl ⊢; exact ⟨hjl.1, hji, hjl.2⟩) p hpj (by rcases List.mem_append.1 hin with h1 | h1 <;> simp [h1])
      · refine List.Pairwise.sublist ?_ hpw
        exact List.Sublist.append (List.Sublist.refl _) (List.sublist_cons_self _ _)

end Go.Proofs.YtemaflbbcihilaaDoor.Fl

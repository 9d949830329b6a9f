/- The fragment logic run by rewriting: each operation told at the root, what comes behind it left alone. No conditions. -/
import Derived.Test.YtemaflbbcihilaaDoorFx
namespace Go.Proofs.YtemaflbbcihilaaDoor.Fl
open Go Go.RowKit
set_option linter.unusedSimpArgs false
set_option linter.unusedVariables false
set_option linter.defProp false


universe u
inductive Hid {α : Sort u} (a : α) : Type where
  | mk

def bindX {α : Type} (o : Option α) (f : α → Prop) : Prop := ∃ v, o = some v ∧ f v
def bindH {α : Type} (o : Option α) (f : α → Prop) (_ : Hid f) : Prop := bindX o f
theorem h_bind {α : Type} {o : Option α} {f : α → Prop} : bindX o f = bindH o f .mk := rfl
theorem bindH_some {α : Type} (v : α) (f : α → Prop) (h : Hid f) : bindH (some v) f h = f v := by simp [bindH, bindX]

def guardX (p q : Prop) : Prop := p ∧ q
def guardH (p q : Prop) (_ : Hid q) : Prop := p ∧ q
theorem h_guard {p q : Prop} : guardX p q = guardH p q .mk := rfl
theorem guardH_true (q : Prop) (h : Hid q) : guardH True q h = q := by simp [guardH]
theorem guardH_of {p q : Prop} {h : Hid q} (hp : p) : guardH p q h = q := by simp [guardH, hp]

def freshX (w0 : World) (m : Frag) (f : Nat → Prop) : Prop := ∀ n, w0.heap.size ≤ n → m n = Option.none → f n
def freshH (w0 : World) (m : Frag) (f : Nat → Prop) (_ : Hid f) : Prop := ∀ n, w0.heap.size ≤ n → m n = Option.none → f n
theorem h_fresh {w0 : World} {m : Frag} {f : Nat → Prop} : freshX w0 m f = freshH w0 m f .mk := rfl

def condX (v : Value) (A B : Prop) : Prop := ∃ z, v = .bool z ∧ (z = true → A) ∧ (z = false → B)
def condH (v : Value) (A B : Prop) (_ : Hid A) (_ : Hid B) : Prop := condX v A B
theorem h_cond {v : Value} {A B : Prop} : condX v A B = condH v A B .mk .mk := rfl
theorem condH_true (A B : Prop) (h : Hid A) (h' : Hid B) : condH (.bool true) A B h h' = A := by simp [condH, condX]
theorem condH_false (A B : Prop) (h : Hid A) (h' : Hid B) : condH (.bool false) A B h h' = B := by simp [condH, condX]
theorem condH_of {p : Prop} {_ : Decidable p} {A B : Prop} {h : Hid A} {h' : Hid B} (h1 : p → A) (h2 : ¬ p → B) : condH (.bool (decide p)) A B h h' := ⟨_, rfl, fun h => h1 (of_decide_eq_true h), fun h => h2 (of_decide_eq_false h)⟩
theorem condH_b {b : Bool} {A B : Prop} {h : Hid A} {h' : Hid B} (h1 : b = true → A) (h2 : b = false → B) : condH (.bool b) A B h h' := ⟨_, rfl, h1, h2⟩

def gdX (v : Value) (b : Bool) (A B : Prop) : Prop := if (match v with | .bool c => c == b | _ => false) = true then A else B
def gdH (v : Value) (b : Bool) (A B : Prop) (_ : Hid A) (_ : Hid B) : Prop := gdX v b A B
theorem h_gd {v : Value} {b : Bool} {A B : Prop} : gdX v b A B = gdH v b A B .mk .mk := rfl
theorem gdH_tt (A B : Prop) (h : Hid A) (h' : Hid B) : gdH (.bool true) true A B h h' = A := rfl
theorem gdH_ff (A B : Prop) (h : Hid A) (h' : Hid B) : gdH (.bool false) false A B h h' = A := rfl
theorem gdH_tf (A B : Prop) (h : Hid A) (h' : Hid B) : gdH (.bool true) false A B h h' = B := rfl
theorem gdH_ft (A B : Prop) (h : Hid A) (h' : Hid B) : gdH (.bool false) true A B h h' = B := rfl
theorem gdH_u (b : Bool) (A B : Prop) (h : Hid A) (h' : Hid B) : gdH undef b A B h h' = B := rfl
theorem gdH_b {c b : Bool} {A B : Prop} {h : Hid A} {h' : Hid B} (h1 : c = b → A) (h2 : c = !b → B) : gdH (.bool c) b A B h h' := by
  show gdX _ _ _ _
  unfold gdX; cases c <;> cases b <;> first | exact h1 rfl | exact h2 rfl

def loopX (P : Program) (w0 : World) (a : XC) (t : Tm) (m : Frag) (Q : KX) : Prop := xwp P w0 (.loop a) t m Q
def xwH (P : Program) (w0 : World) (a : XC) (t : Tm) (m : Frag) (Q : KX) (_ : Hid Q) : Prop := xwp P w0 a t m Q
theorem h_xw {P : Program} {w0 : World} {a : XC} {t : Tm} {m : Frag} {Q : KX} : xwp P w0 a t m Q = xwH P w0 a t m Q .mk := rfl
def loopH (P : Program) (w0 : World) (a : XC) (t : Tm) (m : Frag) (Q : KX) (_ : Hid Q) : Prop := xwp P w0 (.loop a) t m Q
theorem h_loop {P : Program} {w0 : World} {a : XC} {t : Tm} {m : Frag} {Q : KX} : loopX P w0 a t m Q = loopH P w0 a t m Q .mk := rfl
def sxsH (P : Program) (w0 : World) (l : List U) (t : Tm) (m : Frag) (K : KU) (_ : Hid K) : Prop := stepsX P w0 l t m K
theorem h_sxs {P : Program} {w0 : World} {l : List U} {t : Tm} {m : Frag} {K : KU} : stepsX P w0 l t m K = sxsH P w0 l t m K .mk := rfl
def sxH (P : Program) (w0 : World) (u : U) (t : Tm) (m : Frag) (K : KU) (_ : Hid K) : Prop := stepX P w0 u t m K
theorem h_sx {P : Program} {w0 : World} {u : U} {t : Tm} {m : Frag} {K : KU} : stepX P w0 u t m K = sxH P w0 u t m K .mk := rfl
def callH (P : Program) (w0 : World) (f : FuncId) (args : Array Value) (m : Frag) (R : Value → Frag → Prop) (_ : Hid R) : Prop := ACall P w0 f args m R
theorem h_call {P : Program} {w0 : World} {f : FuncId} {args : Array Value} {m : Frag} {R : Value → Frag → Prop} : ACall P w0 f args m R = callH P w0 f args m R .mk := rfl
def wkH (m : Frag) (p : Frag → Prop) (_ : Hid p) : Prop := weakX m p
theorem h_wk {m : Frag} {p : Frag → Prop} : weakX m p = wkH m p .mk := rfl
theorem wkH_self {m : Frag} {p : Frag → Prop} {h : Hid p} (hp : p m) : wkH m p h := ⟨m, Ext.refl m, hp⟩
theorem wkH_ext {m m' : Frag} {p : Frag → Prop} {h : Hid p} (hx : Ext m' m) (hp : p m') : wkH m p h := ⟨m', hx, hp⟩
theorem callH_of {P : Program} {w0 : World} {f : FuncId} {args : Array Value} {m : Frag} {R R' : Value → Frag → Prop} {h : Hid R} (hc : ACall P w0 f args m R') (hr : ∀ v m', R' v m' → R v m') : callH P w0 f args m R h := hc.mono hr
/-- One more round. -/
def nextI (I : Nat → Tm → Frag → Prop) (k : Nat) (t : Tm) (m : Frag) : Prop := ∃ k', k' < k ∧ I k' t m
theorem nextI_of {I : Nat → Tm → Frag → Prop} {k : Nat} {t : Tm} {m : Frag} (k' : Nat) (h : k' < k) (hI : I k' t m) : nextI I k t m := ⟨k', h, hI⟩
/-- A loop by an invariant and a measure. -/
theorem loopH_of {P : Program} {w0 : World} {a : XC} {t : Tm} {m : Frag} {Q : KX} {h : Hid Q} (I : Nat → Tm → Frag → Prop) (k : Nat) (h0 : I k t m) (hs : ∀ k t m, I k t m → xwp P w0 a t m (thenX (nextI I k) Q)) : loopH P w0 a t m Q h := ⟨I, k, h0, hs⟩

/-- A region told by an invariant. -/
def invX (P : Program) (w0 : World) (l : List (U × List Nat)) (t : Tm) (m : Frag) (Q : KX) : Prop := xwp P w0 (.inv l) t m Q
def invH (P : Program) (w0 : World) (l : List (U × List Nat)) (t : Tm) (m : Frag) (Q : KX) (_ : Hid Q) : Prop := xwp P w0 (.inv l) t m Q
theorem h_inv {P : Program} {w0 : World} {l : List (U × List Nat)} {t : Tm} {m : Frag} {Q : KX} : invX P w0 l t m Q = invH P w0 l t m Q .mk := rfl
/-- What each of the operations asks, when those that it waits for are done. -/
def invL (P : Program) (w0 : World) (I : (Nat → Bool) → Tm → Frag → Prop) (d : Nat → Bool) (t : Tm) (m : Frag) : Nat → List (U × List Nat) → Prop
  | _, [] => True
  | i, (u, ps) :: l => (d i = false → (∀ p ∈ ps, d p = true) → stepX P w0 u t m fun t' m' => I (fun j => if j = i then true else d j) t' m') ∧ invL P w0 I d t m (i + 1) l
theorem invL_get {P : Program} {w0 : World} {I : (Nat → Bool) → Tm → Frag → Prop} {d : Nat → Bool} {t : Tm} {m : Frag} : ∀ (l : List (U × List Nat)) (k : Nat), invL P w0 I d t m k l → ∀ (i : Nat) (u : U) (ps : List Nat), l[i]? = some (u, ps) →
    d (k + i) = false → (∀ p ∈ ps, d p = true) → stepX P w0 u t m fun t' m' => I (fun j => if j = k + i then true else d j) t' m'
  | [], _, _, i, u, ps, h => by cases h
  | (u0, ps0) :: l, k, hl, 0, u, ps, h => by cases h; exact hl.1
  | (u0, ps0) :: l, k, hl, i + 1, u, ps, h => by
    have := invL_get l (k + 1) hl.2 i u ps h
    rw [show k + 1 + i = k + (i + 1) by omega] at this; exact this
theorem invH_of {P : Program} {w0 : World} {l : List (U × List Nat)} {t : Tm} {m : Frag} {Q : KX} {h : Hid Q} (I : (Nat → Bool) → Tm → Frag → Prop) (h0 : I (fun _ => false) t m) (h1 : ∀ d t m, I d t m → invL P w0 I d t m 0 l)
    (h2 : ∀ d t m, I d t m → (∀ i, i < l.length → d i = true) → Q .norm t m) : invH P w0 l t m Q h := by
  refine ⟨I, h0, fun d t m hI i u ps hl hd hp => ?_, h2⟩
  have := invL_get l 0 (h1 d t m hI) i u ps hl
  rw [Nat.zero_add] at this
  exact this hd hp

def splH (t : Tm) (z : List Value) (ps : List (Nat × Nat × Operand)) (F : List Value → Prop) (_ : Hid F) : Prop := spl t z ps F
theorem h_spl {t : Tm} {z : List Value} {ps : List (Nat × Nat × Operand)} {F : List Value → Prop} : spl t z ps F = splH t z ps F .mk := rfl

def asInt? : Value → Option Int
  | .int _ i => some i
  | _ => Option.none
def asStr? : Value → Option ByteArray
  | .string s => some s
  | _ => Option.none
def asB? : Value → Option Bool
  | .bool b => some b
  | _ => Option.none
def asAgg? : Value → Option (Array Value)
  | .agg a => some a
  | _ => Option.none
/-- A slice's block, place, length and capacity. -/
def asSl? : Value → Option (Nat × Nat × Nat × Nat)
  | .slice (some ⟨n, o, Option.none⟩) l c => some (n, o, l, c)
  | _ => Option.none
def cellsOf (m : Frag) (n : Nat) : Option (List Value × Nat × TypeId) := match m n with
  | some (.cells cs size e) => some (cs, size, e)
  | _ => Option.none

def asPtrA? : Value → Option Addr
  | .pointer a => a
  | _ => Option.none
def asSlA? : Value → Option (Option Addr × Nat × Nat)
  | .slice a n c => some (a, n, c)
  | _ => Option.none
def asTup? : Value → Option (Array Value)
  | .tuple a => some a
  | _ => Option.none
def asKInt? : Value → Option (IntKind × Int)
  | .int k i => some (k, i)
  | _ => Option.none
def asNat? : Value → Option Nat
  | .int _ i => if 0 ≤ i then some i.toNat else Option.none
  | _ => Option.none

/-- A row appended to. -/
def apX (w0 : World) (m : Frag) (es : Nat) (e : TypeId) (x y : Value) (K : Value → Frag → Prop) : Prop := ∃ k n cs ys, ownS w0 m es e x k cs ∧ srcS w0 m es y n ys ∧ (∀ y ∈ ys, oneC y = true) ∧ k + n ≤ 2 ^ 34 ∧
  (isNilS x = true → n = 0 → K (.slice Option.none 0 0) m) ∧
  ((isNilS x = true → n ≠ 0) → ∀ b c rest, w0.heap.size ≤ b → delS m x b = Option.none → k + n ≤ c → (cs ++ ys).length + rest.length = c * es →
    K (.slice (some ⟨b, 0, Option.none⟩) (k + n) c) ((delS m x).set b (.cells (cs ++ ys ++ rest) (c * es) e)))

def apH (w0 : World) (m : Frag) (es : Nat) (e : TypeId) (x y : Value) (K : Value → Frag → Prop) (_ : Hid K) : Prop := apX w0 m es e x y K
theorem h_ap {w0 : World} {m : Frag} {es : Nat} {e : TypeId} {x y : Value} {K : Value → Frag → Prop} : apX w0 m es e x y K = apH w0 m es e x y K .mk := rfl

/-- Bytes read as a text. -/
def cbsX (w0 : World) (m : Frag) (x : Value) (K : Value → Prop) : Prop := ∃ (n : Nat) (bs : List UInt8), (∃ a n c, x = .slice a n c) ∧ srcS w0 m 1 x n (bs.map byteV) ∧ K (.string ⟨bs.toArray⟩)

def cbsH (w0 : World) (m : Frag) (x : Value) (K : Value → Prop) (_ : Hid K) : Prop := cbsX w0 m x K
theorem h_cbs {w0 : World} {m : Frag} {x : Value} {K : Value → Prop} : cbsX w0 m x K = cbsH w0 m x K .mk := rfl

theorem spl_nil {t : Tm} {z : List Value} {F : List Value → Prop} {h : Hid F} : splH t z [] F h = F z := rfl
theorem spl_cons {t : Tm} {z : List Value} {off size : Nat} {x : Operand} {ps : List (Nat × Nat × Operand)} {F : List Value → Prop} {h : Hid F} : splH t z ((off, size, x) :: ps) F h = guardX ((evt t x).cells.toList.length = size ∧ off + size ≤ z.length) (spl t (splice z off (evt t x).cells.toList) ps F) := by
  unfold guardX
  show (_ ∧ _ ∧ _) = _
  rw [and_assoc]

theorem cellsOf_set (m : Frag) (n : Nat) (cs : List Value) (size : Nat) (e : TypeId) : cellsOf (m.set n (.cells cs size e)) n = some (cs, size, e) := by simp [cellsOf, Frag.set]
theorem cellsOf_ne (m : Frag) (n k : Nat) (b : Blk) (h : k ≠ n) : cellsOf (m.set n b) k = cellsOf m k := by simp [cellsOf, Frag.set, h]

theorem stepX_nil {P : Program} {w0 : World} {t : Tm} {m : Frag} {K : KU} {h : Hid K} : sxsH P w0 [] t m K h = K t m := rfl
theorem stepX_cons {P : Program} {w0 : World} {u : U} {l : List U} {t : Tm} {m : Frag} {K : KU} {h : Hid K} : sxsH P w0 (u :: l) t m K h = stepX P w0 u t m fun t' m' => stepsX P w0 l t' m' K := rfl

section
variable {P : Program} {w0 : World} {t : Tm} {m : Frag} {K : KU} {Q : KX} {h_ : Hid K} {g_ : Hid Q} {d : Option Nat} {x y : Operand}

theorem s_mv : sxH P w0 (.mv d x) t m K h_ = K (upd t d (evt t x)) m := rfl
theorem s_pk {c : Operand} : sxH P w0 (.pk d c x y) t m K h_ = bindX (asB? (evt t c)) fun b => K (upd t d (if b then evt t x else evt t y)) m := by
  show stepX _ _ _ _ _ _ = _
  unfold stepX bindX
  apply propext
  constructor
  · rintro ⟨b, h, k⟩; exact ⟨b, by rw [h]; rfl, k⟩
  · rintro ⟨b, h, k⟩
    cases hv : evt t c <;> rw [hv] at h <;> cases h
    exact ⟨_, rfl, k⟩
theorem s_ld {k : Nat} {agg : Bool} : sxH P w0 (.ld d k agg x) t m K h_ = bindX (asPtr (evt t x)) fun p => bindX (row w0 m p.1) fun cs => guardX (p.2 + k ≤ cs.length) (K (upd t d (ldV agg ((cs.drop p.2).take k))) m) := by
  show stepX _ _ _ _ _ _ = _
  unfold stepX bindX guardX
  apply propext
  constructor
  · rintro ⟨n, o, cs, h, h2, h3, k⟩; exact ⟨(n, o), by rw [h]; rfl, cs, h2, h3, k⟩
  · rintro ⟨⟨n, o⟩, h, cs, h2, h3, k⟩
    refine ⟨n, o, cs, ?_, h2, h3, k⟩
    unfold asPtr at h; split at h
    · rename_i hv; cases h; exact hv
    · cases h
theorem s_st {k : Nat} : sxH P w0 (.st k x y) t m K h_ = bindX (asPtr (evt t x)) fun p => bindX (cellsOf m p.1) fun b => guardX ((evt t y).cells.toList.length = k ∧ ((evt t y).cells.toList.all oneC = true) ∧ p.2 + k ≤ b.1.length ∧ b.1.length ≤ b.2.1)
    (K t (m.set p.1 (.cells (b.1.take p.2 ++ (evt t y).cells.toList ++ b.1.drop (p.2 + k)) b.2.1 b.2.2))) := by
  show stepX _ _ _ _ _ _ = _
  unfold stepX bindX guardX
  apply propext
  constructor
  · rintro ⟨n, o, cs, size, e, h, h2, h3, h4, h5, h6, k⟩
    exact ⟨(n, o), by rw [h]; rfl, (cs, size, e), by simp [cellsOf, h2], ⟨h3, List.all_eq_true.2 h4, h5, h6⟩, k⟩
  · rintro ⟨⟨n, o⟩, h, ⟨cs, size, e⟩, h2, ⟨h3, h4, h5, h6⟩, k⟩
    refine ⟨n, o, cs, size, e, ?_, ?_, h3, List.all_eq_true.1 h4, h5, h6, k⟩
    · unfold asPtr at h; split at h
      · rename_i hv; cases h; exact hv
      · cases h
    · unfold cellsOf at h2; split at h2
      · rename_i hv; cases h2; exact hv
      · cases h2
theorem s_fa {off : Nat} : sxH P w0 (.fa d off x) t m K h_ = bindX (asPtr (evt t x)) fun p => K (upd t d (.pointer (some ⟨p.1, p.2 + off, Option.none⟩))) m := by
  show stepX _ _ _ _ _ _ = _
  unfold stepX bindX
  apply propext
  constructor
  · rintro ⟨n, o, h, k⟩; exact ⟨(n, o), by rw [h]; rfl, k⟩
  · rintro ⟨⟨n, o⟩, h, k⟩
    refine ⟨n, o, ?_, k⟩
    unfold asPtr at h; split at h
    · rename_i hv; cases h; exact hv
    · cases h
theorem s_nc : sxH P w0 (.nc d x) t m K h_ = bindX (asPtrA? (evt t x)) fun a => K (upd t d (.pointer (some a))) m := by
  show stepX _ _ _ _ _ _ = _
  unfold stepX bindX
  apply propext
  constructor
  · rintro ⟨a, h, k⟩; exact ⟨a, by rw [h]; rfl, k⟩
  · rintro ⟨a, h, k⟩
    refine ⟨a, ?_, k⟩
    unfold asPtrA? at h; split at h
    · rename_i hv; cases h; exact hv
    · cases h
theorem s_ia {es : Nat} : sxH P w0 (.ia d es x y) t m K h_ = bindX (asSl? (evt t x)) fun p => bindX (asInt? (evt t y)) fun j => guardX (0 ≤ j ∧ j < p.2.2.1) (K (upd t d (.pointer (some ⟨p.1, p.2.1 + j.toNat * es, Option.none⟩))) m) := by
  show stepX _ _ _ _ _ _ = _
  unfold stepX bindX guardX
  apply propext
  constructor
  · rintro ⟨n, o, l, c, k, j, h1, h2, h3, h4, k⟩; exact ⟨(n, o, l, c), by rw [h1]; rfl, j, by rw [h2]; rfl, ⟨h3, h4⟩, k⟩
  rintro ⟨⟨n, o, l, c⟩, h, j, h2, ⟨h3, h4⟩, k⟩
  unfold asSl? at h; split at h
  · rename_i hv; cases h
    unfold asInt? at h2; split at h2
    · rename_i hw; cases h2; exact ⟨_, _, _, _, _, _, hv, hw, h3, h4, k⟩
    · cases h2
  · cases h
theorem s_bo {op : BinOp} : sxH P w0 (.bo d op x y) t m K h_ = bindX (binV op (evt t x) (evt t y)) fun v => K (upd t d v) m := rfl
theorem s_bb {op : BinOp} : sxH P w0 (.bb d op x y) t m K h_ = bindX (boolV op (evt t x) (evt t y)) fun v => K (upd t d v) m := rfl
theorem s_se {neg : Bool} {ks : List CK} : sxH P w0 (.se d neg ks x y) t m K h_ = bindX (structV neg ks (evt t x) (evt t y)) fun v => K (upd t d v) m := rfl
theorem s_no : sxH P w0 (.no d x) t m K h_ = bindX (asB? (evt t x)) fun b => K (upd t d (.bool (!b))) m := by
  show stepX _ _ _ _ _ _ = _
  unfold stepX bindX
  apply propext
  constructor
  · rintro ⟨b, h, k⟩; exact ⟨b, by rw [h]; rfl, k⟩
  · rintro ⟨b, h, k⟩
    cases hv : evt t x <;> rw [hv] at h <;> cases h
    exact ⟨_, rfl, k⟩
theorem s_ln : sxH P w0 (.ln d x) t m K h_ = bindX (asSlA? (evt t x)) fun p => K (upd t d (.int .i64 p.2.1)) m := by
  show stepX _ _ _ _ _ _ = _
  unfold stepX bindX
  apply propext
  constructor
  · rintro ⟨a, n, c, h, k⟩; exact ⟨(a, n, c), by rw [h]; rfl, k⟩
  · rintro ⟨⟨a, n, c⟩, h, k⟩
    cases hv : evt t x <;> rw [hv] at h <;> cases h
    exact ⟨_, _, _, rfl, k⟩
theorem s_lns : sxH P w0 (.lns d x) t m K h_ = bindX (asStr? (evt t x)) fun s => K (upd t d (.int .i64 s.size)) m := by
  show stepX _ _ _ _ _ _ = _
  unfold stepX bindX
  apply propext
  constructor
  · rintro ⟨b, h, k⟩; exact ⟨b, by rw [h]; rfl, k⟩
  · rintro ⟨b, h, k⟩
    cases hv : evt t x <;> rw [hv] at h <;> cases h
    exact ⟨_, rfl, k⟩
theorem s_ex {i : Nat} : sxH P w0 (.ex d x i) t m K h_ = bindX (asTup? (evt t x)) fun vs => bindX vs[i]? fun v => K (upd t d v) m := by
  show stepX _ _ _ _ _ _ = _
  unfold stepX bindX
  apply propext
  constructor
  · rintro ⟨vs, v, h, h2, k⟩; exact ⟨vs, by rw [h]; rfl, v, h2, k⟩
  · rintro ⟨vs, h, v, h2, k⟩
    cases hv : evt t x <;> rw [hv] at h <;> cases h
    exact ⟨_, v, rfl, h2, k⟩
theorem s_ixs : sxH P w0 (.ixs d x y) t m K h_ = bindX (asStr? (evt t x)) fun s => bindX (asInt? (evt t y)) fun j => guardX (0 ≤ j) (bindX s[j.toNat]? fun b => K (upd t d (.int .u8 b.toNat)) m) := by
  show stepX _ _ _ _ _ _ = _
  unfold stepX bindX guardX
  apply propext
  constructor
  · rintro ⟨s, k, j, b, h1, h2, h3, h4, k⟩; exact ⟨s, by rw [h1]; rfl, j, by rw [h2]; rfl, h3, b, h4, k⟩
  · rintro ⟨s, h1, j, h2, h3, b, h4, k⟩
    cases hv : evt t x <;> rw [hv] at h1 <;> cases h1
    cases hw : evt t y <;> rw [hw] at h2 <;> cases h2
    exact ⟨_, _, _, b, rfl, rfl, h3, h4, k⟩
theorem s_cvi {k : IntKind} : sxH P w0 (.cvi d k x) t m K h_ = bindX (asInt? (evt t x)) fun j => K (upd t d (.int k (k.wrap j))) m := by
  show stepX _ _ _ _ _ _ = _
  unfold stepX bindX
  apply propext
  constructor
  · rintro ⟨k', j, h, k⟩; exact ⟨j, by rw [h]; rfl, k⟩
  · rintro ⟨j, h, k⟩
    cases hv : evt t x <;> rw [hv] at h <;> cases h
    exact ⟨_, _, rfl, k⟩
theorem s_ng : sxH P w0 (.ng d x) t m K h_ = bindX (asKInt? (evt t x)) fun p => K (upd t d (.int p.1 (p.1.wrap (0 - p.2)))) m := by
  show stepX _ _ _ _ _ _ = _
  unfold stepX bindX
  apply propext
  constructor
  · rintro ⟨k', j, h, k⟩; exact ⟨(k', j), by rw [h]; rfl, k⟩
  · rintro ⟨⟨k', j⟩, h, k⟩
    cases hv : evt t x <;> rw [hv] at h <;> cases h
    exact ⟨_, _, rfl, k⟩
theorem s_mn : sxH P w0 (.mn d x y) t m K h_ = bindX (asKInt? (evt t x)) fun p => bindX (asInt? (evt t y)) fun b => K (upd t d (.int p.1 (if b < p.2 then b else p.2))) m := by
  show stepX _ _ _ _ _ _ = _
  unfold stepX bindX
  apply propext
  constructor
  · rintro ⟨k1, k2, a, b, h, h2, k⟩; exact ⟨(k1, a), by rw [h]; rfl, b, by rw [h2]; rfl, k⟩
  · rintro ⟨⟨k1, a⟩, h, b, h2, k⟩
    cases hv : evt t x <;> rw [hv] at h <;> cases h
    cases hw : evt t y <;> rw [hw] at h2 <;> cases h2
    exact ⟨_, _, _, _, rfl, rfl, k⟩
theorem s_al {z : List Value} {e : TypeId} : sxH P w0 (.al d z e) t m K h_ = freshX w0 m fun n => K (upd t d (.pointer (some ⟨n, 0, Option.none⟩))) (m.set n (.cells z z.length e)) := rfl
theorem s_bx {e : TypeId} : sxH P w0 (.bx d e x) t m K h_ = freshX w0 m fun n => K (upd t d (.pointer (some ⟨n, 0, Option.none⟩))) (m.set n (.cells (evt t x).cells.toList (evt t x).cells.toList.length e)) := rfl
theorem s_ca {f : FuncId} {args : List Operand} : sxH P w0 (.ca d f args) t m K h_ = ACall P w0 f (args.map (evt t)).toArray m fun v m' => K (upd t d v) m' := rfl
theorem s_gd {s : Nat} {b : Bool} {u : U} : sxH P w0 (.gd s b d u) t m K h_ = gdX (t s) b (stepX P w0 u t m K) (K (upd t d undef) m) := by
  unfold gdX
  show (if wantT (some (some s, b)) t = true then _ else _) = _
  unfold wantT
  rfl
theorem s_ext {u : U} : sxH P w0 (.ext u) t m K h_ = stepX P w0 u t m fun t' m' => Ext m m' ∧ K t' m' := rfl
theorem s_nl {op : BinOp} : sxH P w0 (.nl d op x y) t m K h_ = bindX (asSlA? (evt t x)) fun p => bindX (nilV (.slice p.1 p.2.1 p.2.2) (evt t y)) fun b => bindX (nilN op b) fun v => K (upd t d v) m := by
  show stepX _ _ _ _ _ _ = _
  unfold stepX bindX
  apply propext
  constructor
  · rintro ⟨b, v, h1, ⟨a, n, c, h2⟩, h3, k⟩
    rw [h2] at h1
    exact ⟨(a, n, c), by rw [h2]; rfl, b, h1, v, h3, k⟩
  · rintro ⟨⟨a, n, c⟩, h, b, h1, v, h3, k⟩
    cases hv : evt t x <;> rw [hv] at h <;> cases h
    exact ⟨b, v, h1, ⟨_, _, _, rfl⟩, h3, k⟩
theorem s_bd {z : List Value} {ps : List (Nat × Nat × Operand)} : sxH P w0 (.bd d z ps) t m K h_ = spl t z ps fun cs => K (upd t d (.agg cs.toArray)) m := rfl
theorem s_bs {k : Nat} {e : TypeId} {z : List Value} {ps : List (Nat × Nat × Operand)} : sxH P w0 (.bs d k e z ps) t m K h_ = spl t z ps fun cs => freshX w0 m fun n => K (upd t d (.slice (some ⟨n, 0, Option.none⟩) k k)) (m.set n (.cells cs cs.length e)) := rfl
theorem s_fl {off size : Nat} {agg : Bool} : sxH P w0 (.fl d off size agg x) t m K h_ = bindX (asAgg? (evt t x)) fun cs => guardX (off + size ≤ cs.size) (K (upd t d (ldV agg ((cs.toList.drop off).take size))) m) := by
  show stepX _ _ _ _ _ _ = _
  unfold stepX bindX guardX
  apply propext
  constructor
  · rintro ⟨cs, h, h2, k⟩; exact ⟨cs, by rw [h]; rfl, h2, k⟩
  · rintro ⟨cs, h, h2, k⟩
    cases hv : evt t x <;> rw [hv] at h <;> cases h
    exact ⟨_, rfl, h2, k⟩
theorem s_sl {es : Nat} {lo hi mx : Option Operand} : sxH P w0 (.sl d es x lo hi mx) t m K h_ = bindX (asSlA? (evt t x)) fun p => bindX (bnd t lo 0) fun l => bindX (bnd t hi p.2.1) fun h => bindX (bnd t mx p.2.2) fun k => guardX (l ≤ h ∧ h ≤ k ∧ k ≤ p.2.2)
    (K (upd t d (.slice (if k = l then p.1 else p.1.map (·.add (l * es))) (h - l) (k - l))) m) := by
  show stepX _ _ _ _ _ _ = _
  unfold stepX bindX guardX
  apply propext
  constructor
  · rintro ⟨a, n, c, l, h, k, h1, h2, h3, h4, h5, h6, h7, hk⟩; exact ⟨(a, n, c), by rw [h1]; rfl, l, h2, h, h3, k, h4, ⟨h5, h6, h7⟩, hk⟩
  · rintro ⟨⟨a, n, c⟩, h1, l, h2, h, h3, k, h4, ⟨h5, h6, h7⟩, hk⟩
    cases hv : evt t x <;> rw [hv] at h1 <;> cases h1
    exact ⟨_, _, _, l, h, k, rfl, h2, h3, h4, h5, h6, h7, hk⟩
theorem s_sls {lo hi : Option Operand} : sxH P w0 (.sls d x lo hi) t m K h_ = bindX (asStr? (evt t x)) fun s => bindX (bnd t lo 0) fun l => bindX (bnd t hi s.size) fun h => guardX (l ≤ h ∧ h ≤ s.size)
    (K (upd t d (.string (s.extract l h))) m) := by
  show stepX _ _ _ _ _ _ = _
  unfold stepX bindX guardX
  apply propext
  constructor
  · rintro ⟨s, l, h, h1, h2, h3, h5, h6, hk⟩; exact ⟨s, by rw [h1]; rfl, l, h2, h, h3, ⟨h5, h6⟩, hk⟩
  · rintro ⟨s, h1, l, h2, h, h3, ⟨h5, h6⟩, hk⟩
    cases hv : evt t x <;> rw [hv] at h1 <;> cases h1
    exact ⟨_, l, h, rfl, h2, h3, h5, h6, hk⟩
theorem s_mks {es : Nat} {e : TypeId} {z : List Value} : sxH P w0 (.mks d es e z x y) t m K h_ = bindX (asNat? (evt t x)) fun l => bindX (asNat? (evt t y)) fun c => guardX (l ≤ c ∧ c ≤ 2 ^ 28)
    (freshX w0 m fun n => K (upd t d (.slice (some ⟨n, 0, Option.none⟩) l c)) (m.set n (.cells (reps z c) (c * es) e))) := by
  show stepX _ _ _ _ _ _ = _
  unfold stepX bindX guardX freshX
  apply propext
  have hn : ∀ {v : Value} {n : Nat}, asNat? v = some n → ∃ k, v = .int k (Int.ofNat n) := fun {v n} h => by
    unfold asNat? at h; split at h
    · split at h
      · cases h
        rename_i h0
        exact ⟨_, by rw [show Int.ofNat (Int.toNat _) = _ from Int.toNat_of_nonneg h0]⟩
      · cases h
    · cases h
  constructor
  · rintro ⟨kx, ky, l, c, h1, h2, h3, h4, k⟩
    exact ⟨l, by rw [h1]; simp [asNat?], c, by rw [h2]; simp [asNat?], ⟨h3, h4⟩, k⟩
  · rintro ⟨l, h1, c, h2, ⟨h3, h4⟩, k⟩
    obtain ⟨kx, e1⟩ := hn h1
    obtain ⟨ky, e2⟩ := hn h2
    exact ⟨kx, ky, l, c, e1, e2, h3, h4, k⟩
theorem s_ap {es : Nat} {e : TypeId} : sxH P w0 (.ap d es e x y) t m K h_ = apX w0 m es e (evt t x) (evt t y) fun v m' => K (upd t d v) m' := rfl
theorem s_cbs : sxH P w0 (.cbs d x) t m K h_ = cbsX w0 m (evt t x) fun v => K (upd t d v) m := rfl

theorem x_skip : xwH P w0 .skip t m Q g_ = Q .norm t m := rfl
theorem x_ops {l : List U} : xwH P w0 (.ops l) t m Q g_ = stepsX P w0 l t m (Q .norm) := rfl
theorem x_seq {a b : XC} : xwH P w0 (.seq a b) t m Q g_ = xwp P w0 a t m (thenX (fun t' m' => xwp P w0 b t' m' Q) Q) := rfl
theorem x_cond {c : Operand} {a b : XC} : xwH P w0 (.cond c a b) t m Q g_ = condX (evt t c) (xwp P w0 a t m Q) (xwp P w0 b t m Q) := rfl
theorem x_block {id : Nat} {a : XC} : xwH P w0 (.block id a) t m Q g_ = xwp P w0 a t m (blockX id Q) := rfl
theorem x_loop {a : XC} : xwH P w0 (.loop a) t m Q g_ = loopX P w0 a t m Q := rfl
theorem x_exit {id : Nat} : xwH P w0 (.exit id) t m Q g_ = Q (.exit id) t m := rfl
theorem x_inv {l : List (U × List Nat)} : xwH P w0 (.inv l) t m Q g_ = invX P w0 l t m Q := rfl
theorem x_ret : xwH P w0 .ret t m Q g_ = Q .ret t m := rfl
theorem t_norm {N : Tm → Frag → Prop} : thenX N Q .norm t m = N t m := rfl
theorem t_exit {N : Tm → Frag → Prop} {i : Nat} : thenX N Q (.exit i) t m = Q (.exit i) t m := rfl
theorem t_ret {N : Tm → Frag → Prop} : thenX N Q .ret t m = Q .ret t m := rfl
theorem b_norm {i : Nat} : blockX i Q .norm t m = Q .norm t m := rfl
theorem b_exit {i j : Nat} : blockX i Q (.exit j) t m = if j = i then Q .norm t m else Q (.exit j) t m := rfl
theorem b_ret {i : Nat} : blockX i Q .ret t m = Q .ret t m := rfl
theorem p_norm {rs : List RX} {R : Value → Frag → Prop} : postX w0 rs R .norm t m = bindX (rxAll w0 m t rs) fun v => weakX m (R v) := by simp [postX, bindX]
theorem p_ret {rs : List RX} {R : Value → Frag → Prop} : postX w0 rs R .ret t m = bindX (rxAll w0 m t rs) fun v => weakX m (R v) := by simp [postX, bindX]
theorem rx_1 {i : Nat} : rxAll w0 m t [.tmp i] = some (t i) := rfl
theorem rx_c {i size : Nat} {agg : Bool} : rxAll w0 m t [.cell i size agg] = (asPtr (t i)).bind fun p => (row w0 m p.1).bind fun cs => if p.2 + size ≤ cs.length then some (ldV agg ((cs.drop p.2).take size)) else Option.none := by
  have h1 : rxAll w0 m t [.cell i size agg] = ((rxV w0 m t (.cell i size agg)).bind fun v => some [v]).map fun
    | [v] => v
    | vs => .tuple vs.toArray := rfl
  rw [h1]
  show _ = rxV w0 m t (.cell i size agg)
  cases rxV w0 m t (.cell i size agg) <;> rfl
theorem rx_n {a b : RX} {l : List RX} : rxAll w0 m t (a :: b :: l) = (rxVs w0 m t (a :: b :: l)).map fun vs => .tuple vs.toArray := by
  have hl : ∀ (k : List RX) (vs : List Value), rxVs w0 m t k = some vs → vs.length = k.length := by
    intro k
    induction k with
    | nil => intro vs h; cases h; rfl
    | cons c k ih =>
      intro vs h
      simp only [rxVs, Option.bind_eq_some_iff, Option.some.injEq] at h
      obtain ⟨v, _, us, hus, rfl⟩ := h
      simp [ih us hus]
  unfold rxAll
  cases h : rxVs w0 m t (a :: b :: l) with
  | none => rfl
  | some vs =>
    have := hl _ _ h
    match vs, this with
    | x :: y :: r, _ => rfl
theorem rxs_nil : rxVs w0 m t [] = some [] := rfl
theorem rxs_cons {a : RX} {l : List RX} : rxVs w0 m t (a :: l) = (rxV w0 m t a).bind fun v => (rxVs w0 m t l).bind fun vs => some (v :: vs) := rfl
theorem rxv_t {i : Nat} : rxV w0 m t (.tmp i) = some (t i) := rfl
theorem rxv_c {i size : Nat} {agg : Bool} : rxV w0 m t (.cell i size agg) = (asPtr (t i)).bind fun p => (row w0 m p.1).bind fun cs => if p.2 + size ≤ cs.length then some (ldV agg ((cs.drop p.2).take size)) else Option.none := rfl
theorem arr_0 {a : Value} {l : List Value} : (a :: l).toArray[0]? = some a := by simp
theorem arr_s {a : Value} {l : List Value} {n : Nat} : (a :: l).toArray[n + 1]? = l.toArray[n]? := by simp
theorem u_some {v : Value} {i j : Nat} : upd t (some i) v j = if j = i then v else t j := rfl
theorem u_none {v : Value} : upd t Option.none v = t := rfl
theorem e_tmp {i : Nat} : evt t (.tmp i) = t i := rfl
theorem e_const {v : Value} : evt t (.const v) = v := rfl
theorem n_none {k : Nat} : bnd t Option.none k = some k := rfl
theorem n_some {k : Nat} : bnd t (some x) k = asNat? (evt t x) := rfl
end

/-- The rows of the run; and those that come ahead of the look inside. -/
def xrun := And.intro @s_mv <| And.intro @s_pk <| And.intro @s_ld <| And.intro @s_st <| And.intro @s_fa <| And.intro @s_nc <| And.intro @s_ia <| And.intro @s_bo <| And.intro @s_bb <| And.intro @s_se <| And.intro @s_no <| And.intro @s_ln <| And.intro @s_lns <| And.intro @s_ex <| And.intro @s_ixs <| And.intro @s_cvi <| And.intro @s_ng <| And.intro @s_mn <| And.intro @s_al <| And.intro @s_bx <| And.intro @s_ca <| And.intro @s_gd <| And.intro @s_ext <| And.intro @s_nl <| And.intro @s_bd <| And.intro @s_bs <| And.intro @s_fl <| And.intro @s_sl <| And.intro @s_sls <| And.intro @s_mks <| And.intro @s_ap <| And.intro @s_cbs <| And.intro @rx_1 <| And.intro @rx_c <| And.intro @rx_n <| And.intro @rxs_nil <| And.intro @rxs_cons <| And.intro @rxv_t <| And.intro @rxv_c <| And.intro @arr_0 <| And.intro @arr_s <| And.intro @u_some <| And.intro @u_none <| And.intro @e_tmp <| And.intro @e_const <| And.intro @n_none <| And.intro @n_some <| And.intro @stepX_nil <| And.intro @stepX_cons <| And.intro @bindH_some <| And.intro @guardH_true <| And.intro @condH_true <| And.intro @condH_false <| And.intro @gdH_tt <| And.intro @gdH_ff <| And.intro @gdH_tf <| And.intro @gdH_ft <| And.intro @gdH_u <| And.intro @spl_nil <| And.intro @spl_cons <| And.intro @x_skip <| And.intro @x_ops <| And.intro @x_seq <| And.intro @x_cond <| And.intro @x_block <| And.intro @x_loop <| And.intro @x_exit <| And.intro @x_inv <| @x_ret
def xpre := And.intro @h_bind <| And.intro @h_guard <| And.intro @h_fresh <| And.intro @h_cond <| And.intro @h_gd <| And.intro @h_xw <| And.intro @h_loop <| And.intro @h_sxs <| And.intro @h_sx <| And.intro @h_call <| And.intro @h_inv <| And.intro @h_wk <| And.intro @h_spl <| And.intro @h_ap <| And.intro @h_cbs <| And.intro @t_norm <| And.intro @t_exit <| And.intro @t_ret <| And.intro @b_norm <| And.intro @b_exit <| And.intro @b_ret <| And.intro @p_norm <| @p_ret

end Go.Proofs.YtemaflbbcihilaaDoor.Fl

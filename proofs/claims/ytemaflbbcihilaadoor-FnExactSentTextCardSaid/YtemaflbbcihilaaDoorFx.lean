/- The fragment logic's plain operations: what each asks and what it leaves, and that a function's code is told by them. No conditions. -/
import Derived.Test.YtemaflbbcihilaaDoorFe
namespace Go.Proofs.YtemaflbbcihilaaDoor.Fl
open Go Go.RowKit
set_option linter.unusedSimpArgs false
set_option linter.unusedVariables false

/-- A text by its bytes. -/
def bys (l : List Nat) : ByteArray := ⟨(l.map UInt8.ofNat).toArray⟩

inductive U where
  | raw (f : FOp)
  | mv (d : Option Nat) (x : Operand)
  | pk (d : Option Nat) (c a b : Operand)
  | ld (d : Option Nat) (k : Nat) (agg : Bool) (x : Operand)
  | st (k : Nat) (x v : Operand)
  | fa (d : Option Nat) (off : Nat) (x : Operand)
  | ia (d : Option Nat) (es : Nat) (x i : Operand)
  | bo (d : Option Nat) (op : BinOp) (x y : Operand)
  | no (d : Option Nat) (x : Operand)
  | ln (d : Option Nat) (x : Operand)
  | lns (d : Option Nat) (x : Operand)
  | ex (d : Option Nat) (x : Operand) (i : Nat)
  | nc (d : Option Nat) (x : Operand)
  | ixs (d : Option Nat) (x i : Operand)
  | cvi (d : Option Nat) (k : IntKind) (x : Operand)
  | al (d : Option Nat) (z : List Value) (e : TypeId)
  | bx (d : Option Nat) (e : TypeId) (x : Operand)
  | ca (d : Option Nat) (f : FuncId) (args : List Operand)
  | bb (d : Option Nat) (op : BinOp) (x y : Operand)
  | nl (d : Option Nat) (op : BinOp) (x y : Operand)
  | ng (d : Option Nat) (x : Operand)
  | bd (d : Option Nat) (z : List Value) (ps : List (Nat × Nat × Operand))
  | fl (d : Option Nat) (off size : Nat) (agg : Bool) (x : Operand)
  | sl (d : Option Nat) (es : Nat) (x : Operand) (lo hi mx : Option Operand)
  | sls (d : Option Nat) (x : Operand) (lo hi : Option Operand)
  | bs (d : Option Nat) (k : Nat) (e : TypeId) (z : List Value) (ps : List (Nat × Nat × Operand))
  | mks (d : Option Nat) (es : Nat) (e : TypeId) (z : List Value) (x y : Operand)
  | ap (d : Option Nat) (es : Nat) (e : TypeId) (x y : Operand)
  | cbs (d : Option Nat) (x : Operand)
  | mn (d : Option Nat) (x y : Operand)
  | se (d : Option Nat) (neg : Bool) (ks : List CK) (x y : Operand)
  | gd (s : Nat) (b : Bool) (d : Option Nat) (u : U)
  | ext (u : U)

def stepX (P : Program) (w0 : World) : U → Tm → Frag → KU → Prop
  | .raw f, t, m, K => stepU P w0 f t m K
  | .mv d x, t, m, K => K (upd t d (evt t x)) m
  | .pk d c a b, t, m, K => ∃ b0, evt t c = .bool b0 ∧ K (upd t d (if b0 then evt t a else evt t b)) m
  | .ld d k agg x, t, m, K => ∃ n o cs, evt t x = .pointer (some ⟨n, o, Option.none⟩) ∧ row w0 m n = some cs ∧ o + k ≤ cs.length ∧ K (upd t d (ldV agg ((cs.drop o).take k))) m
  | .st k x v, t, m, K => ∃ n o cs size e, evt t x = .pointer (some ⟨n, o, Option.none⟩) ∧ m n = some (.cells cs size e) ∧ (evt t v).cells.toList.length = k ∧ (∀ u ∈ (evt t v).cells.toList, oneC u = true) ∧ o + k ≤ cs.length ∧ cs.length ≤ size ∧
      K t (m.set n (.cells (cs.take o ++ (evt t v).cells.toList ++ cs.drop (o + k)) size e))
  | .fa d off x, t, m, K => ∃ n o, evt t x = .pointer (some ⟨n, o, Option.none⟩) ∧ K (upd t d (.pointer (some ⟨n, o + off, Option.none⟩))) m
  | .ia d es x i, t, m, K => ∃ n o len cap k j, evt t x = .slice (some ⟨n, o, Option.none⟩) len cap ∧ evt t i = .int k j ∧ 0 ≤ j ∧ j < len ∧ K (upd t d (.pointer (some ⟨n, o + j.toNat * es, Option.none⟩))) m
  | .bo d op x y, t, m, K => ∃ v, binV op (evt t x) (evt t y) = some v ∧ K (upd t d v) m
  | .no d x, t, m, K => ∃ b, evt t x = .bool b ∧ K (upd t d (.bool (!b))) m
  | .ln d x, t, m, K => ∃ a n c, evt t x = .slice a n c ∧ K (upd t d (.int .i64 n)) m
  | .lns d x, t, m, K => ∃ s, evt t x = .string s ∧ K (upd t d (.int .i64 s.size)) m
  | .ex d x i, t, m, K => ∃ vs v, evt t x = .tuple vs ∧ vs[i]? = some v ∧ K (upd t d v) m
  | .nc d x, t, m, K => ∃ a, evt t x = .pointer (some a) ∧ K (upd t d (.pointer (some a))) m
  | .ixs d x i, t, m, K => ∃ s k j b, evt t x = .string s ∧ evt t i = .int k j ∧ 0 ≤ j ∧ s[j.toNat]? = some b ∧ K (upd t d (.int .u8 b.toNat)) m
  | .cvi d k x, t, m, K => ∃ k' j, evt t x = .int k' j ∧ K (upd t d (.int k (k.wrap j))) m
  | .al d z e, t, m, K => ∀ n, w0.heap.size ≤ n → m n = Option.none → K (upd t d (.pointer (some ⟨n, 0, Option.none⟩))) (m.set n (.cells z z.length e))
  | .bx d e x, t, m, K => ∀ n, w0.heap.size ≤ n → m n = Option.none → K (upd t d (.pointer (some ⟨n, 0, Option.none⟩))) (m.set n (.cells (evt t x).cells.toList (evt t x).cells.toList.length e))
  | .ca d f args, t, m, K => ACall P w0 f (args.map (evt t)).toArray m fun v m' => K (upd t d v) m'
  | .bb d op x y, t, m, K => ∃ v, boolV op (evt t x) (evt t y) = some v ∧ K (upd t d v) m
  | .nl d op x y, t, m, K => ∃ b v, nilV (evt t x) (evt t y) = some b ∧ (∃ a n c, evt t x = .slice a n c) ∧ nilN op b = some v ∧ K (upd t d v) m
  | .ng d x, t, m, K => ∃ k i, evt t x = .int k i ∧ K (upd t d (.int k (k.wrap (0 - i)))) m
  | .bd d z ps, t, m, K => spl t z ps fun cs => K (upd t d (.agg cs.toArray)) m
  | .fl d off size agg x, t, m, K => ∃ cs, evt t x = .agg cs ∧ off + size ≤ cs.size ∧ K (upd t d (ldV agg ((cs.toList.drop off).take size))) m
  | .sl d es x lo hi mx, t, m, K => ∃ a len cap l h k, evt t x = .slice a len cap ∧ bnd t lo 0 = some l ∧ bnd t hi len = some h ∧ bnd t mx cap = some k ∧ l ≤ h ∧ h ≤ k ∧ k ≤ cap ∧
      K (upd t d (.slice (if k = l then a else a.map (·.add (l * es))) (h - l) (k - l))) m
  | .sls d x lo hi, t, m, K => ∃ s l h, evt t x = .string s ∧ bnd t lo 0 = some l ∧ bnd t hi s.size = some h ∧ l ≤ h ∧ h ≤ s.size ∧ K (upd t d (.string (s.extract l h))) m
  | .bs d k e z ps, t, m, K => spl t z ps fun cs => ∀ n, w0.heap.size ≤ n → m n = Option.none → K (upd t d (.slice (some ⟨n, 0, Option.none⟩) k k)) (m.set n (.cells cs cs.length e))
  | .mks d es e z x y, t, m, K => ∃ kx ky l c, evt t x = .int kx (Int.ofNat l) ∧ evt t y = .int ky (Int.ofNat c) ∧ l ≤ c ∧ c ≤ 2 ^ 28 ∧
      ∀ n, w0.heap.size ≤ n → m n = Option.none → K (upd t d (.slice (some ⟨n, 0, Option.none⟩) l c)) (m.set n (.cells (reps z c) (c * es) e))
  | .ap d es e x y, t, m, K => ∃ k n cs ys, ownS w0 m es e (evt t x) k cs ∧ srcS w0 m es (evt t y) n ys ∧ (∀ y ∈ ys, oneC y = true) ∧ k + n ≤ 2 ^ 34 ∧
      (isNilS (evt t x) = true → n = 0 → K (upd t d (.slice Option.none 0 0)) m) ∧
      ((isNilS (evt t x) = true → n ≠ 0) → ∀ b c rest, w0.heap.size ≤ b → delS m (evt t x) b = Option.none → k + n ≤ c → (cs ++ ys).length + rest.length = c * es →
        K (upd t d (.slice (some ⟨b, 0, Option.none⟩) (k + n) c)) ((delS m (evt t x)).set b (.cells (cs ++ ys ++ rest) (c * es) e)))
  | .cbs d x, t, m, K => ∃ (n : Nat) (bs : List UInt8), (∃ a n c, evt t x = .slice a n c) ∧ srcS w0 m 1 (evt t x) n (bs.map byteV) ∧ K (upd t d (.string ⟨bs.toArray⟩)) m
  | .mn d x y, t, m, K => ∃ k k' a b, evt t x = .int k a ∧ evt t y = .int k' b ∧ K (upd t d (.int k (if b < a then b else a))) m
  | .se d neg ks x y, t, m, K => ∃ v, structV neg ks (evt t x) (evt t y) = some v ∧ K (upd t d v) m
  | .gd s b d u, t, m, K => if wantT (some (some s, b)) t then stepX P w0 u t m K else K (upd t d undef) m
  | .ext u, t, m, K => stepX P w0 u t m fun t' m' => Ext m m' ∧ K t' m'

/-- May a function be entered? -/
def goodF (P : Program) (g : FuncId) : Bool := match P.funcs[g]? with
  | some fn => fn.name != "runtime.NumGoroutine" && fn.body.isSome
  | Option.none => false

def plainD : TypeDesc → Bool
  | .int _ | .string => true
  | _ => false

def lower1 (P : Program) (f : FOp) : U :=
  if f.q then match f.op with
    | .move x | .assign x => .mv f.dst x
    | .pick c a b => .pk f.dst c a b
    | .load T x => if f.pu then .raw f else match P.underlying T, P.info? T with
      | some d, some i => if isAggD d || i.size == 1 then .ld f.dst i.size (isAggD d) x else .raw f
      | _, _ => .raw f
    | .nilCheck x => .nc f.dst x
    | .fieldAddr s x fi => match P.underlying s with
      | some (.struct fs) => match fs[fi]? with
        | some fd => match P.info? fd.type with
          | some i => if i.size = 0 then .raw f else .fa f.dst fd.offset x
          | Option.none => .raw f
        | Option.none => .raw f
      | _ => .raw f
    | .indexAddr T x i => match P.underlying T with
      | some (.slice e) => match P.info? e with
        | some j => .ia f.dst j.size x i
        | Option.none => .raw f
      | _ => .raw f
    | .binOp op T x y _ => match P.underlying T with
      | some d => if plainD d then .bo f.dst op x y else match d with
        | .bool => .bb f.dst op x y
        | .slice _ => .nl f.dst op x y
        | .struct _ => match op, seOf P T with
          | .eql, some ks => .se f.dst false ks x y
          | .neq, some ks => .se f.dst true ks x y
          | _, _ => .raw f
        | _ => .raw f
      | Option.none => .raw f
    | .unOp .not _ x => .no f.dst x
    | .unOp .neg T x => match P.underlying T with
      | some (.int _) => .ng f.dst x
      | _ => .raw f
    | .build T ps => match bdOf P T ps with
      | some (z, qs) => .bd f.dst z qs
      | Option.none => .raw f
    | .field T x fi => match flOf P T fi with
      | some (off, size, agg) => .fl f.dst off size agg x
      | Option.none => .raw f
    | .slice T x lo hi mx => match P.underlying T with
      | some .string => if mx.isNone then .sls f.dst x lo hi else .raw f
      | some (.slice e) => match P.info? e with
        | some j => if hi.isSome || mx.isNone then .sl f.dst j.size x lo hi mx else .raw f
        | Option.none => .raw f
      | _ => .raw f
    | .extract x i => .ex f.dst x i
    | .call { callee := .builtin .len, args, argTypes } => match args.toList, argTypes.toList with
      | [x], [T] => match P.underlying T with
        | some .string => .lns f.dst x
        | some (.slice _) => .ln f.dst x
        | _ => .raw f
      | _, _ => .raw f
    | .index T x i => match P.underlying T with
      | some .string => .ixs f.dst x i
      | _ => .raw f
    | .convert S T x => match P.underlying S, P.underlying T with
      | some (.int _), some (.int k) => .cvi f.dst k x
      | _, _ => if f.pu then .raw f else if cbsOf P S T then .cbs f.dst x else .raw f
    | .call { callee := .builtin .min, args, .. } => match args.toList with
      | [x, y] => .mn f.dst x y
      | _ => .raw f
    | _ => .raw f
  else match f.op with
    | .alloc T => match P.info? T with
      | some i => match i.zero with
        | some z => .al f.dst z.cells.toList T
        | Option.none => .raw f
      | Option.none => .raw f
    | .box T x => .bx f.dst T x
    | .store T x v => match P.info? T, f.dst with
      | some i, Option.none => .st i.size x v
      | _, _ => .raw f
    | .buildSlice T k ps => match bsOf P T k ps with
      | some (e, z, qs) => .bs f.dst k e z qs
      | Option.none => .raw f
    | .makeSlice T x y => match elOf P T with
      | some (es, e, z) => .mks f.dst es e z x y
      | Option.none => .raw f
    | .call { callee := .builtin .append, args, argTypes } => match args.toList, argTypes.toList with
      | [x, y], [T, X] => match elOf P T, P.underlying X with
        | some (es, e, _), some dX => if plainSrc dX then .ap f.dst es e x y else .raw f
        | _, _ => .raw f
      | _, _ => .raw f
    | .call { callee := .value (.func g), args, .. } => if goodF P g then .ca f.dst g args.toList else .raw f
    | _ => .raw f

def wrapX (f : FOp) (u : U) : U := match f.gd with
  | Option.none => if f.ext then .ext u else u
  | some (some s, b) => .gd s b f.dst (if f.ext then .ext u else u)
  | some (Option.none, _) => .raw f

def isRaw : U → Bool
  | .raw _ => true
  | _ => false

def lower (P : Program) (f : FOp) : U := if isRaw (lower1 P f) then .raw f else wrapX f (lower1 P f)

/-- What an operation comes to, its guard and its price aside. -/
def coreU (P : Program) (w0 : World) (f : FOp) (t : Tm) (m : Frag) (K : KU) : Prop :=
  if f.q then ∃ v, qv P w0 (if f.pu then Frag.none else m) t f.op f.ty = some v ∧ K (upd t f.dst v) m
  else act P w0 m t f.op f.ty fun v m' => K (upd t f.dst v) m'

theorem coreU_q {P : Program} {w0 : World} {f : FOp} {t : Tm} {m : Frag} {K : KU} (hq : f.q = true) {v : Value} (hv : ∀ M, qv P w0 M t f.op f.ty = some v) (hk : K (upd t f.dst v) m) : coreU P w0 f t m K := by
  unfold coreU; rw [if_pos hq]; exact ⟨v, hv _, hk⟩

theorem alloc_sx {P : Program} {w0 : World} {t : Tm} {T ty : TypeId} {i : TypeInfo} {z : Value} (hi : P.info? T = some i) (hz : i.zero = some z) (m : Frag) (R : Next → Frag → Prop) :
    SX P w0 (execF (evt t) (.alloc T) ty) m R ↔ ∀ n, w0.heap.size ≤ n → m n = Option.none → R (.value (.pointer (some ⟨n, 0, Option.none⟩))) (m.set n (.cells z.cells.toList z.cells.toList.length T)) := by
  have : execF (evt t) (.alloc T) ty = Sem.bind (Instr.alloc T true (.tuple #[])) fun v => Sem.pure (.value v) := rfl
  rw [this, SX_bind]
  show SX P w0 (Sem.bind (Sem.bind (typeInfo T) _) _) m _ ↔ _
  rw [SX_bind, SX_bind]
  show SX P w0 (match P.info? T with
    | some i => pure i
    | Option.none => stuck "no such type") m _ ↔ _
  rw [hi]
  show SX P w0 (match i.zero with
    | some v => pure v
    | Option.none => unsupported (.resourceLimit "a value of more than 2^22 cells")) m _ ↔ _
  rw [hz]
  show (((0, 0) : Nat × Nat) = (0, 0) ∧ ∀ n, _ → _ → _) ↔ _
  simp only [true_and, Array.length_toList]
  exact Iff.rfl

theorem box_sx {P : Program} {w0 : World} {t : Tm} {T ty : TypeId} {x : Operand} (m : Frag) (R : Next → Frag → Prop) :
    SX P w0 (execF (evt t) (.box T x) ty) m R ↔ ∀ n, w0.heap.size ≤ n → m n = Option.none → R (.value (.pointer (some ⟨n, 0, Option.none⟩))) (m.set n (.cells (evt t x).cells.toList (evt t x).cells.toList.length T)) := by
  have : execF (evt t) (.box T x) ty = Sem.new (.cells (evt t x).cells T) fun n => Sem.pure (.value (.pointer (some ⟨n, 0, Option.none⟩))) := rfl
  rw [this]
  simp only [SX, Array.length_toList, true_and]

theorem act_pure {P : Program} {w0 : World} {m : Frag} {t : Tm} {op : Op} {ty : TypeId} {R : Value → Frag → Prop} (hk : newK op = false)
    (h : SX P w0 (execF (evt t) op ty) m fun nx m' => match nx with
      | .value v => R v m'
      | .skip => R undef m'
      | .enter g args => ACall P w0 g args m' R
      | _ => False) : act P w0 m t op ty R := by
  refine SX_mono _ h fun nx m' hn => ?_
  cases nx <;> first | exact ⟨m', Ext.refl _, fun _ => rfl, hn⟩ | exact ⟨m', Ext.refl _, hn⟩ | exact hn | exact hn.elim

theorem callFunc_x {P : Program} {w0 : World} {m : Frag} {g : FuncId} {args : Array Value} {R : Next → Frag → Prop} (h : goodF P g = true) (hR : R (.enter g args) m) : SX P w0 (callFunc g args) m R := by
  unfold goodF at h
  show SX P w0 (match P.funcs[g]? with
    | Option.none => stuck "call: no such function"
    | some fn => _) m R
  cases hf : P.funcs[g]? with
  | none => rw [hf] at h; cases h
  | some fn =>
    rw [hf] at h
    simp only [Bool.and_eq_true, bne_iff_ne] at h
    have h1 : (fn.name == "runtime.NumGoroutine") = false := by simpa using h.1
    have h2 : fn.body.isNone = false := by simpa [Option.isSome_iff_ne_none] using h.2
    simp only [h1, h2, Bool.false_eq_true, if_false]
    exact hR

theorem SX_q' {P : Program} {w0 : World} {m : Frag} {s : Sem Value} {R : Value → Frag → Prop} (h : SX P w0 s m R) : SX P w0 (Sem.bind s fun v => Sem.pure (Next.value v)) m fun nx m' => match nx with
    | .value v => R v m'
    | _ => False := by
  rw [SX_bind]; exact h

theorem lower1_sound {P : Program} {w0 : World} {f : FOp} {t : Tm} {m : Frag} {K : KU} (hr : isRaw (lower1 P f) = false) (h : stepX P w0 (lower1 P f) t m K) : coreU P w0 f t m K := by
  unfold lower1 at hr h
  by_cases hq : f.q = true
  · rw [if_pos hq] at hr h
    cases hop : f.op <;> simp only [hop] at hr h <;> try (simp only [isRaw, Bool.true_eq_false] at hr; done)
    case move x => exact coreU_q hq (fun M => by rw [hop]; rfl) h
    case assign x => exact coreU_q hq (fun M => by rw [hop]; rfl) h
    case pick c a b =>
      obtain ⟨b0, hb, h⟩ := h
      refine coreU_q hq (fun M => ?_) h
      rw [hop]
      have he : execF (evt t) (.pick c a b) f.ty = Sem.bind (asBool (evt t c)) fun z => Sem.pure (.value (if z then evt t a else evt t b)) := rfl
      unfold qv; rw [he, hb, SQ_bind]; rfl
    case load T x =>
      split at h
      · rename_i hp; rw [if_pos hp] at hr; cases hr
      · rename_i hp
        rw [if_neg hp] at hr
        split at h
        · rename_i d i hd hi
          simp only [hd, hi] at hr
          split at h
          · rename_i hc
            obtain ⟨n, o, cs, hx, hrow, hle, hk⟩ := h
            unfold coreU
            rw [if_pos hq, if_neg hp]
            refine ⟨_, ?_, hk⟩
            rw [hop]
            refine qv_of (s := Instr.loadAt T (evt t x)) rfl ?_
            rw [hx]
            exact loadVar_q hd hi (by simpa using hc) hrow hle
          · rename_i hc; rw [if_neg hc] at hr; cases hr
        · rename_i h1; split at hr
          · rename_i d i hd hi; exact absurd hi (h1 d i hd)
          · cases hr
    case nilCheck x =>
      obtain ⟨a, ha, h⟩ := h
      refine coreU_q hq (fun M => ?_) h
      rw [hop]
      have he : execF (evt t) (.nilCheck x) f.ty = (match evt t x with
        | .pointer Option.none | .nilIface | .nilFunc => runtimePanic .nilDeref
        | .func (.method name) first captured => (execF (evt t) (.nilCheck x) f.ty)
        | x => pure (.value x)) := by
        rw [ha]; show execOp _ _ = _; simp only [execOp, ha]
      unfold qv; rw [he, ha]; rfl
    case fieldAddr s x fi =>
      split at h
      · rename_i fs hs
        split at h
        · rename_i fd hfd
          split at h
          · rename_i i hi
            split at h
            · rename_i h0; simp only [hs, hfd, hi, h0, if_true, isRaw, Bool.true_eq_false] at hr
            · rename_i h0
              obtain ⟨n, o, hx, h⟩ := h
              refine coreU_q hq (fun M => ?_) h
              rw [hop]
              refine qv_of (s := Instr.fieldAt s (evt t x) fi) rfl ?_
              rw [hx]
              show SQ P w0 M (Sem.bind (underlying s) _) = _
              rw [SQ_bind, SQ_underlying hs, Option.bind_some]
              simp only [hfd]
              show SQ P w0 M (Sem.bind (fieldPlace ⟨n, o, Option.none⟩ fd) _) = _
              rw [SQ_bind]
              have : SQ P w0 M (fieldPlace ⟨n, o, Option.none⟩ fd) = some ⟨n, o + fd.offset, Option.none⟩ := by
                show SQ P w0 M (Sem.bind (sizeOf fd.type) _) = _
                rw [SQ_bind, SQ_sizeOf hi, Option.bind_some, if_neg h0, addr_add]; rfl
              rw [this]; rfl
          · rename_i hi; simp only [hs, hfd, hi, isRaw, Bool.true_eq_false] at hr
        · rename_i hfd; simp only [hs, hfd, isRaw, Bool.true_eq_false] at hr
      · rename_i hs
        split at hr
        · rename_i fs hs'; exact absurd hs' (hs fs)
        · cases hr
    case indexAddr T x i =>
      split at h
      · rename_i e hT
        split at h
        · rename_i j hj
          obtain ⟨n, o, len, cap, k, q, hx, hi, h0, h1, h⟩ := h
          refine coreU_q hq (fun M => ?_) h
          rw [hop]
          refine qv_of (s := Instr.indexAt T (evt t x) (evt t i)) rfl ?_
          rw [hx, hi]
          show SQ P w0 M (Sem.bind (underlying T) _) = _
          rw [SQ_bind, SQ_underlying hT, Option.bind_some]
          show SQ P w0 M (Sem.bind (underlying T) _) = _
          rw [SQ_bind, SQ_underlying hT, Option.bind_some]
          simp only []
          rw [if_pos ⟨h0, h1⟩]
          show SQ P w0 M (Sem.bind (sizeOf e) _) = _
          rw [SQ_bind, SQ_sizeOf hj, Option.bind_some, addr_add]; rfl
        · rename_i hj; simp only [hT, hj, isRaw, Bool.true_eq_false] at hr
      · rename_i hT
        split at hr
        · rename_i e hT'; exact absurd hT' (hT e)
        · cases hr
    case binOp op T x y Ty =>
      split at h
      · rename_i d hT
        simp only [hT] at hr
        split at h
        · obtain ⟨v, hv, h⟩ := h
          exact coreU_q hq (fun M => by rw [hop]; exact binV_q hv) h
        · rename_i hp
          rw [if_neg hp] at hr
          cases d <;> simp only [isRaw, Bool.true_eq_false] at hr h
          case bool =>
            obtain ⟨v, hv, h⟩ := h
            exact coreU_q hq (fun M => by rw [hop]; exact boolV_q hT hv) h
          case slice e =>
            obtain ⟨b, v, hv, hs, hn, h⟩ := h
            exact coreU_q hq (fun M => by rw [hop]; exact nil_q hT hv hs hn) h
          case struct fs =>
            cases hks : seOf P T with
            | none => rw [hks] at hr; cases op <;> simp only [isRaw, Bool.true_eq_false] at hr
            | some ks =>
              rw [hks] at h hr
              cases op <;> simp only [isRaw, Bool.true_eq_false] at hr h
              case eql =>
                obtain ⟨v, hv, h⟩ := h
                exact coreU_q hq (fun M => by rw [hop]; exact structV_q (neg := false) hks hv) h
              case neq =>
                obtain ⟨v, hv, h⟩ := h
                exact coreU_q hq (fun M => by rw [hop]; exact structV_q (neg := true) hks hv) h
      · rename_i hT; simp only [hT, isRaw, Bool.true_eq_false] at hr
    case unOp op T x =>
      cases op <;> simp only [isRaw, Bool.true_eq_false] at hr h
      case not =>
        obtain ⟨b, hb, h⟩ := h
        refine coreU_q hq (fun M => ?_) h
        rw [hop]
        exact qv_of (s := Op.unary .not (evt t x)) rfl (by rw [hb]; rfl)
      case neg =>
        cases hT : P.underlying T with
        | none => simp only [hT, isRaw, Bool.true_eq_false] at hr
        | some d =>
          cases d <;> simp only [hT, isRaw, Bool.true_eq_false] at hr h
          obtain ⟨k, i, hi, h⟩ := h
          refine coreU_q hq (fun M => ?_) h
          rw [hop]
          exact qv_of (s := Op.unary .neg (evt t x)) rfl (by rw [hi]; simp [Op.unary, Op.intArith, SQ, pure])
    case build T ps =>
      split at h
      · rename_i z qs hb
        obtain ⟨cs, h1, h2⟩ := bdOf_q (P := P) (w0 := w0) (m := if f.pu then Frag.none else m) hb h
        unfold coreU; rw [if_pos hq]
        refine ⟨_, ?_, h2⟩
        rw [hop]
        exact qv_of rfl h1
      · rename_i hb; rw [hb] at hr; cases hr
    case field T x fi =>
      split at h
      · rename_i off size agg hb
        obtain ⟨cs, h1, h2, h⟩ := h
        refine coreU_q hq (fun M => ?_) h
        rw [hop]
        exact qv_of (s := Instr.field T (evt t x) fi) rfl (flOf_q hb h1 h2)
      · rename_i hb; rw [hb] at hr; cases hr
    case slice T x lo hi mx =>
      have he : execF (evt t) f.op f.ty = Sem.bind (Instr.sliceAt T (evt t x) (lo.map (evt t)) (hi.map (evt t)) (mx.map (evt t))) fun v => Sem.pure (.value v) := by rw [hop]; rfl
      cases hT : P.underlying T with
      | none => simp only [hT, isRaw, Bool.true_eq_false] at hr
      | some d =>
        have hat : ∀ M, (∀ n e, d ≠ .array n e) → SQ P w0 M (Instr.sliceAt T (evt t x) (lo.map (evt t)) (hi.map (evt t)) (mx.map (evt t))) = SQ P w0 M (Instr.slice T (evt t x) (lo.map (evt t)) (hi.map (evt t)) (mx.map (evt t))) := fun M hd => by
          unfold Instr.sliceAt
          rw [sbind, SQ_bind, SQ_underlying hT, Option.bind_some]
          cases d <;> first | rfl | exact absurd rfl (hd _ _)
        cases d <;> simp only [hT, isRaw, Bool.true_eq_false] at hr h
        case string =>
          cases mx with
          | some y => simp only [Option.isNone, Bool.false_eq_true, if_false, isRaw, Bool.true_eq_false] at hr
          | none =>
            simp only [Option.isNone, if_true] at h
            obtain ⟨s, l, hh, h1, h2, h3, h4, h5, h⟩ := h
            refine coreU_q hq (fun M => qv_of he ?_) h
            rw [hat M (fun n e => by intro h; cases h)]
            exact cutText_q hT h1 h2 h3 h4 h5
        case slice e =>
          cases hj : P.info? e with
          | none => simp only [hj, isRaw, Bool.true_eq_false] at hr
          | some j =>
            simp only [hj] at hr h
            by_cases hc : (hi.isSome || mx.isNone) = true
            · rw [if_pos hc] at h
              obtain ⟨a, len, cap, l, hh, k, h1, h2, h3, h4, h5, h6, h7, h⟩ := h
              refine coreU_q hq (fun M => qv_of he ?_) h
              rw [hat M (fun n e => by intro h; cases h)]
              exact slice_q hT hj h1 (by simpa using hc) h2 h3 h4 h5 h6 h7
            · rw [if_neg hc] at hr; cases hr
    case extract x i =>
      obtain ⟨vs, v, hx, hv, h⟩ := h
      refine coreU_q hq (fun M => ?_) h
      rw [hop]
      exact qv_of (s := Instr.extract (evt t x) i) rfl (by rw [hx]; show SQ P w0 M (match vs[i]? with | some v => pure v | Option.none => stuck "Extract: no such component") = _; rw [hv]; rfl)
    case index T x i =>
      split at h
      · rename_i hT
        obtain ⟨s, k, j, b, hx, hi, h0, hb, h⟩ := h
        refine coreU_q hq (fun M => ?_) h
        rw [hop]
        refine qv_of (s := Instr.index T (evt t x) (evt t i)) rfl ?_
        rw [hx, hi]
        show SQ P w0 M (Sem.bind (underlying T) _) = _
        rw [SQ_bind, SQ_underlying hT, Option.bind_some]
        simp only [h0, if_true, hb]
        rfl
      · rename_i hT
        split at hr
        · rename_i hT'; exact absurd hT' hT
        · cases hr
    case convert S T x =>
      split at h
      · rename_i k' k hS hT
        obtain ⟨k2, j, hx, h⟩ := h
        refine coreU_q hq (fun M => ?_) h
        rw [hop]
        refine qv_of (s := convert S T (evt t x)) rfl ?_
        rw [hx]
        show SQ P w0 M (Sem.bind (underlying S) _) = _
        rw [SQ_bind, SQ_underlying hS, Option.bind_some]
        show SQ P w0 M (Sem.bind (underlying T) _) = _
        rw [SQ_bind, SQ_underlying hT, Option.bind_some]
        rfl
      · rename_i hST
        split at h
        · rename_i hpu
          split at hr
          · rename_i k' k hS hT; exact absurd hT (hST k' k hS)
          · rw [if_pos hpu] at hr; cases hr
        · rename_i hpu
          split at h
          · rename_i hc
            obtain ⟨n, bs, h1, h2, h⟩ := h
            obtain ⟨e, hS, hT, he⟩ := cbsOf_spec hc
            unfold coreU
            rw [if_pos hq, if_neg hpu]
            refine ⟨_, ?_, h⟩
            rw [hop]
            exact qv_of (s := convert S T (evt t x)) rfl (textConv_q hS hT he h2 h1)
          · rename_i hc
            split at hr
            · rename_i k' k hS hT; exact absurd hT (hST k' k hS)
            · rw [if_neg hpu, if_neg hc] at hr; cases hr
    case call c =>
      obtain ⟨callee, args, argTypes⟩ := c
      cases callee with
      | builtin b =>
        cases b <;> simp only [isRaw, Bool.true_eq_false] at hr h
        case min =>
          have he : execF (evt t) f.op f.ty = Sem.bind (Builtin.min_ argTypes f.ty (args.map (evt t))) fun v => Sem.pure (.value v) := by rw [hop]; rfl
          rcases ha : args.toList with _ | ⟨x, _ | ⟨y, _ | ⟨y2, l⟩⟩⟩ <;> simp only [ha, isRaw, Bool.true_eq_false] at hr h
          have harg : args.map (evt t) = #[evt t x, evt t y] := by apply Array.ext'; simp [ha]
          obtain ⟨k, k', a, b, h1, h2, h⟩ := h
          refine coreU_q hq (fun M => qv_of he ?_) h
          rw [harg, h1, h2]; exact min_q
        case len =>
          have he : execF (evt t) f.op f.ty = Sem.bind (Builtin.len_ argTypes f.ty (args.map (evt t))) fun v => Sem.pure (.value v) := by rw [hop]; rfl
          rcases ha : args.toList with _ | ⟨x, _ | ⟨y, l⟩⟩ <;> rcases hT0 : argTypes.toList with _ | ⟨T, _ | ⟨y', l'⟩⟩ <;> simp only [ha, hT0, isRaw, Bool.true_eq_false] at hr h
          have harg : args.map (evt t) = #[evt t x] := by apply Array.ext'; simp [ha]
          have hat : argTypes = #[T] := by rw [← Array.toList_inj, hT0]
          cases hT : P.underlying T with
          | none => simp only [hT, Bool.true_eq_false] at hr
          | some d =>
            cases d <;> simp only [hT, Bool.true_eq_false] at hr h
            case string =>
              obtain ⟨s, hx, h⟩ := h
              refine coreU_q hq (fun M => qv_of he ?_) h
              rw [harg, hat, hx]
              show SQ P w0 M (Sem.bind (underlying T) _) = _
              rw [SQ_bind, SQ_underlying hT]; rfl
            case slice e =>
              obtain ⟨a, n, c, hx, h⟩ := h
              refine coreU_q hq (fun M => qv_of he ?_) h
              rw [harg, hat, hx]
              show SQ P w0 M (Sem.bind (underlying T) _) = _
              rw [SQ_bind, SQ_underlying hT]; rfl
      | _ => simp only [isRaw, Bool.true_eq_false] at hr
  · rw [if_neg hq] at hr h
    unfold coreU
    rw [if_neg hq]
    cases hop : f.op <;> simp only [hop] at hr h <;> try (simp only [isRaw, Bool.true_eq_false] at hr; done)
    case alloc T =>
      split at h
      · rename_i i hi
        split at h
        · rename_i z hz
          exact (act_new (P := P) (w0 := w0) (g := fun n => .pointer (some ⟨n, 0, Option.none⟩)) rfl (alloc_sx hi hz)).2 h
        · rename_i hz; simp only [hi, hz, isRaw, Bool.true_eq_false] at hr
      · rename_i hi; simp only [hi, isRaw, Bool.true_eq_false] at hr
    case box T x => exact (act_new (P := P) (w0 := w0) (g := fun n => .pointer (some ⟨n, 0, Option.none⟩)) rfl box_sx).2 h
    case store T x v =>
      split at h
      · rename_i i hi hd
        obtain ⟨n, o, cs, size, e, hx, hm, hlen, hone, hle, hsz, h⟩ := h
        refine act_pure rfl ?_
        show SX P w0 (Sem.bind (Instr.storeAt T (evt t x) (evt t v)) fun _ => Sem.pure Next.skip) m _
        rw [SX_bind, hx]
        show SX P w0 (Sem.bind (sizeOf T) _) m _
        refine SX_q (SQ_sizeOf hi) ?_
        have : ¬ ((evt t v).cells.size ≠ i.size) := by rw [← Array.length_toList, hlen]; simp
        rw [if_neg this]
        refine storeCells_x (evt t v).cells.toList 0 m cs hm hone (by omega) hsz ?_
        rw [hd, Nat.add_zero, hlen]; exact h
      · rename_i hne
        split at hr
        · rename_i i hi hd; exact absurd hd (hne i hi)
        · cases hr
    case buildSlice T k ps =>
      split at h
      · rename_i e z qs hb
        refine SX_mono _ (SX_q' (bsOf_sx (R := fun v m' => K (upd t f.dst v) m') hb h)) fun nx m' hn => ?_
        cases nx <;> first | exact ⟨m', Ext.refl _, fun _ => rfl, hn⟩ | exact hn.elim
      · rename_i hb; rw [hb] at hr; cases hr
    case makeSlice T x y =>
      split at h
      · rename_i es e z hb
        obtain ⟨kx, ky, l, c, h1, h2, h3, h4, h⟩ := h
        obtain ⟨hT, j, z', hj, hz, hs, h0, hbs, e1, e2⟩ := elOf_spec hb
        subst e1 e2
        have he : execF (evt t) (.makeSlice T x y) f.ty = Sem.bind (Instr.makeSlice T (.int kx (Int.ofNat l)) (.int ky (Int.ofNat c))) fun v => Sem.pure (.value v) := by
          rw [← h1, ← h2]; rfl
        unfold act
        rw [he]
        refine SX_mono _ (SX_q' (makeSlice_sx (R := fun v m' => K (upd t f.dst v) m') hT hj hz hs h0 h3 (by omega) (by omega) h)) fun nx m' hn => ?_
        cases nx <;> first | exact ⟨m', Ext.refl _, fun hh => (by cases hh), hn⟩ | exact hn.elim
      · rename_i hb; rw [hb] at hr; cases hr
    case call c =>
      obtain ⟨callee, args, argTypes⟩ := c
      cases callee with
      | builtin b =>
        cases b <;> simp only [isRaw, Bool.true_eq_false] at hr h
        case append =>
          have he : execF (evt t) f.op f.ty = Sem.bind (Builtin.append_ argTypes f.ty (args.map (evt t))) fun v => Sem.pure (.value v) := by rw [hop]; rfl
          rcases ha : args.toList with _ | ⟨x, _ | ⟨y, _ | ⟨y2, l⟩⟩⟩ <;> rcases hT0 : argTypes.toList with _ | ⟨T, _ | ⟨X, _ | ⟨y', l'⟩⟩⟩ <;> simp only [ha, hT0, isRaw, Bool.true_eq_false] at hr h
          have harg : args.map (evt t) = #[evt t x, evt t y] := by apply Array.ext'; simp [ha]
          have hat : argTypes = #[T, X] := by rw [← Array.toList_inj, hT0]
          cases hb : elOf P T with
          | none => simp only [hb, isRaw, Bool.true_eq_false] at hr
          | some p =>
            obtain ⟨es, e, zs⟩ := p
            cases hX : P.underlying X with
            | none => simp only [hb, hX, isRaw, Bool.true_eq_false] at hr
            | some dX =>
              simp only [hb, hX] at hr h
              by_cases hp : plainSrc dX = true
              · rw [if_pos hp] at h
                obtain ⟨k, n, cs, ys, h1, h2, h3, h4, h5, h6⟩ := h
                obtain ⟨hT, j, z', hj, hz, hs, h0, hbs, e1, e2⟩ := elOf_spec hb
                subst e1
                rw [hop] at he
                unfold act
                rw [he, harg, hat]
                refine SX_mono _ (SX_q' (append_sx (R := fun v m' => ∃ m'', Ext m'' m' ∧ K (upd t f.dst v) m'') hT hX hp hj hz hs h0 hbs h1 h2 h3 h4 (fun a b => ⟨m, Ext.refl _, h5 a b⟩) (fun a b c r h7 h8 h9 h10 => ⟨_, Ext.refl _, h6 a b c r h7 h8 h9 h10⟩))) fun nx m' hn => ?_
                cases nx <;> first | (obtain ⟨m'', hx, m3, hx', hn⟩ := hn; exact ⟨m3, hx'.trans hx, fun hh => (by cases hh), hn⟩) | exact hn.elim
              · rw [if_neg hp] at hr; cases hr
      | value x =>
        cases x <;> simp only [isRaw, Bool.true_eq_false] at hr h
        case func g =>
          split at h
          · rename_i hg
            refine act_pure rfl ?_
            show SX P w0 (callFunc g ((#[] ++ args.map (evt t)) ++ #[])) m _
            refine callFunc_x hg ?_
            have : (#[] ++ args.map (evt t)) ++ #[] = (args.toList.map (evt t)).toArray := by apply Array.ext'; simp
            rw [this]; exact h
          · rename_i hg; rw [if_neg hg] at hr; cases hr
      | _ => simp only [isRaw, Bool.true_eq_false] at hr

theorem lower_sound {P : Program} {w0 : World} {f : FOp} {t : Tm} {m : Frag} {K : KU} (h : stepX P w0 (lower P f) t m K) : stepU P w0 f t m K := by
  unfold lower at h
  split at h
  · exact h
  · rename_i hr
    have hr' : isRaw (lower1 P f) = false := by simpa using hr
    have fin : stepX P w0 (if f.ext then .ext (lower1 P f) else lower1 P f) t m K → (if f.q then ∃ v, qv P w0 (if f.pu then Frag.none else m) t f.op f.ty = some v ∧ K (upd t f.dst v) m
        else act P w0 m t f.op f.ty fun v m' => (f.ext = true → Ext m m') ∧ K (upd t f.dst v) m') := fun h => by
      by_cases he : f.ext = true
      · rw [if_pos he] at h
        have := lower1_sound hr' (K := fun t' m' => Ext m m' ∧ K t' m') h
        unfold coreU at this
        split at this
        · rename_i hq; rw [if_pos hq]; obtain ⟨v, hv, hk⟩ := this; exact ⟨v, hv, hk.2⟩
        · rename_i hq; rw [if_neg hq]; exact act_mono this fun v m' hk => ⟨fun _ => hk.1, hk.2⟩
      · rw [if_neg he] at h
        have := lower1_sound hr' h
        unfold coreU at this
        split at this
        · rename_i hq; rw [if_pos hq]; exact this
        · rename_i hq; rw [if_neg hq]; exact act_mono this fun v m' hk => ⟨fun h => absurd h he, hk⟩
    unfold wrapX at h
    unfold stepU
    split at h
    · rename_i hg
      rw [hg]
      show if wantT Option.none t = true then _ else _
      rw [if_pos (show wantT Option.none t = true from rfl)]; exact fin h
    · rename_i sl b hg
      rw [hg]
      show if _ then _ else _
      have h' : if wantT (some (some sl, b)) t then stepX P w0 (if f.ext then .ext (lower1 P f) else lower1 P f) t m K else K (upd t f.dst undef) m := h
      by_cases hw : wantT (some (some sl, b)) t = true
      · rw [if_pos hw] at h' ⊢; exact fin h'
      · rw [if_neg hw] at h' ⊢; exact h'
    · exact h

def stepsX (P : Program) (w0 : World) : List U → Tm → Frag → KU → Prop
  | [], t, m, K => K t m
  | u :: l, t, m, K => stepX P w0 u t m fun t' m' => stepsX P w0 l t' m' K

theorem stepU_mono {P : Program} {w0 : World} {f : FOp} {t : Tm} {m : Frag} {K K' : KU} (h : stepU P w0 f t m K) (hk : ∀ t m, K t m → K' t m) : stepU P w0 f t m K' := by
  unfold stepU at *
  split
  · rename_i hw; rw [if_pos hw] at h
    split
    · rename_i hq; rw [if_pos hq] at h; obtain ⟨v, hv, h⟩ := h; exact ⟨v, hv, hk _ _ h⟩
    · rename_i hq; rw [if_neg hq] at h; exact act_mono h fun v m' ⟨h1, h2⟩ => ⟨h1, hk _ _ h2⟩
  · rename_i hw; rw [if_neg hw] at h; exact hk _ _ h

theorem stepsU_of_X {P : Program} {w0 : World} {K : KU} : ∀ (l : List FOp) (t : Tm) (m : Frag), stepsX P w0 (l.map (lower P)) t m K → stepsU P w0 l t m K
  | [], _, _, h => h
  | f :: l, t, m, h => stepU_mono (lower_sound h) fun t' m' h' => stepsU_of_X l t' m' h'

/-! ### Code -/

inductive XC where
  | skip
  | ops (l : List U)
  | raw (l : List FOp)
  | seq (a b : XC)
  | cond (c : Operand) (a b : XC)
  | block (id : Nat) (a : XC)
  | loop (a : XC)
  | exit (id : Nat)
  | ret
  | inv (l : List (U × List Nat))

def low (P : Program) : IC → XC
  | .skip => .skip
  | .ops l => if okU P l then .ops (l.map (lower P)) else .raw l
  | .seq a b => .seq (low P a) (low P b)
  | .cond c a b => .cond c (low P a) (low P b)
  | .block id a => .block id (low P a)
  | .loop a => .loop (low P a)
  | .exit id => .exit id
  | .ret => .ret
  | .inv l => .inv (l.map fun p => (lower P p.1, p.2))

abbrev KX := Ex → Tm → Frag → Prop

/-- Behind a piece of code that ended normally comes another one. -/
def thenX (next : Tm → Frag → Prop) (Q : KX) : KX
  | .norm, t, m => next t m
  | e, t, m => Q e t m
def blockX (id : Nat) (Q : KX) : KX
  | .exit i, t, m => if i = id then Q .norm t m else Q (.exit i) t m
  | e, t, m => Q e t m

def xwp (P : Program) (w0 : World) : XC → Tm → Frag → KX → Prop
  | .skip, t, m, Q => Q .norm t m
  | .ops l, t, m, Q => stepsX P w0 l t m (Q .norm)
  | .raw l, t, m, Q => stepsF P w0 l (fun _ => True) t m (Q .norm)
  | .seq a b, t, m, Q => xwp P w0 a t m (thenX (fun t' m' => xwp P w0 b t' m' Q) Q)
  | .cond c a b, t, m, Q => ∃ z, evt t c = .bool z ∧ (z = true → xwp P w0 a t m Q) ∧ (z = false → xwp P w0 b t m Q)
  | .block id a, t, m, Q => xwp P w0 a t m (blockX id Q)
  | .loop a, t, m, Q => ∃ (I : Nat → Tm → Frag → Prop) (k : Nat), I k t m ∧ ∀ k t m, I k t m → xwp P w0 a t m (thenX (fun t' m' => ∃ k', k' < k ∧ I k' t' m') Q)
  | .exit id, t, m, Q => Q (.exit id) t m
  | .ret, t, m, Q => Q .ret t m
  | .inv l, t, m, Q => ∃ I : (Nat → Bool) → Tm → Frag → Prop, I (fun _ => false) t m ∧
      (∀ d t m, I d t m → ∀ (i : Nat) (u : U) (ps : List Nat), l[i]? = some (u, ps) → d i = false → (∀ p ∈ ps, d p = true) → stepX P w0 u t m fun t' m' => I (fun j => if j = i then true else d j) t' m') ∧
      (∀ d t m, I d t m → (∀ i, i < l.length → d i = true) → Q .norm t m)

theorem step0_of_U {P : Program} {w0 : World} {f : FOp} {t : Tm} {m : Frag} {K : KU} (h : stepU P w0 f t m K) : step0 P w0 f (fun _ => True) t m fun _ t' m' => K t' m' := by
  unfold stepU at h
  by_cases hw : wantT f.gd t = true
  · rw [if_pos hw] at h
    by_cases hq : f.q = true
    · rw [if_pos hq] at h; rw [step0_q hw hq]; exact h
    · rw [if_neg hq] at h; rw [step0_a hw hq]; exact act_mono h fun v m' ⟨_, h2⟩ => ⟨fun _ => trivial, h2⟩
  · rw [if_neg hw] at h; rw [step0_s hw]; exact h

theorem awp_of_x {P : Program} {w0 : World} (c : IC) : ∀ {t : Tm} {m : Frag} {Q : KX}, xwp P w0 (low P c) t m Q → awp P w0 c t m Q := by
  induction c with
  | skip => intro t m Q h; exact h
  | ops l =>
    intro t m Q h
    simp only [low] at h
    split at h
    · rename_i hok
      exact stepsF_of_U l _ t m hok (fun _ _ _ h => h) (fun _ => trivial) (stepsU_of_X l t m h)
    · exact h
  | seq a b iha ihb =>
    intro t m Q h
    have h' : xwp P w0 (low P a) t m (thenX (fun t' m' => xwp P w0 (low P b) t' m' Q) Q) := h
    refine awp_mono (c := a) (Q := thenX (fun t' m' => xwp P w0 (low P b) t' m' Q) Q) (iha h') fun e t' m' h' => ?_
    cases e with
    | norm => exact ihb h'
    | _ => exact h'
  | cond c a b iha ihb =>
    intro t m Q h
    obtain ⟨z, hz, h1, h2⟩ := h
    simp only [awp, hz]
    cases z with
    | true => exact iha (h1 rfl)
    | false => exact ihb (h2 rfl)
  | block id a ih =>
    intro t m Q h
    have h' : xwp P w0 (low P a) t m (blockX id Q) := h
    refine awp_mono (c := a) (Q := blockX id Q) (ih h') fun e t' m' h' => ?_
    cases e with
    | exit i => exact h'
    | _ => exact h'
  | loop a ih =>
    intro t m Q h
    obtain ⟨I, k, h0, hr⟩ := h
    refine ⟨I, k, h0, fun k t m hI => awp_mono (c := a) (Q := thenX (fun t' m' => ∃ k', k' < k ∧ I k' t' m') Q) (ih (hr k t m hI)) fun e t' m' h' => ?_⟩
    cases e with
    | norm => exact h'
    | _ => exact h'
  | exit id => intro t m Q h; exact h
  | ret => intro t m Q h; exact h
  | inv l =>
    intro t m Q h
    obtain ⟨I, h0, h1, h2⟩ := h
    refine ⟨I, h0, fun d t m hI i f ps hl hd hp => step0_of_U (lower_sound (h1 d t m hI i (lower P f) ps ?_ hd hp)), fun d t m hI hd => h2 d t m hI (by simpa using hd)⟩
    rw [List.getElem?_map, hl]; rfl

/-! ### What a function hands back -/

inductive RX where
  | tmp (i : Nat)
  | cell (i size : Nat) (agg : Bool)

def asPtr : Value → Option (Nat × Nat)
  | .pointer (some ⟨n, o, Option.none⟩) => some (n, o)
  | _ => Option.none

def rxV (w0 : World) (m : Frag) (t : Tm) : RX → Option Value
  | .tmp i => some (t i)
  | .cell i size agg => (asPtr (t i)).bind fun p => (row w0 m p.1).bind fun cs => if p.2 + size ≤ cs.length then some (ldV agg ((cs.drop p.2).take size)) else Option.none

def rxVs (w0 : World) (m : Frag) (t : Tm) : List RX → Option (List Value)
  | [] => some []
  | r :: l => (rxV w0 m t r).bind fun v => (rxVs w0 m t l).bind fun vs => some (v :: vs)

def rxAll (w0 : World) (m : Frag) (t : Tm) (l : List RX) : Option Value := (rxVs w0 m t l).map fun
  | [v] => v
  | vs => .tuple vs.toArray

def lowR (P : Program) : ResultVar → Option RX
  | .tmp i => some (.tmp i)
  | .cell i T => match P.underlying T, P.info? T with
    | some d, some j => if isAggD d || j.size == 1 then some (.cell i j.size (isAggD d)) else Option.none
    | _, _ => Option.none

def lowRs (P : Program) : List ResultVar → Option (List RX)
  | [] => some []
  | r :: l => match lowR P r, lowRs P l with
    | some x, some xs => some (x :: xs)
    | _, _ => Option.none

theorem lowR_sound {P : Program} {w0 : World} {m : Frag} {t : Tm} {r : ResultVar} {x : RX} {v : Value} (h : lowR P r = some x) (hv : rxV w0 m t x = some v) : resV P w0 m t r = some v := by
  cases r with
  | tmp i => cases h; exact hv
  | cell i T =>
    simp only [lowR] at h
    split at h
    · rename_i d j hd hj
      split at h
      · rename_i hc
        cases h
        simp only [rxV, Option.bind_eq_some_iff] at hv
        obtain ⟨p, hp, cs, hr, hv⟩ := hv
        split at hv
        · rename_i hl
          simp only [Option.some.injEq] at hv
          subst hv
          unfold asPtr at hp
          split at hp
          · rename_i n o ht
            cases hp
            simp only [resV, ht]
            exact loadVar_q hd hj (by simpa using hc) hr hl
          · cases hp
        · cases hv
      · cases h
    · cases h

theorem lowRs_sound {P : Program} {w0 : World} {m : Frag} {t : Tm} : ∀ {l : List ResultVar} {xs : List RX} {vs : List Value}, lowRs P l = some xs → rxVs w0 m t xs = some vs → resVs P w0 m t l = some vs
  | [], xs, vs, h, hv => by cases h; exact hv
  | r :: l, xs, vs, h, hv => by
    simp only [lowRs] at h
    split at h
    · rename_i x ys hx hys
      cases h
      simp only [rxVs, Option.bind_eq_some_iff] at hv
      obtain ⟨v, h1, us, h2, h3⟩ := hv
      simp only [resVs, lowR_sound hx h1, lowRs_sound hys h2, Option.bind_some]
      exact h3
    · cases h

/-- A function as the logic reads it. -/
def reads (P : Program) (f : FuncId) : Option (XC × List RX) := (P.funcs[f]?).bind fun fn => fn.body.bind fun c => (comp P fn.ntmps c).bind fun ic => (lowRs P fn.results.toList).bind fun rs =>
  if fn.results.toList.all (resIn fn.ntmps) && decide (fn.params.size ≤ fn.ntmps) then some (low P ic, rs) else Option.none

def nparams (P : Program) (f : FuncId) : Nat := ((P.funcs[f]?).map (·.ntmps)).getD 0

/-- Something that holds when some of the blocks are no longer known. -/
def weakX (m : Frag) (p : Frag → Prop) : Prop := ∃ m', Ext m' m ∧ p m'

def postX (w0 : World) (rs : List RX) (R : Value → Frag → Prop) : KX := fun e t m => (match e with
  | .exit _ => False
  | _ => True) ∧ ∃ v, rxAll w0 m t rs = some v ∧ weakX m (R v)

theorem ACall.weak {P : Program} {w0 : World} {f : FuncId} {args : Array Value} {m : Frag} {R : Value → Frag → Prop} (h : ACall P w0 f args m fun v m' => weakX m' (R v)) : ACall P w0 f args m R := by
  intro w hw
  refine (h w hw).mono fun e w' ⟨v, m', he, ⟨m'', hx, hR⟩, hf, hk⟩ => ⟨v, m'', he, hR, hf.ext hx, hk.weak hx⟩

theorem acall_x {P : Program} {w0 : World} {f : FuncId} {xc : XC} {rs : List RX} {args : Array Value} {m : Frag} {R : Value → Frag → Prop} (hm : P.follows .mixedOrders = true) (hx : reads P f = some (xc, rs)) (hN : args.size ≤ nparams P f)
    (h : xwp P w0 xc (argT args) m (postX w0 rs R)) : ACall P w0 f args m R := by
  unfold reads at hx
  simp only [Option.bind_eq_some_iff] at hx
  obtain ⟨fn, hf, c, hb, ic, hc, xs, hxs, hx⟩ := hx
  split at hx
  · rename_i hok
    cases hx
    simp only [Bool.and_eq_true] at hok
    refine ACall.weak (acall_of hm hf hb hc ?_ hok.1 (awp_mono (c := ic) (awp_of_x ic h) fun e t' m' ⟨h1, v, h2, h3⟩ => ⟨h1, v, ?_, h3⟩))
    · simpa [nparams, hf] using hN
    · unfold rxAll at h2
      simp only [Option.map_eq_some_iff] at h2
      obtain ⟨vs, h4, h5⟩ := h2
      unfold resAll
      rw [lowRs_sound hxs h4, Option.map_some, ← h5]
      rcases vs with _ | ⟨a, _ | ⟨b, l⟩⟩ <;> rfl
  · cases hx

end Go.Proofs.YtemaflbbcihilaaDoor.Fl

/- The fragment logic for its users: operations with their types' sizes worked in, each told by one plain equation. No conditions. -/
import Derived.Test.YtemaflbbcihilaaDoorFc
namespace Go.Proofs.YtemaflbbcihilaaDoor.Fl
open Go Go.RowKit
set_option linter.unusedSimpArgs false
set_option linter.unusedVariables false

/-! ### Without what was read -/

abbrev KU := Tm → Frag → Prop

def stepU (P : Program) (w0 : World) (f : FOp) (t : Tm) (m : Frag) (K : KU) : Prop :=
  if wantT f.gd t then
    if f.q then ∃ v, qv P w0 (if f.pu then Frag.none else m) t f.op f.ty = some v ∧ K (upd t f.dst v) m
    else act P w0 m t f.op f.ty fun v m' => (f.ext = true → Ext m m') ∧ K (upd t f.dst v) m'
  else K (upd t f.dst undef) m

def stepsU (P : Program) (w0 : World) : List FOp → Tm → Frag → KU → Prop
  | [], t, m, K => K t m
  | f :: l, t, m, K => stepU P w0 f t m fun t' m' => stepsU P w0 l t' m' K

def okU (P : Program) : List FOp → Bool
  | [] => true
  | f :: l => f.nw.isEmpty && okU P l && (f.q || f.ext || newOk P f.op || !(l.any (·.ext)))

theorem stepsF_of_U {P : Program} {w0 : World} {K : KU} : ∀ (l : List FOp) (S : Frag → Prop) (t : Tm) (m : Frag), okU P l = true → Mono S → (l.any (·.ext) = true → S m) → stepsU P w0 l t m K → stepsF P w0 l S t m K
  | [], _, _, _, _, _, _, h => h
  | f :: l, S, t, m, hok, hS, hm, h => by
    simp only [okU, Bool.and_eq_true, List.isEmpty_iff] at hok
    obtain ⟨⟨hnw, hok⟩, hf⟩ := hok
    refine ⟨(by rw [hnw]; intro p hp; cases hp), ?_⟩
    have hl : l.any (·.ext) = true → S m := fun he => hm (by simp only [List.any_cons, he, Bool.or_true])
    unfold stepsU stepU at h
    by_cases hw : wantT f.gd t = true
    · rw [if_pos hw] at h
      by_cases hq : f.q = true
      · rw [if_pos hq] at h
        rw [step0_q hw hq]
        obtain ⟨v, hv, h⟩ := h
        refine ⟨v, hv, stepsF_of_U l _ _ _ hok ?_ (fun he => ?_) h⟩
        · split
          · exact hS
          · exact fun a b hx ⟨h1, h2⟩ => ⟨hS a b hx h1, SR_mono hx _ h2⟩
        · split
          · exact hl he
          · exact ⟨hl he, SR_self _⟩
      · rw [if_neg hq] at h
        rw [step0_a hw hq]
        by_cases hn : newOk P f.op = true
        · obtain ⟨hk, c, e, g, hx⟩ := newOk_spec (w0 := w0) (t := t) (ty := f.ty) hn
          rw [act_new hk hx] at h ⊢
          intro n hB hmn
          obtain ⟨h1, h2⟩ := h n hB hmn
          have hext := Ext.set (m := m) (n := n) (.cells c c.length e) hmn
          exact ⟨fun he => hS _ _ hext (hm (by simp [he])), stepsF_of_U l S _ _ hok hS (fun he => hS _ _ hext (hl he)) h2⟩
        · refine act_mono h fun v m' ⟨h1, h2⟩ => ⟨fun he => hS _ _ (h1 he) (hm (by simp [he])), stepsF_of_U l S _ _ hok hS (fun he => ?_) h2⟩
          simp only [hn, hq, Bool.false_or, Bool.or_false, Bool.or_eq_true, Bool.not_eq_true', Bool.false_eq_true, or_false, false_or] at hf
          rcases hf with hf | hf
          · exact hS _ _ (h1 hf) (hl he)
          · rw [he] at hf; cases hf
    · rw [if_neg hw] at h
      rw [step0_s hw]
      exact stepsF_of_U l S _ _ hok hS hl h

/-! ### Operations -/

/-- A block's cells, as far as they are known: below the first world's end, as that world had them. -/
def row (w0 : World) (m : Frag) (n : Nat) : Option (List Value) :=
  if n < w0.heap.size then (match w0.heap[n]? with
    | some (.cells c _ _) => some c.toList
    | _ => Option.none) else match m n with
    | some (.cells cs _ _) => some cs
    | _ => Option.none

theorem row_ext {w0 : World} {m m' : Frag} (hx : Ext m m') {n : Nat} {cs : List Value} (h : row w0 m n = some cs) : row w0 m' n = some cs := by
  unfold row at *
  split
  · rename_i hl; rw [if_pos hl] at h; exact h
  · rename_i hl; rw [if_neg hl] at h
    cases hm : m n with
    | none => rw [hm] at h; cases h
    | some b => rw [hm] at h; rw [hx _ _ hm]; exact h

theorem row_own {w0 : World} {m : Frag} {n size : Nat} {cs : List Value} {e : TypeId} (hB : w0.heap.size ≤ n) (h : m n = some (.cells cs size e)) : row w0 m n = some cs := by
  unfold row; rw [if_neg (Nat.not_lt.2 hB), h]

theorem rd_row {w0 : World} {m : Frag} {n i : Nat} {cs : List Value} {v : Value} (h : row w0 m n = some cs) (hi : cs[i]? = some v) : rd w0 m ⟨n, i, Option.none⟩ = some v := by
  unfold row at h
  unfold rd
  split at h
  · rename_i hl
    rw [if_pos hl]
    unfold World.cell?
    split at h
    · rename_i c e fr ho
      cases h
      simp only [ho]
      simpa using hi
    · cases h
  · rename_i hl
    rw [if_neg hl]
    split at h
    · rename_i c e fr ho
      cases h
      simp only [ho]
      simpa using hi
    · cases h

theorem addr_add (n o k : Nat) : (⟨n, o, Option.none⟩ : Addr).add k = ⟨n, o + k, Option.none⟩ := by
  unfold Addr.add; split
  · rename_i h; subst h; rfl
  · rfl

theorem loadCellsFrom_q {P : Program} {w0 : World} {m : Frag} {n o : Nat} {cs : List Value} (h : row w0 m n = some cs) : ∀ (k i : Nat) (acc : Array Value), o + i + k ≤ cs.length →
    SQ P w0 m (loadCellsFrom ⟨n, o, Option.none⟩ i k acc) = some (acc ++ ((cs.drop (o + i)).take k).toArray)
  | 0, i, acc, _ => by simp [loadCellsFrom, SQ, pure]
  | k + 1, i, acc, hl => by
    have hlt : o + i < cs.length := by omega
    have hc : cs[o + i]? = some cs[o + i] := List.getElem?_eq_getElem hlt
    unfold loadCellsFrom
    show SQ P w0 m (Sem.bind (load _) _) = _
    rw [SQ_bind]
    have : SQ P w0 m (load ((⟨n, o, Option.none⟩ : Addr).add i)) = some cs[o + i] := by
      rw [addr_add]
      show (rd w0 m _).bind _ = _
      rw [rd_row h hc]; rfl
    rw [this, Option.bind_some, loadCellsFrom_q h k (i + 1) (acc.push cs[o + i]) (by omega)]
    rw [List.drop_eq_getElem_cons hlt, List.take_succ_cons]
    simp [Nat.add_assoc]

def isAggD : TypeDesc → Bool
  | .struct _ | .array _ _ => true
  | _ => false

def ldV (agg : Bool) (l : List Value) : Value := if agg then .agg l.toArray else l.headD undef

theorem loadVar_q {P : Program} {w0 : World} {m : Frag} {T : TypeId} {d : TypeDesc} {i : TypeInfo} (hu : P.underlying T = some d) (hi : P.info? T = some i) (h1 : isAggD d = true ∨ i.size = 1)
    {n o : Nat} {cs : List Value} (h : row w0 m n = some cs) (hl : o + i.size ≤ cs.length) : SQ P w0 m (loadVar T ⟨n, o, Option.none⟩) = some (ldV (isAggD d) ((cs.drop o).take i.size)) := by
  unfold loadVar
  show SQ P w0 m (Sem.bind (isAgg T) _) = _
  rw [SQ_bind]
  have hA : SQ P w0 m (isAgg T) = some (isAggD d) := by
    unfold isAgg
    show SQ P w0 m (Sem.bind (underlying T) _) = _
    rw [SQ_bind]
    have : SQ P w0 m (underlying T) = some d := by
      show SQ P w0 m (match P.underlying T with
        | some d => pure d
        | Option.none => stuck "no such type") = _
      rw [hu]; rfl
    rw [this, Option.bind_some]
    cases d <;> rfl
  rw [hA, Option.bind_some]
  cases hd : isAggD d with
  | true =>
    simp only [if_true]
    show SQ P w0 m (Sem.bind (sizeOf T) _) = _
    rw [SQ_bind]
    have : SQ P w0 m (sizeOf T) = some i.size := by
      show SQ P w0 m (Sem.bind (typeInfo T) _) = _
      rw [SQ_bind]
      show (SQ P w0 m (match P.info? T with
        | some i => pure i
        | Option.none => stuck "no such type")).bind _ = _
      rw [hi]; rfl
    rw [this, Option.bind_some]
    show SQ P w0 m (Sem.bind (loadCells _ _) _) = _
    rw [SQ_bind]
    unfold loadCells
    rw [loadCellsFrom_q h _ 0 _ (by omega)]
    simp [SQ, pure, ldV]
  | false =>
    have hs : i.size = 1 := by rcases h1 with h1 | h1; rw [hd] at h1; cases h1; exact h1
    simp only [Bool.false_eq_true, if_false]
    have hlt : o < cs.length := by omega
    show (rd w0 m _).bind _ = _
    rw [rd_row h (List.getElem?_eq_getElem hlt), List.drop_eq_getElem_cons hlt, hs]
    rfl

/-- Cells stored one behind the other. -/
theorem storeCells_x {P : Program} {w0 : World} {n o size : Nat} {e : TypeId} {R : Unit → Frag → Prop} : ∀ (vs : List Value) (i : Nat) (m : Frag) (cs : List Value), m n = some (.cells cs size e) → (∀ v ∈ vs, oneC v = true) → o + i + vs.length ≤ cs.length → cs.length ≤ size →
    R () (m.set n (.cells (cs.take (o + i) ++ vs ++ cs.drop (o + i + vs.length)) size e)) → SX P w0 (storeCells ⟨n, o, Option.none⟩ vs i) m R
  | [], i, m, cs, hm, _, hl, hs, hR => by
    have : m.set n (.cells (cs.take (o + i) ++ [] ++ cs.drop (o + i + 0)) size e) = m := by
      funext k
      by_cases ek : k = n
      · subst ek; rw [Frag.set_same, hm]; simp
      · rw [Frag.set_ne _ _ ek]
    rw [List.length_nil, this] at hR
    exact hR
  | v :: vs, i, m, cs, hm, hv, hl, hs, hR => by
    unfold storeCells
    show SX P w0 (Sem.bind (store _ _) _) m R
    rw [SX_bind, addr_add]
    simp only [List.length_cons] at hl
    refine ⟨hv v (by simp), rfl, cs, size, e, hm, (by show o + i < size; omega), ?_⟩
    refine storeCells_x vs (i + 1) _ (putCell cs (o + i) v) (Frag.set_same _ _ _) (fun u hu => hv u (by simp [hu])) ?_ ?_ ?_
    · unfold putCell; rw [if_pos (by omega)]; simp; omega
    · unfold putCell; rw [if_pos (by omega)]; simpa using hs
    · have h1 : putCell cs (o + i) v = cs.set (o + i) v := by unfold putCell; rw [if_pos (by omega)]
      rw [h1]
      have h2 : (m.set n (.cells (cs.set (o + i) v) size e)).set n (.cells ((cs.set (o + i) v).take (o + (i + 1)) ++ vs ++ (cs.set (o + i) v).drop (o + (i + 1) + vs.length)) size e)
          = m.set n (.cells (cs.take (o + i) ++ (v :: vs) ++ cs.drop (o + i + (v :: vs).length)) size e) := by
        funext k
        by_cases ek : k = n
        · subst ek
          rw [Frag.set_same, Frag.set_same]
          congr 2
          have hlt : o + i < cs.length := by omega
          have e1 : (cs.set (o + i) v).take (o + (i + 1)) = cs.take (o + i) ++ [v] := by
            rw [← Nat.add_assoc, List.take_succ_eq_append_getElem (by simpa using hlt)]
            rw [List.take_set_of_le (Nat.le_refl _)]
            simp
          have e2 : (cs.set (o + i) v).drop (o + (i + 1) + vs.length) = cs.drop (o + i + (v :: vs).length) := by
            rw [List.drop_set_of_lt (by omega)]
            congr 1
            simp; omega
          rw [e1, e2]; simp
        · rw [Frag.set_ne _ _ ek, Frag.set_ne _ _ ek, Frag.set_ne _ _ ek]
      rw [h2]; exact hR

/-- Bits of numbers. -/
def bitsV (op : BinOp) (k : IntKind) (a b : Int) : Int := match op with
  | .and => k.wrap (BitVec.ofInt k.bits a &&& BitVec.ofInt k.bits b).toNat
  | .or => k.wrap (BitVec.ofInt k.bits a ||| BitVec.ofInt k.bits b).toNat
  | .xor => k.wrap (BitVec.ofInt k.bits a ^^^ BitVec.ofInt k.bits b).toNat
  | _ => k.wrap (BitVec.ofInt k.bits a &&& ~~~(BitVec.ofInt k.bits b)).toNat

/-- An operation on numbers, texts and bools. -/
def binV : BinOp → Value → Value → Option Value
  | .add, .int k a, .int k' b => if k = k' then some (.int k (k.wrap (a + b))) else Option.none
  | .sub, .int k a, .int k' b => if k = k' then some (.int k (k.wrap (a - b))) else Option.none
  | .mul, .int k a, .int k' b => if k = k' then some (.int k (k.wrap (a * b))) else Option.none
  | .quo, .int k a, .int k' b => if k = k' ∧ b ≠ 0 then some (.int k (k.wrap (a.tdiv b))) else Option.none
  | .rem, .int k a, .int k' b => if k = k' ∧ b ≠ 0 then some (.int k (a.tmod b)) else Option.none
  | .eql, .int k a, .int k' b => if k = k' then some (.bool (a == b)) else Option.none
  | .neq, .int k a, .int k' b => if k = k' then some (.bool (a != b)) else Option.none
  | .lss, .int k a, .int k' b => if k = k' then some (.bool (decide (a < b))) else Option.none
  | .leq, .int k a, .int k' b => if k = k' then some (.bool (decide (a ≤ b))) else Option.none
  | .gtr, .int k a, .int k' b => if k = k' then some (.bool (decide (a > b))) else Option.none
  | .geq, .int k a, .int k' b => if k = k' then some (.bool (decide (a ≥ b))) else Option.none
  | .shl, .int k a, .int _ b => if 0 ≤ b then some (.int k (k.wrap (a * 2 ^ (min b.toNat k.bits)))) else Option.none
  | .shr, .int k a, .int _ b => if 0 ≤ b then some (.int k (a.fdiv (2 ^ (min b.toNat k.bits)))) else Option.none
  | .and, .int k a, .int k' b => if k = k' then some (.int k (bitsV .and k a b)) else Option.none
  | .or, .int k a, .int k' b => if k = k' then some (.int k (bitsV .or k a b)) else Option.none
  | .xor, .int k a, .int k' b => if k = k' then some (.int k (bitsV .xor k a b)) else Option.none
  | .andNot, .int k a, .int k' b => if k = k' then some (.int k (bitsV .andNot k a b)) else Option.none
  | .add, .string a, .string b => if ((a.size + b.size : Nat) : Int) > IntKind.i64.max then Option.none else some (.string (a ++ b))
  | .eql, .string a, .string b => some (.bool (a.toList == b.toList))
  | .neq, .string a, .string b => some (.bool !(a.toList == b.toList))
  | _, _, _ => Option.none

theorem binV_q {P : Program} {w0 : World} {m : Frag} {t : Tm} {op : BinOp} {T U : TypeId} {x y : Operand} {ty : TypeId} {v : Value} (h : binV op (evt t x) (evt t y) = some v) : qv P w0 m t (.binOp op T x y U) ty = some v := by
  have he : execF (evt t) (.binOp op T x y U) ty = Sem.bind (do eqGuard op T x y (evt t x) (evt t y); binOp op T (evt t x) (evt t y)) fun v => Sem.pure (.value v) := rfl
  have hg : ∀ (a b : Value), binV op a b = some v → SQ P w0 m (do eqGuard op T x y a b; binOp op T a b) = some v := by
    intro a b hab
    have hguard : SQ P w0 m (eqGuard op T x y a b) = some () := by
      unfold eqGuard
      cases a <;> cases b <;> first | (simp [binV] at hab; done) | (split <;> rfl)
    show SQ P w0 m (Sem.bind _ _) = _
    rw [SQ_bind, hguard, Option.bind_some]
    cases a <;> cases b <;> first
      | (cases op <;> simp [binV] at hab; done)
      | skip
    case int.int k a k' b =>
      cases op <;> simp only [binV] at hab <;> (try (cases hab; done)) <;> (split at hab) <;> (try (cases hab; done)) <;> rename_i hk <;> cases hab <;> first
        | (subst hk; simp [binOp, Op.intArith, Op.intCmp, SQ, pure]; done)
        | (subst hk; simp [binOp, Op.intBits, bitsV, SQ, pure]; done)
        | (obtain ⟨hk, hb⟩ := hk; subst hk; simp [binOp, Op.intDiv, hb, SQ, pure]; done)
        | (simp [binOp, Op.shift, Int.not_lt.2 hk, SQ, pure]; done)
    case string.string a b =>
      cases op <;> simp only [binV] at hab <;> (try (cases hab; done)) <;> first
        | (split at hab
           · cases hab
           · rename_i hk; cases hab; show SQ P w0 m (Op.stringOp .add a b) = _; unfold Op.stringOp; simp only []; rw [if_neg hk]; rfl)
        | (cases hab; simp [binOp, Op.stringOp, SQ, pure]; done)
  unfold qv
  rw [he, SQ_bind, hg _ _ h]; rfl

end Go.Proofs.YtemaflbbcihilaaDoor.Fl

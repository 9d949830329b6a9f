/- Comparing structs of numbers, bools and texts: cell by cell. No conditions. -/
import Derived.Test.YtemaflbbcihilaaDoorFv
namespace Go.Proofs.YtemaflbbcihilaaDoor.Fl
open Go Go.RowKit
set_option linter.unusedSimpArgs false
set_option linter.unusedVariables false

inductive CK where
  | b
  | i
  | s

def cell1 : CK → Value → Value → Option Bool
  | .i, .int k a, .int k' b => if k = k' then some (decide (a = b)) else Option.none
  | .b, .bool a, .bool b => some (a == b)
  | .s, .string a, .string b => some (decide (a = b))
  | _, _, _ => Option.none

/-- Are cells alike, one by one? -/
def cellsEq : List CK → List Value → List Value → Option Bool
  | [], [], [] => some true
  | c :: ks, a :: l, b :: k => (cell1 c a b).bind fun x => (cellsEq ks l k).bind fun y => some (x && y)
  | _, _, _ => Option.none

theorem cellsEq_len : ∀ {ks : List CK} {a b : List Value} {r : Bool}, cellsEq ks a b = some r → a.length = ks.length ∧ b.length = ks.length
  | [], [], [], _, _ => ⟨rfl, rfl⟩
  | c :: ks, v :: a, u :: b, r, h => by
    simp only [cellsEq, Option.bind_eq_some_iff] at h
    obtain ⟨x, hx, y, hy, h⟩ := h
    obtain ⟨h1, h2⟩ := cellsEq_len hy
    exact ⟨by simp [h1], by simp [h2]⟩
  | [], [], _ :: _, _, h => by cases h
  | [], _ :: _, _, _, h => by cases h
  | _ :: _, [], _, _, h => by cases h
  | _ :: _, _ :: _, [], _, h => by cases h

theorem cellsEq_app : ∀ {ks ls : List CK} {a b : List Value} {r : Bool}, cellsEq (ks ++ ls) a b = some r → ∃ x y, cellsEq ks (a.take ks.length) (b.take ks.length) = some x ∧ cellsEq ls (a.drop ks.length) (b.drop ks.length) = some y ∧ r = (x && y)
  | [], ls, a, b, r, h => ⟨true, r, rfl, h, by simp⟩
  | c :: ks, ls, v :: a, u :: b, r, h => by
    simp only [List.cons_append, cellsEq, Option.bind_eq_some_iff] at h
    obtain ⟨x, hx, y, hy, h⟩ := h
    obtain ⟨x', y', h1, h2, h3⟩ := cellsEq_app hy
    refine ⟨x && x', y', by simp [cellsEq, hx, h1], by simpa using h2, ?_⟩
    cases h
    rw [h3, Bool.and_assoc]
  | c :: ks, ls, [], b, r, h => by cases h
  | c :: ks, ls, _ :: _, [], r, h => by cases h

def eqFs (g : TypeId → Option (List CK)) (P : Program) : Nat → List Field → Option (List CK)
  | _, [] => some []
  | acc, f :: fs => if f.name ≠ "_" ∧ f.offset = acc then match g f.type, P.info? f.type, P.underlying f.type with
      | some n, some i, some d => if i.size = n.length ∧ 0 < n.length ∧ (isAggD d = true ∨ n.length = 1) then (eqFs g P (acc + n.length) fs).map (n ++ ·) else Option.none
      | _, _, _ => Option.none
    else Option.none

/-- A type whose values are compared cell by cell; the kinds of its cells. -/
def eqLay (P : Program) : Nat → TypeId → Option (List CK)
  | 0, _ => Option.none
  | d + 1, t => match P.underlying t with
    | some .bool => some [.b]
    | some (.int _) => some [.i]
    | some .string => some [.s]
    | some (.struct fs) => if P.stoodInHeld t then Option.none else eqFs (eqLay P d) P 0 fs.toList
    | _ => Option.none

theorem part_q {P : Program} {w0 : World} {m : Frag} {T : TypeId} {d : TypeDesc} {i : TypeInfo} {cs : Array Value} {off : Nat} (hd : P.underlying T = some d) (hi : P.info? T = some i)
    (h1 : isAggD d = true ∨ i.size = 1) (hl : off + i.size ≤ cs.size) : SQ P w0 m (part T cs off) = some (ldV (isAggD d) ((cs.toList.drop off).take i.size)) := by
  unfold part
  show SQ P w0 m (Sem.bind (isAgg T) _) = _
  rw [SQ_bind]
  have hA : SQ P w0 m (isAgg T) = some (isAggD d) := by
    unfold isAgg
    show SQ P w0 m (Sem.bind (underlying T) _) = _
    rw [SQ_bind, SQ_underlying hd, Option.bind_some]
    cases d <;> rfl
  rw [hA, Option.bind_some]
  cases hd' : isAggD d with
  | true =>
    simp only [if_true]
    show SQ P w0 m (Sem.bind (sizeOf T) _) = _
    rw [SQ_bind, SQ_sizeOf hi, Option.bind_some]
    show some (Value.agg (cs.extract off (off + i.size))) = _
    unfold ldV
    simp only [if_true]
    congr 2
    apply Array.ext'
    simp [Array.toList_extract, List.extract_eq_take_drop]
  | false =>
    have hs : i.size = 1 := by rcases h1 with h1 | h1; rw [hd'] at h1; cases h1; exact h1
    simp only [Bool.false_eq_true, if_false]
    have hlt : off < cs.size := by omega
    rw [Array.getElem?_eq_getElem hlt]
    show some cs[off] = _
    have hlt' : off < cs.toList.length := by simpa using hlt
    rw [hs, List.drop_eq_getElem_cons hlt']
    simp [ldV]

theorem eqLoop {P : Program} {w0 : World} {m : Frag} {g : TypeId → Option (List CK)} {eqI : TypeId → Value → Value → Sem Bool}
    (hg : ∀ {t : TypeId} {ks : List CK} {ds : TypeDesc} {xs ys : List Value} {b : Bool}, g t = some ks → P.underlying t = some ds → cellsEq ks xs ys = some b → SQ P w0 m (eqI t (ldV (isAggD ds) xs) (ldV (isAggD ds) ys)) = some b) {X Y : Array Value} :
    ∀ (fs : List Field) (acc : Nat) (ks : List CK) (b : Bool), eqFs g P acc fs = some ks → cellsEq ks (X.toList.drop acc) (Y.toList.drop acc) = some b →
      SQ P w0 m (forIn fs ((Option.none, ()) : Option Bool × Unit) fun f _ => if f.name ≠ "_" then Sem.bind (part f.type X f.offset) fun u => Sem.bind (part f.type Y f.offset) fun v => Sem.bind (eqI f.type u v) fun e => if (!e) = true then pure (ForInStep.done (some false, ())) else pure (ForInStep.yield (Option.none, ()))
        else pure (ForInStep.yield (Option.none, ()))) = some (if b then (Option.none, ()) else (some false, ())) := by
  intro fs
  induction fs with
  | nil =>
    intro acc ks b hf hb
    cases hf
    have := cellsEq_len hb
    have h1 : X.toList.drop acc = [] := List.eq_nil_of_length_eq_zero this.1
    have h2 : Y.toList.drop acc = [] := List.eq_nil_of_length_eq_zero this.2
    rw [h1, h2] at hb
    cases hb
    rfl
  | cons f fs ih =>
    intro acc ks b hf hb
    unfold eqFs at hf
    split at hf
    · rename_i hc
      obtain ⟨hn, hoff⟩ := hc
      split at hf
      · rename_i n i d h1 h2 h3
        split at hf
        · rename_i hs
          simp only [Option.map_eq_some_iff] at hf
          obtain ⟨ls, hls, rfl⟩ := hf
          have hlen := cellsEq_len hb
          simp only [List.length_append, List.length_drop, Array.length_toList] at hlen
          obtain ⟨x, y, hx, hy, rfl⟩ := cellsEq_app hb
          have hxl := (cellsEq_len hx).1
          rw [List.forIn_cons, sbind, SQ_bind]
          have e1 : SQ P w0 m (part f.type X f.offset) = some (ldV (isAggD d) ((X.toList.drop acc).take n.length)) := by
            rw [hoff, ← hs.1]
            refine part_q h3 h2 (by rw [hs.1]; exact hs.2.2) ?_
            have := hs.2.1
            omega
          have e2 : SQ P w0 m (part f.type Y f.offset) = some (ldV (isAggD d) ((Y.toList.drop acc).take n.length)) := by
            rw [hoff, ← hs.1]
            refine part_q h3 h2 (by rw [hs.1]; exact hs.2.2) ?_
            have := hs.2.1
            omega
          have e3 := hg h1 h3 hx
          rw [if_pos hn, SQ_bind, e1, Option.bind_some, SQ_bind, e2, Option.bind_some, SQ_bind, e3, Option.bind_some]
          cases x with
          | false => rfl
          | true =>
            rw [List.drop_drop, List.drop_drop] at hy
            have := ih (acc + n.length) ls y hls hy
            rw [Bool.true_and]
            exact this
        · cases hf
      · cases hf
    · cases hf

theorem eqLay_q {P : Program} {w0 : World} {m : Frag} : ∀ (d : Nat) {t : TypeId} {ks : List CK} {ds : TypeDesc} {xs ys : List Value} {b : Bool}, eqLay P d t = some ks → P.underlying t = some ds → cellsEq ks xs ys = some b →
    SQ P w0 m (Op.equalIn d t (ldV (isAggD ds) xs) (ldV (isAggD ds) ys)) = some b
  | 0, t, ks, ds, xs, ys, b, h, _, _ => by cases h
  | d + 1, t, ks, ds, xs, ys, b, h, hu, hb => by
    unfold eqLay at h
    rw [hu] at h
    have one : ∀ {c : CK}, ks = [c] → ∃ u v, xs = [u] ∧ ys = [v] ∧ cell1 c u v = some b := fun {c} h1 => by
      subst h1
      have hl := cellsEq_len hb
      match xs, hl.1, ys, hl.2 with
      | [u], _, [v], _ =>
        simp only [cellsEq, Option.bind_eq_some_iff, Option.bind_some, Option.some.injEq, Bool.and_true] at hb
        obtain ⟨e, he, rfl⟩ := hb
        exact ⟨u, v, rfl, rfl, he⟩
    cases ds <;> simp only at h <;> try (cases h; done)
    case bool =>
      cases h
      obtain ⟨u, v, rfl, rfl, he⟩ := one rfl
      cases u <;> cases v <;> simp only [cell1] at he <;> first | (cases he; done) | skip
      cases he
      show SQ P w0 m (Op.equalIn (d + 1) t (.bool _) (.bool _)) = _
      unfold Op.equalIn
      simp only [sbind, SQ_bind, SQ_underlying hu, Option.bind_some]
      rfl
    case int k =>
      cases h
      obtain ⟨u, v, rfl, rfl, he⟩ := one rfl
      cases u <;> cases v <;> simp only [cell1] at he <;> first | (cases he; done) | skip
      split at he
      · rename_i hk
        cases he
        subst hk
        show SQ P w0 m (Op.equalIn (d + 1) t (.int _ _) (.int _ _)) = _
        unfold Op.equalIn
        simp only [sbind, SQ_bind, SQ_underlying hu, Option.bind_some, if_true]
        rename_i a c
        by_cases hac : a = c <;> simp [hac, SQ, pure]
      · cases he
    case string =>
      cases h
      obtain ⟨u, v, rfl, rfl, he⟩ := one rfl
      cases u <;> cases v <;> simp only [cell1] at he <;> first | (cases he; done) | skip
      cases he
      show SQ P w0 m (Op.equalIn (d + 1) t (.string _) (.string _)) = _
      unfold Op.equalIn
      simp only [sbind, SQ_bind, SQ_underlying hu, Option.bind_some]
      rename_i a c
      have hbe : ∀ a c : ByteArray, (a == c) = decide (a = c) := fun a c => by
        have : (a == c) = (a.data == c.data) := rfl
        rw [this]
        by_cases hac : a = c
        · simp [hac]
        · have : ¬ a.data = c.data := fun h' => hac (ByteArray.ext h')
          simp [hac, this]
      show some (a == c) = _
      rw [hbe]
    case struct fs =>
      split at h
      · cases h
      · rename_i hst
        show SQ P w0 m (Op.equalIn (d + 1) t (.agg xs.toArray) (.agg ys.toArray)) = _
        unfold Op.equalIn
        simp only [sbind, SQ_bind, SQ_underlying hu, Option.bind_some]
        have hP : SQ P w0 m program = some P := rfl
        rw [hP, Option.bind_some, if_neg hst]
        have := eqLoop (P := P) (w0 := w0) (m := m) (g := eqLay P d) (eqI := Op.equalIn d) (fun h1 h2 h3 => eqLay_q d h1 h2 h3) (X := xs.toArray) (Y := ys.toArray) fs.toList 0 ks b h (by simpa using hb)
        rw [SQ_bind, ← Array.forIn_toList, this, Option.bind_some]
        cases b <;> rfl

/-- Comparing values of a struct type. -/
def structV (neg : Bool) (ks : List CK) (x y : Value) : Option Value := match x, y with
  | .agg a, .agg b => (cellsEq ks a.toList b.toList).map fun r => .bool (if neg then !r else r)
  | _, _ => Option.none

def seOf (P : Program) (T : TypeId) : Option (List CK) := match P.underlying T with
  | some (.struct _) => if P.eqGuardType P.depth T then Option.none else eqLay P Op.maxDepth T
  | _ => Option.none

theorem structV_q {P : Program} {w0 : World} {m : Frag} {t : Tm} {neg : Bool} {T U : TypeId} {ks : List CK} {x y : Operand} {ty : TypeId} {v : Value} (hT : seOf P T = some ks) (h : structV neg ks (evt t x) (evt t y) = some v) :
    qv P w0 m t (.binOp (if neg then .neq else .eql) T x y U) ty = some v := by
  unfold seOf at hT
  split at hT
  · rename_i fs hu
    split at hT
    · cases hT
    · rename_i hg
      have he : ∀ op, execF (evt t) (.binOp op T x y U) ty = Sem.bind (do eqGuard op T x y (evt t x) (evt t y); binOp op T (evt t x) (evt t y)) fun v => Sem.pure (.value v) := fun op => rfl
      refine qv_of (he _) ?_
      unfold structV at h
      split at h
      · rename_i a b hx hy
        simp only [Option.map_eq_some_iff] at h
        obtain ⟨r, hr, rfl⟩ := h
        rw [hx, hy]
        have heq : SQ P w0 m (Op.equal T (.agg a) (.agg b)) = some r := by
          have := eqLay_q (P := P) (w0 := w0) (m := m) Op.maxDepth hT hu hr
          exact this
        have hgd : ∀ op : BinOp, (op = .eql ∨ op = .neq) → SQ P w0 m (eqGuard op T x y (.agg a) (.agg b)) = some () := fun op hop => by
          unfold eqGuard
          have hP : SQ P w0 m program = some P := rfl
          have key : SQ P w0 m (Sem.bind program fun p => Sem.bind program fun q => if (!(p.eqGuardType q.depth T)) = true then pure () else Sem.bind (Op.eqGuardIn Op.maxDepth T (.agg a) (.agg b)) fun z => if z = true then unsupported (.noEntry "binop/eql: two nil values of an interface type with methods, in a part of a struct or an array") else pure ()) = some () := by
            rw [SQ_bind, hP, Option.bind_some, SQ_bind, hP, Option.bind_some, if_pos (by simp [hg])]; rfl
          rcases hop with rfl | rfl
          · exact key
          · exact key
        show SQ P w0 m (Sem.bind _ _) = _
        cases neg with
        | false =>
          simp only [Bool.false_eq_true, if_false]
          rw [SQ_bind, hgd .eql (Or.inl rfl), Option.bind_some]
          show SQ P w0 m (Sem.bind (Op.equal T (.agg a) (.agg b)) _) = _
          rw [SQ_bind, heq]; rfl
        | true =>
          simp only [if_true]
          rw [SQ_bind, hgd .neq (Or.inr rfl), Option.bind_some]
          show SQ P w0 m (Sem.bind (Op.equal T (.agg a) (.agg b)) _) = _
          rw [SQ_bind, heq]; rfl
      · cases h
  · cases hT

end Go.Proofs.YtemaflbbcihilaaDoor.Fl

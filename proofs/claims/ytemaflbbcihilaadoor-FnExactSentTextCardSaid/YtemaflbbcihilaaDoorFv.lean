/- What some operations come to over fragments: values and rows built, rows made, appended to, cut and copied. No conditions. -/
import Derived.Test.YtemaflbbcihilaaDoorFu
import Derived.IntWalk
namespace Go.Proofs.YtemaflbbcihilaaDoor.Fl
open Go Go.RowKit
set_option linter.unusedSimpArgs false
set_option linter.unusedVariables false

theorem SQ_underlying {P : Program} {w0 : World} {m : Frag} {T : TypeId} {d : TypeDesc} (h : P.underlying T = some d) : SQ P w0 m (underlying T) = some d := by
  show SQ P w0 m (match P.underlying T with
    | some d => pure d
    | Option.none => stuck "no such type") = _
  rw [h]; rfl

theorem SQ_typeInfo {P : Program} {w0 : World} {m : Frag} {T : TypeId} {i : TypeInfo} (h : P.info? T = some i) : SQ P w0 m (typeInfo T) = some i := by
  show SQ P w0 m (match P.info? T with
    | some i => pure i
    | Option.none => stuck "no such type") = _
  rw [h]; rfl

theorem SQ_sizeOf {P : Program} {w0 : World} {m : Frag} {T : TypeId} {i : TypeInfo} (h : P.info? T = some i) : SQ P w0 m (sizeOf T) = some i.size := by
  show SQ P w0 m (Sem.bind (typeInfo T) _) = _
  rw [SQ_bind, SQ_typeInfo h]; rfl

theorem SQ_zeroValue {P : Program} {w0 : World} {m : Frag} {T : TypeId} {i : TypeInfo} {z : Value} (h : P.info? T = some i) (hz : i.zero = some z) : SQ P w0 m (zeroValue T) = some z := by
  show SQ P w0 m (Sem.bind (typeInfo T) _) = _
  rw [SQ_bind, SQ_typeInfo h, Option.bind_some]
  simp only [hz]; rfl

/-- What is quiet, run as what acts. -/
theorem SX_q {α β : Type} {P : Program} {w0 : World} {m : Frag} {s : Sem α} {f : α → Sem β} {v : α} {R : β → Frag → Prop} (h : SQ P w0 m s = some v) (k : SX P w0 (f v) m R) : SX P w0 (Sem.bind s f) m R := by
  rw [SX_bind]; exact SX_of_SQ s h k

theorem qv_of {P : Program} {w0 : World} {m : Frag} {t : Tm} {op : Op} {ty : TypeId} {s : Sem Value} {v : Value} (he : execF (evt t) op ty = Sem.bind s fun v => Sem.pure (.value v)) (h : SQ P w0 m s = some v) : qv P w0 m t op ty = some v := by
  unfold qv; rw [he, SQ_bind, h]; rfl

theorem sbind {α β : Type} (x : Sem α) (f : α → Sem β) : (x >>= f) = Sem.bind x f := rfl
theorem spure {α : Type} (a : α) : (pure a : Sem α) = Sem.pure a := rfl

/-! ### Values built of parts -/

def splice (cs : List Value) (off : Nat) (v : List Value) : List Value := cs.take off ++ v ++ cs.drop (off + v.length)

def spl (t : Tm) : List Value → List (Nat × Nat × Operand) → (List Value → Prop) → Prop
  | cs, [], K => K cs
  | cs, (off, size, x) :: l, K => (evt t x).cells.toList.length = size ∧ off + size ≤ cs.length ∧ spl t (splice cs off (evt t x).cells.toList) l K

theorem put_splice {off : Nat} : ∀ (l : List Value) (k : Nat) (cells : Array Value), off + k + l.length ≤ cells.size →
    (l.zipIdx k).foldl (fun cs p => cs.setIfInBounds (off + p.2) p.1) cells = (splice cells.toList (off + k) l).toArray
  | [], k, cells, _ => by simp [splice]
  | v :: l, k, cells, h => by
    simp only [List.length_cons] at h
    rw [List.zipIdx_cons, List.foldl_cons]
    show (l.zipIdx (k + 1)).foldl _ (cells.setIfInBounds (off + k) v) = _
    rw [put_splice l (k + 1) _ (by simp; omega)]
    unfold splice
    congr 1
    rw [Array.toList_setIfInBounds]
    have hlt : off + k < cells.toList.length := by simp; omega
    have e1 : (cells.toList.set (off + k) v).take (off + (k + 1)) = cells.toList.take (off + k) ++ [v] := by
      rw [← Nat.add_assoc, List.take_succ_eq_append_getElem (by simpa using hlt), List.take_set_of_le (Nat.le_refl _)]
      simp
    have e2 : (cells.toList.set (off + k) v).drop (off + (k + 1) + l.length) = cells.toList.drop (off + k + (v :: l).length) := by
      rw [List.drop_set_of_lt (by omega)]
      congr 1
      simp; omega
    rw [e1, e2]; simp

def partsOf (place : Nat → Option (Nat × Nat)) : List (Nat × Operand) → Option (List (Nat × Nat × Operand))
  | [] => some []
  | (i, x) :: l => match place i, partsOf place l with
    | some (off, size), some r => some ((off, size, x) :: r)
    | _, _ => Option.none

theorem spl_fill {t : Tm} {place : Nat → Option (Nat × Nat)} {K : List Value → Prop} : ∀ (ps : List (Nat × Operand)) (qs : List (Nat × Nat × Operand)) (cs : List Value), partsOf place ps = some qs → spl t cs qs K →
    ∃ cs', Instr.fill place cs.toArray (ps.map fun p => (p.1, evt t p.2)) = some cs'.toArray ∧ K cs'
  | [], qs, cs, h, hs => by simp only [partsOf, Option.some.injEq] at h; subst h; exact ⟨cs, rfl, hs⟩
  | (i, x) :: l, qs, cs, h, hs => by
    simp only [partsOf] at h
    split at h
    · rename_i off size r hp hr
      cases h
      obtain ⟨h1, h2, h3⟩ := hs
      obtain ⟨cs', h4, h5⟩ := spl_fill l r _ hr h3
      refine ⟨cs', ?_, h5⟩
      rw [List.map_cons]
      unfold Instr.fill
      simp only [hp]
      rw [Array.length_toList] at h1
      rw [if_neg (by simp [h1]; omega)]
      have := put_splice (off := off) (evt t x).cells.toList 0 cs.toArray (by simp [h1]; omega)
      rw [Nat.add_zero] at this
      rw [← h4]
      congr 1
      rw [← this, ← Array.foldl_toList, Array.toList_zipIdx]
    · cases h

def placesOf (P : Program) : List Field → Option (List (Nat × Nat))
  | [] => some []
  | f :: l => match P.info? f.type, placesOf P l with
    | some i, some r => some ((f.offset, i.size) :: r)
    | _, _ => Option.none

theorem places_q {P : Program} {w0 : World} {m : Frag} : ∀ (l : List Field) (r : List (Nat × Nat)), placesOf P l = some r → SQ P w0 m (l.mapM fun f => do pure (f.offset, ← sizeOf f.type)) = some r
  | [], r, h => by simp only [placesOf, Option.some.injEq] at h; subst h; rfl
  | f :: l, r, h => by
    simp only [placesOf] at h
    split at h
    · rename_i i q hi hq
      cases h
      rw [List.mapM_cons]
      show SQ P w0 m (Sem.bind (Sem.bind (sizeOf f.type) _) _) = _
      rw [SQ_bind, SQ_bind, SQ_sizeOf hi]
      show SQ P w0 m (Sem.bind _ _) = _
      rw [SQ_bind, places_q l q hq]; rfl
    · cases h

theorem build_q {P : Program} {w0 : World} {m : Frag} {t : Tm} {T : TypeId} {i : TypeInfo} {z : Value} {fs : Array Field} {pl : List (Nat × Nat)} {ps : Array (Nat × Operand)} {qs : List (Nat × Nat × Operand)} {K : List Value → Prop}
    (hi : P.info? T = some i) (hz : i.zero = some z) (hT : P.underlying T = some (.struct fs)) (hp : placesOf P fs.toList = some pl) (hq : partsOf (pl[·]?) ps.toList = some qs) (h : spl t z.cells.toList qs K) :
    ∃ cs, SQ P w0 m (Instr.build T (ps.map fun p => (p.1, evt t p.2))) = some (.agg cs.toArray) ∧ K cs := by
  obtain ⟨cs, h1, h2⟩ := spl_fill _ _ _ hq h
  refine ⟨cs, ?_, h2⟩
  unfold Instr.build
  show SQ P w0 m (Sem.bind (zeroValue T) _) = _
  rw [SQ_bind, SQ_zeroValue hi hz, Option.bind_some]
  show SQ P w0 m (Sem.bind (underlying T) _) = _
  rw [SQ_bind, SQ_underlying hT, Option.bind_some]
  simp only []
  show SQ P w0 m (Sem.bind (fs.mapM fun f => do pure (f.offset, ← sizeOf f.type)) _) = _
  rw [SQ_bind]
  have : SQ P w0 m (fs.mapM fun f => do pure (f.offset, ← sizeOf f.type)) = some pl.toArray := by
    rw [Array.mapM_eq_mapM_toList]
    show SQ P w0 m (Sem.bind _ _) = _
    rw [SQ_bind, places_q _ _ hp]; rfl
  rw [this, Option.bind_some]
  have e : (fun i : Nat => pl.toArray[i]?) = fun i : Nat => pl[i]? := by funext i; simp
  simp only [e, Array.toList_map]
  rw [Array.toArray_toList] at h1
  rw [h1]; rfl

/-- A row of n zero elements. -/
def zrow (z : Value) (n : Nat) : List Value := ((Array.range n).map (fun i => z.cells[i % z.cells.size]!)).toList

theorem buildSlice_sx {P : Program} {w0 : World} {m : Frag} {t : Tm} {T e : TypeId} {j : TypeInfo} {z : Value} {k : Nat} {ps : Array (Nat × Operand)} {qs : List (Nat × Nat × Operand)} {R : Value → Frag → Prop}
    (hT : P.underlying T = some (.slice e)) (hj : P.info? e = some j) (hz : j.zero = some z) (hk : k * j.size ≤ 4096) (hq : partsOf (fun i => some (i * j.size, j.size)) ps.toList = some qs)
    (h : spl t (zrow z (k * j.size)) qs fun cs => ∀ n, w0.heap.size ≤ n → m n = Option.none → R (.slice (some ⟨n, 0, Option.none⟩) k k) (m.set n (.cells cs cs.length e))) :
    SX P w0 (Instr.buildSlice T k (ps.map fun p => (p.1, evt t p.2))) m R := by
  obtain ⟨cs, h1, h2⟩ := spl_fill _ _ _ hq h
  unfold Instr.buildSlice
  refine SX_q (SQ_underlying hT) ?_
  simp only []
  refine SX_q (SQ_sizeOf hj) ?_
  rw [if_neg (by omega)]
  have fin : ∀ zero : Array Value, ((Array.range (k * j.size)).map (fun i => zero[i % zero.size]!)) = (zrow z (k * j.size)).toArray →
      SX P w0 (do
        let some cells := Instr.fill (fun i => some (i * j.size, j.size)) ((Array.range (k * j.size)).map (fun i => zero[i % zero.size]!)) (ps.map fun p => (p.1, evt t p.2)).toList
          | stuck "buildSlice: a part of the wrong size"
        pure (Value.slice (some (← newRow e cells)) k k)) m R := by
    intro zero hzero
    rw [hzero, Array.toList_map, h1]
    show SX P w0 (Sem.new (.cells cs.toArray e) _) m R
    refine ⟨rfl, fun n hB hn => ?_⟩
    exact h2 n hB hn
  split
  · rename_i h0
    show SX P w0 (Sem.bind (Sem.pure #[]) _) m R
    refine SX_q (v := #[]) rfl ?_
    exact fin #[] (by simp [h0, zrow])
  · refine SX_q (SQ_zeroValue hj hz) ?_
    refine SX_q (v := z.cells) rfl ?_
    exact fin z.cells (by unfold zrow; rw [Array.toArray_toList])

/-! ### Rows made -/

/-- n elements of zero, as one list. -/
def reps (z : List Value) (n : Nat) : List Value := (List.replicate n z).flatten

theorem zrow_eq {z : Value} (n : Nat) (h : 0 < z.cells.size) : zrow z (n * z.cells.size) = reps z.cells.toList n := by
  unfold zrow reps
  rw [Array.toList_map, Array.toList_range]
  induction n with
  | zero => simp
  | succ n ih =>
    rw [Nat.succ_mul, List.range_add, List.map_append, ih, List.replicate_succ', List.flatten_append]
    congr 1
    simp only [List.map_map, List.flatten_cons, List.flatten_nil, List.append_nil]
    apply List.ext_getElem
    · simp
    · intro i h1 h2
      simp only [List.length_map, List.length_range] at h1
      simp only [List.getElem_map, List.getElem_range, Function.comp]
      have : (n * z.cells.size + i) % z.cells.size = i := by rw [Nat.add_comm, Nat.add_mul_mod_self_right, Nat.mod_eq_of_lt h1]
      rw [this]
      simp [h1]

theorem wrap_id {x : Int} (h0 : -(2 ^ 63) ≤ x) (h : x < 2 ^ 63) : IntKind.i64.wrap x = x := IntWalk.i64_in x ⟨by omega, by omega⟩

theorem SX_askRoom {P : Program} {w0 : World} {m : Frag} {b : Nat} {β : Type} {f : Unit → Sem β} {R : β → Frag → Prop} (h : SX P w0 (f ()) m R) : SX P w0 (Sem.bind (askRoom b) f) m R := by
  unfold askRoom
  split
  · exact h
  · exact h

theorem makeSlice_sx {P : Program} {w0 : World} {m : Frag} {T e : TypeId} {j : TypeInfo} {z : Value} {kx ky : IntKind} {l c : Nat} {R : Value → Frag → Prop}
    (hT : P.underlying T = some (.slice e)) (hj : P.info? e = some j) (hz : j.zero = some z) (hs : z.cells.size = j.size) (h0 : 0 < j.size) (hl : l ≤ c) (hc : c * 2 ^ 20 ≤ 2 ^ 48) (hb : j.bytes ≤ 2 ^ 20)
    (h : ∀ n, w0.heap.size ≤ n → m n = Option.none → R (.slice (some ⟨n, 0, Option.none⟩) l c) (m.set n (.cells (reps z.cells.toList c) (c * j.size) e))) :
    SX P w0 (Instr.makeSlice T (.int kx l) (.int ky c)) m R := by
  unfold Instr.makeSlice
  refine SX_q (SQ_underlying hT) ?_
  simp only []
  refine SX_q (v := (l : Int)) rfl ?_
  refine SX_q (v := (c : Int)) rfl ?_
  refine SX_q (SQ_typeInfo hj) ?_
  have hc' : c < 2 ^ 28 + 1 := by omega
  have hl' : l < 2 ^ 28 + 1 := by omega
  rw [wrap_id (by omega) (by omega), wrap_id (by omega) (by omega)]
  have hbc : (j.bytes : Int) * c ≤ 2 ^ 48 := by
    have h1 : j.bytes * c ≤ 2 ^ 20 * c := Nat.mul_le_mul_right _ hb
    have : j.bytes * c ≤ 2 ^ 48 := by omega
    exact_mod_cast this
  have c1 : ¬ ((c : Int) < 0) := by omega
  have c2 : ¬ ((j.bytes : Int) * c > 2 ^ 48) := by omega
  have c3 : ¬ ((l : Int) < 0) := by omega
  have c4 : ¬ ((l : Int) > c) := by omega
  simp only [c1, c2, c3, c4, decide_false, Bool.or_false, Bool.false_eq_true, or_false, if_false]
  refine SX_askRoom ?_
  refine SX_q (SQ_sizeOf hj) ?_
  simp only [Int.toNat_natCast]
  have fin : ∀ zero : Array Value, ((Array.range (c * j.size)).map (fun i => zero[i % zero.size]!)) = (reps z.cells.toList c).toArray →
      SX P w0 (do
        let a ← newRow e ((Array.range (c * j.size)).map (fun i => zero[i % zero.size]!))
        pure (Value.slice (some a) l c)) m R := by
    intro zero hzero
    rw [hzero]
    show SX P w0 (Sem.new (.cells (reps z.cells.toList c).toArray e) _) m R
    refine ⟨rfl, fun n hB hn => ?_⟩
    have hlen : (reps z.cells.toList c).toArray.size = c * j.size := by simp [reps, hs]
    have := h n hB hn
    rw [← hlen] at this
    exact this
  split
  · rename_i hz0
    refine SX_q (v := #[]) rfl ?_
    refine fin #[] ?_
    rw [hz0]
    have : c = 0 := by rcases Nat.mul_eq_zero.1 hz0 with h | h <;> omega
    subst this; simp [reps]
  · refine SX_q (SQ_zeroValue hj hz) ?_
    refine SX_q (v := z.cells) rfl ?_
    refine fin z.cells ?_
    rw [← zrow_eq _ (by omega)]
    unfold zrow; rw [Array.toArray_toList, hs]

/-! ### Rows appended to -/

def delS (m : Frag) : Value → Frag
  | .slice (some a) _ _ => m.del a.block
  | _ => m

def isNilS : Value → Bool
  | .slice Option.none _ _ => true
  | _ => false

/-- A slice that owns its whole block: its elements' cells, and those behind them. -/
def ownS (w0 : World) (m : Frag) (es : Nat) (e : TypeId) (v : Value) (k : Nat) (cs : List Value) : Prop := match v with
  | .slice Option.none k' c => k = 0 ∧ k' = 0 ∧ c = 0 ∧ cs = []
  | .slice (some ⟨n, o, Option.none⟩) k' c => k' = k ∧ o = 0 ∧ k ≤ c ∧ w0.heap.size ≤ n ∧ cs.length = k * es ∧ ∃ rest, cs.length + rest.length = c * es ∧ m n = some (.cells (cs ++ rest) (c * es) e)
  | _ => False

/-- What a slice or a text holds, to be read. -/
def srcS (w0 : World) (m : Frag) (es : Nat) (v : Value) (j : Nat) (ys : List Value) : Prop := match v with
  | .slice Option.none k _ => j = 0 ∧ k = 0 ∧ ys = []
  | .slice (some ⟨n, o, Option.none⟩) k _ => j = k ∧ ∃ cs, row w0 m n = some cs ∧ o + k * es ≤ cs.length ∧ ys = (cs.drop o).take (k * es)
  | .string s => es = 1 ∧ j = s.size ∧ ys = (s.data.map fun b => .int .u8 b.toNat).toList
  | _ => False

theorem growBy_le (n : Nat) : ∀ (r c : Nat), c ≤ 2 * n + 256 → Builtin.growBy n r c ≤ 2 * n + 256
  | 0, c, h => h
  | r + 1, c, h => by
    unfold Builtin.growBy
    split
    · exact h
    · exact growBy_le n r _ (by omega)

theorem nextcap_le {n c : Nat} (h : c < n) : Builtin.nextslicecap n c ≤ 2 * n + 256 := by
  unfold Builtin.nextslicecap
  split
  · omega
  · split
    · omega
    · exact growBy_le n 4 c (by omega)

theorem cells_q {P : Program} {w0 : World} {m : Frag} {es : Nat} {v : Value} {j : Nat} {ys : List Value} (h : srcS w0 m es v j ys) : SQ P w0 m (Builtin.firstCells es j v) = some ys.toArray := by
  unfold srcS at h
  split at h
  · obtain ⟨h1, _, h2⟩ := h; subst h1 h2; rfl
  · obtain ⟨h1, cs, hr, hl, h2⟩ := h
    subst h1 h2
    show SQ P w0 m (loadCells _ _) = _
    unfold loadCells
    rw [loadCellsFrom_q hr _ 0 _ (by omega)]
    simp
  · obtain ⟨h0, h1, h2⟩ := h
    subst h1 h2
    rename_i s
    show some (((s.extract 0 s.size).data.map fun b => Value.int .u8 b.toNat)) = _
    have : s.extract 0 s.size = s := by
      apply ByteArray.ext
      rw [ByteArray.data_extract, ← ByteArray.size_data, Array.extract_size]
    rw [this, Array.toArray_toList]
  · exact h.elim

theorem lenOf_q {P : Program} {w0 : World} {m : Frag} {es : Nat} {v : Value} {j : Nat} {ys : List Value} (h : srcS w0 m es v j ys) : SQ P w0 m (Builtin.lenOf v) = some j := by
  unfold srcS at h
  split at h
  · obtain ⟨h1, h3, h2⟩ := h; subst h1 h3; rfl
  · obtain ⟨h1, _⟩ := h; subst h1; rfl
  · obtain ⟨_, h1, _⟩ := h; subst h1; rfl
  · exact h.elim

theorem src_len {w0 : World} {m : Frag} {es : Nat} {v : Value} {j : Nat} {ys : List Value} (h : srcS w0 m es v j ys) : ys.length = j * es := by
  unfold srcS at h
  split at h
  · obtain ⟨h1, _, h2⟩ := h; subst h1 h2; simp
  · obtain ⟨h1, cs, hr, hl, h2⟩ := h
    subst h1 h2; simp; omega
  · obtain ⟨h0, h1, h2⟩ := h
    subst h0 h1 h2; simp
  · exact h.elim

def plainSrc : TypeDesc → Bool
  | .slice _ | .string => true
  | _ => false

theorem append_sx {P : Program} {w0 : World} {m : Frag} {T X e ty : TypeId} {dX : TypeDesc} {j : TypeInfo} {z xv sv : Value} {k n : Nat} {cs ys : List Value} {R : Value → Frag → Prop}
    (hT : P.underlying T = some (.slice e)) (hX : P.underlying X = some dX) (hd : plainSrc dX = true) (hj : P.info? e = some j) (hz : j.zero = some z) (hs : z.cells.size = j.size) (h0 : 0 < j.size) (hb : j.bytes ≤ 2 ^ 12)
    (hx : ownS w0 m j.size e xv k cs) (hy : srcS w0 m j.size sv n ys) (hone : ∀ y ∈ ys, oneC y = true) (hn : k + n ≤ 2 ^ 34)
    (hnil : isNilS xv = true → n = 0 → R (.slice Option.none 0 0) m)
    (h : (isNilS xv = true → n ≠ 0) → ∀ b c rest, w0.heap.size ≤ b → delS m xv b = Option.none → k + n ≤ c → (cs ++ ys).length + rest.length = c * j.size →
      R (.slice (some ⟨b, 0, Option.none⟩) (k + n) c) ((delS m xv).set b (.cells (cs ++ ys ++ rest) (c * j.size) e))) :
    SX P w0 (Builtin.append_ #[T, X] ty #[xv, sv]) m fun v m' => ∃ m'', Ext m'' m' ∧ R v m'' := by
  have hyl := src_len hy
  unfold Builtin.append_
  simp only [List.getElem?_toArray, List.getElem?_cons_zero, List.getElem?_cons_succ]
  refine SX_q (SQ_underlying hT) ?_
  simp only []
  have hcap : ∀ c : Nat, c < k + n → ¬ (Builtin.nextslicecap (k + n) c * j.bytes > 2 ^ 48) := fun c hc => by
    have h1 := nextcap_le hc
    have h2 : Builtin.nextslicecap (k + n) c * j.bytes ≤ (2 * (k + n) + 256) * 2 ^ 12 := Nat.mul_le_mul h1 hb
    omega
  have hmax : ¬ (((k + n : Nat) : Int) > IntKind.i64.max) := by
    have : IntKind.i64.max = 2 ^ 63 - 1 := rfl
    rw [this]; omega
  have tail : ∀ (b : Option Addr) (sCap : Nat), xv = .slice b k sCap → sCap < k + n → SQ P w0 m (Builtin.firstCells j.size k xv) = some cs.toArray → cs.length = k * j.size → (isNilS xv = true → n ≠ 0) → 
      (∀ q, m q = Option.none → ∀ l, Ext ((delS m xv).set q l) (m.set q l)) → (∀ q, m q = Option.none → delS m xv q = Option.none) → SX P w0 (do
        let newCap ← choose (.appendCap (k + n) sCap e)
        askRoom (newCap * (← typeInfo e).bytes)
        let old ← Builtin.firstCells j.size k xv
        let new ← Builtin.firstCells j.size n sv
        let rest := Builtin.zeroCells (← zeroValue e).cells (newCap - (k + n))
        pure (.slice (some (← newRow e (old ++ new ++ rest))) (k + n) newCap)) m fun v m' => ∃ m'', Ext m'' m' ∧ R v m'' := by
    intro b sCap hxv hsc hold hcl hnz hext hdel
    show SX P w0 (Sem.choose _ _) m _
    unfold SX
    rw [if_neg (by simp [Question.forced] : ¬ (Question.appendCap (k + n) sCap e).forced = true)]
    intro q
    have hge : k + n ≤ (Question.appendCap (k + n) sCap e).cut q := Nat.le_add_right _ _
    generalize (Question.appendCap (k + n) sCap e).cut q = newCap at hge
    refine SX_q (v := newCap) rfl ?_
    refine SX_q (SQ_typeInfo hj) ?_
    refine SX_askRoom ?_
    refine SX_q hold ?_
    refine SX_q (cells_q hy) ?_
    refine SX_q (SQ_zeroValue hj hz) ?_
    show SX P w0 (Sem.new (.cells _ e) _) m _
    refine ⟨rfl, fun q hB hq => ?_⟩
    refine ⟨(delS m xv).set q (.cells (cs ++ ys ++ (Builtin.zeroCells z.cells (newCap - (k + n))).toList) (newCap * j.size) e), ?_, h hnz q newCap _ hB (hdel q hq) hge ?_⟩
    · have e1 : (cs.toArray ++ ys.toArray ++ Builtin.zeroCells z.cells (newCap - (k + n))).toList = cs ++ ys ++ (Builtin.zeroCells z.cells (newCap - (k + n))).toList := by simp
      have e2 : (cs.toArray ++ ys.toArray ++ Builtin.zeroCells z.cells (newCap - (k + n))).size = newCap * j.size := by
        simp only [Array.size_append, List.size_toArray, hcl, hyl, Builtin.zeroCells, Array.size_map, Array.size_range, hs]
        rw [← Nat.add_mul, ← Nat.add_mul]; congr 1; omega
      rw [← e1, ← e2]
      exact hext q hq _
    · simp only [List.length_append, hcl, hyl, Builtin.zeroCells, Array.length_toList, Array.size_map, Array.size_range, hs]
      rw [← Nat.add_mul, ← Nat.add_mul]; congr 1; omega
  have hz0 : ∀ d : TypeDesc, plainSrc d = true → SQ P w0 m (pure (match d with | .int _ => true | _ => false)) = some false := fun d hd => by cases d <;> first | rfl | cases hd
  unfold ownS at hx
  split at hx
  · obtain ⟨h1, h2, h3, h4⟩ := hx
    subst h1 h2 h3 h4
    simp only []
    refine SX_q (SQ_sizeOf hj) ?_
    refine SX_q (SQ_underlying hX) ?_
    refine SX_q (hz0 dX hd) ?_
    simp only [Bool.false_eq_true, if_false]
    refine SX_q (lenOf_q hy) ?_
    simp only [Nat.zero_add] at hmax hcap tail ⊢
    by_cases hn0 : n ≤ 0
    · have : n = 0 := by omega
      subst this
      rw [if_pos hn0]
      refine SX_q (cells_q hy) ?_
      exact ⟨m, Ext.refl m, hnil rfl rfl⟩
    · rw [if_neg hn0]
      refine SX_q (SQ_typeInfo hj) ?_
      rw [if_neg (fun hh => hmax hh.1)]
      refine SX_q (SQ_typeInfo hj) ?_
      rw [if_neg (hcap 0 (by omega))]
      have := tail Option.none 0 rfl (by omega) rfl (by simp) (fun _ => by omega) (fun q hq l => Ext.refl _) (fun q hq => hq)
      exact this
  · rename_i b o k' c
    obtain ⟨h1, h2, hkc, hB0, hcl, rest, hcr, hb0⟩ := hx
    subst h1 h2
    simp only []
    refine SX_q (SQ_sizeOf hj) ?_
    refine SX_q (SQ_underlying hX) ?_
    refine SX_q (hz0 dX hd) ?_
    simp only [Bool.false_eq_true, if_false]
    refine SX_q (lenOf_q hy) ?_
    have hrow : row w0 m b = some (cs ++ rest) := row_own hB0 hb0
    have hdel : ∀ q, m q = Option.none → delS m (.slice (some ⟨b, 0, Option.none⟩) k' c) q = Option.none := fun q hq => by
      show (m.del b) q = _
      by_cases e : q = b
      · subst e; exact Frag.del_same _ _
      · rw [Frag.del_ne _ e]; exact hq
    by_cases hn0 : k' + n ≤ c
    · rw [if_pos hn0]
      refine SX_q (cells_q hy) ?_
      show SX P w0 (Sem.bind (storeCells _ _) _) m _
      rw [SX_bind, addr_add]
      have hle : (k' + n) * j.size ≤ c * j.size := Nat.mul_le_mul_right _ hn0
      rw [Nat.add_mul] at hle
      refine storeCells_x ys 0 m (cs ++ rest) hb0 hone (by simp only [List.length_append, Nat.zero_add, Nat.add_zero]; omega) (by simp only [List.length_append]; omega) ?_
      have e3 : (cs ++ rest).take (0 + k' * j.size + 0) = cs := by rw [Nat.zero_add, Nat.add_zero, ← hcl, List.take_left]
      have e4 : (cs ++ rest).drop (0 + k' * j.size + 0 + ys.length) = rest.drop ys.length := by
        rw [Nat.zero_add, Nat.add_zero, ← hcl, List.drop_append, List.drop_of_length_le (by omega), List.nil_append]; congr 1; omega
      rw [e3, e4]
      refine ⟨_, Ext.refl _, ?_⟩
      have e5 : m.set b (.cells (cs ++ ys ++ rest.drop ys.length) (c * j.size) e) = (delS m (.slice (some ⟨b, 0, Option.none⟩) k' c)).set b (.cells (cs ++ ys ++ rest.drop ys.length) (c * j.size) e) := by
        funext q
        by_cases eq : q = b
        · subst eq; rw [Frag.set_same, Frag.set_same]
        · rw [Frag.set_ne _ _ eq, Frag.set_ne _ _ eq]; exact (Frag.del_ne _ eq).symm
      rw [e5]
      refine h (fun hh => by cases hh) b c _ hB0 (Frag.del_same _ _) hn0 ?_
      simp only [List.length_append, List.length_drop]; omega
    · rw [if_neg hn0]
      refine SX_q (SQ_typeInfo hj) ?_
      rw [if_neg (fun hh => hmax hh.1)]
      refine SX_q (SQ_typeInfo hj) ?_
      rw [if_neg (hcap c (by omega))]
      have hold : SQ P w0 m (Builtin.firstCells j.size k' (.slice (some ⟨b, 0, Option.none⟩) k' c)) = some cs.toArray := by
        refine cells_q ⟨rfl, cs ++ rest, hrow, by simp only [List.length_append]; omega, ?_⟩
        rw [List.drop_zero, ← hcl, List.take_left]
      have := tail _ c rfl (by omega) hold hcl (fun hh => by cases hh) (fun q hq l => ?_) hdel
      · exact this
      · refine Frag.set_ext ?_ q l
        intro x y hx
        by_cases e : x = b
        · subst e; rw [show delS m (.slice (some ⟨x, 0, Option.none⟩) k' c) = m.del x from rfl, Frag.del_same] at hx; cases hx
        · rw [show delS m (.slice (some ⟨b, 0, Option.none⟩) k' c) = m.del b from rfl, Frag.del_ne _ e] at hx; exact hx
  · exact hx.elim

/-! ### Cutting -/

def bnd (t : Tm) (x : Option Operand) (dflt : Nat) : Option Nat := match x with
  | Option.none => some dflt
  | some x => match evt t x with
    | .int _ i => if 0 ≤ i then some i.toNat else Option.none
    | _ => Option.none

theorem sliceBound_q {P : Program} {w0 : World} {m : Frag} {v : Value} {i : Nat} {k : IntKind} {y : Nat} {code : BoundsCode} {z : Int} (hv : v = .int k z) (h0 : 0 ≤ z) (hi : z.toNat = i) (h : i ≤ y) : SQ P w0 m (Instr.sliceBound v y code) = some i := by
  subst hv
  show SQ P w0 m (if 0 ≤ z ∧ z ≤ y then pure z.toNat else boundsPanic k z y code) = _
  rw [if_pos ⟨h0, by omega⟩, hi]; rfl

theorem bnd_int {t : Tm} {x : Operand} {dflt i : Nat} (h : bnd t (some x) dflt = some i) : ∃ k z, evt t x = .int k z ∧ 0 ≤ z ∧ z.toNat = i := by
  simp only [bnd] at h
  split at h
  · rename_i k z hx
    split at h
    · cases h; exact ⟨_, _, hx, by assumption, rfl⟩
    · cases h
  · cases h

theorem sliceBounds_q {P : Program} {w0 : World} {m : Frag} {t : Tm} {isS : Bool} {len cap l h mx : Nat} {lo hi ma : Option Operand} (hok : hi.isSome = true ∨ ma = Option.none) (h1 : bnd t lo 0 = some l) (h2 : bnd t hi len = some h) (h3 : bnd t ma cap = some mx)
    (hl : l ≤ h) (hh : h ≤ mx) (hm : mx ≤ cap) : SQ P w0 m (Instr.sliceBounds isS len cap (lo.map (evt t)) (hi.map (evt t)) (ma.map (evt t))) = some (l, h, mx) := by
  unfold Instr.sliceBounds
  have hp : ∀ {α : Type} (a : α), SQ P w0 m (Sem.pure a) = some a := fun _ => rfl
  have low : ∀ code, SQ P w0 m (match lo.map (evt t) with | some v => Instr.sliceBound v h code | Option.none => Sem.pure 0) = some l := fun code => by
    cases lo with
    | none => cases h1; rfl
    | some x => obtain ⟨k, z, e1, e2, e3⟩ := bnd_int h1; exact sliceBound_q e1 e2 e3 hl
  cases ma with
  | none =>
    cases h3
    cases hi with
    | none =>
      cases h2
      cases lo with
      | none => cases h1; rfl
      | some x => obtain ⟨k, z, e1, e2, e3⟩ := bnd_int h1; simp only [Option.map, sbind, spure, SQ_bind, hp, Option.bind_some, sliceBound_q e1 e2 e3 hl]
    | some y =>
      obtain ⟨k', z', f1, f2, f3⟩ := bnd_int h2
      cases lo with
      | none => cases h1; simp only [Option.map, sbind, spure, SQ_bind, hp, Option.bind_some, sliceBound_q f1 f2 f3 hh]
      | some x => obtain ⟨k, z, e1, e2, e3⟩ := bnd_int h1; simp only [Option.map, sbind, spure, SQ_bind, hp, Option.bind_some, sliceBound_q f1 f2 f3 hh, sliceBound_q e1 e2 e3 hl]
  | some y0 =>
    obtain ⟨k0, z0, g1, g2, g3⟩ := bnd_int h3
    cases hi with
    | none => rcases hok with hok | hok <;> cases hok
    | some y =>
      obtain ⟨k', z', f1, f2, f3⟩ := bnd_int h2
      cases lo with
      | none => cases h1; simp only [Option.map, sbind, spure, SQ_bind, hp, Option.bind_some, sliceBound_q f1 f2 f3 hh, sliceBound_q g1 g2 g3 hm]
      | some x => obtain ⟨k, z, e1, e2, e3⟩ := bnd_int h1; simp only [Option.map, sbind, spure, SQ_bind, hp, Option.bind_some, sliceBound_q f1 f2 f3 hh, sliceBound_q e1 e2 e3 hl, sliceBound_q g1 g2 g3 hm]

theorem slice_q {P : Program} {w0 : World} {m : Frag} {t : Tm} {T e : TypeId} {j : TypeInfo} {a : Option Addr} {v : Value} {len cap l h mx : Nat} {lo hi ma : Option Operand} (hT : P.underlying T = some (.slice e)) (hj : P.info? e = some j)
    (hv : v = .slice a len cap) (hok : hi.isSome = true ∨ ma = Option.none) (h1 : bnd t lo 0 = some l) (h2 : bnd t hi len = some h) (h3 : bnd t ma cap = some mx)
    (hl : l ≤ h) (hh : h ≤ mx) (hm : mx ≤ cap) : SQ P w0 m (Instr.slice T v (lo.map (evt t)) (hi.map (evt t)) (ma.map (evt t))) = some (.slice (if mx = l then a else a.map (·.add (l * j.size))) (h - l) (mx - l)) := by
  subst hv
  unfold Instr.slice
  show SQ P w0 m (Sem.bind (underlying T) _) = _
  rw [SQ_bind, SQ_underlying hT, Option.bind_some]
  show SQ P w0 m (Sem.bind (Instr.sliceBounds true len cap (lo.map (evt t)) (hi.map (evt t)) (ma.map (evt t))) _) = _
  rw [SQ_bind, sliceBounds_q hok h1 h2 h3 hl hh hm, Option.bind_some]
  show SQ P w0 m (Sem.bind (sizeOf e) _) = _
  rw [SQ_bind, SQ_sizeOf hj]; rfl

theorem cutText_q {P : Program} {w0 : World} {m : Frag} {t : Tm} {T : TypeId} {s : ByteArray} {v : Value} {l h : Nat} {lo hi : Option Operand} (hT : P.underlying T = some .string)
    (hv : v = .string s) (h1 : bnd t lo 0 = some l) (h2 : bnd t hi s.size = some h)
    (hl : l ≤ h) (hh : h ≤ s.size) : SQ P w0 m (Instr.slice T v (lo.map (evt t)) (hi.map (evt t)) Option.none) = some (.string (s.extract l h)) := by
  subst hv
  unfold Instr.slice
  show SQ P w0 m (Sem.bind (underlying T) _) = _
  rw [SQ_bind, SQ_underlying hT, Option.bind_some]
  show SQ P w0 m (Sem.bind (Instr.sliceBounds false s.size s.size (lo.map (evt t)) (hi.map (evt t)) (Option.map (evt t) Option.none)) _) = _
  rw [SQ_bind, sliceBounds_q (Or.inr rfl) h1 h2 rfl hl hh (Nat.le_refl _)]; rfl

/-! ### Fields, bools, the smaller one -/

theorem field_q {P : Program} {w0 : World} {m : Frag} {T : TypeId} {fs : Array Field} {fd : Field} {d : TypeDesc} {i : TypeInfo} {fi : Nat} {v : Value} {cs : Array Value} (hT : P.underlying T = some (.struct fs)) (hf : fs[fi]? = some fd) (hd : P.underlying fd.type = some d) (hi : P.info? fd.type = some i)
    (h1 : isAggD d = true ∨ i.size = 1) (hv : v = .agg cs) (hl : fd.offset + i.size ≤ cs.size) : SQ P w0 m (Instr.field T v fi) = some (ldV (isAggD d) ((cs.toList.drop fd.offset).take i.size)) := by
  subst hv
  unfold Instr.field
  show SQ P w0 m (Sem.bind (underlying T) _) = _
  rw [SQ_bind, SQ_underlying hT, Option.bind_some]
  simp only [hf]
  show SQ P w0 m (Sem.bind (Sem.pure cs) _) = _
  rw [SQ_bind]
  show SQ P w0 m (part fd.type cs fd.offset) = _
  unfold part
  show SQ P w0 m (Sem.bind (isAgg fd.type) _) = _
  rw [SQ_bind]
  have hA : SQ P w0 m (isAgg fd.type) = some (isAggD d) := by
    unfold isAgg
    show SQ P w0 m (Sem.bind (underlying fd.type) _) = _
    rw [SQ_bind, SQ_underlying hd, Option.bind_some]
    cases d <;> rfl
  rw [hA, Option.bind_some]
  cases hd' : isAggD d with
  | true =>
    simp only [if_true]
    show SQ P w0 m (Sem.bind (sizeOf fd.type) _) = _
    rw [SQ_bind, SQ_sizeOf hi, Option.bind_some]
    show some (Value.agg (cs.extract fd.offset (fd.offset + i.size))) = _
    unfold ldV
    simp only [if_true]
    congr 2
    apply Array.ext'
    simp [Array.toList_extract, List.extract_eq_take_drop]
  | false =>
    have hs : i.size = 1 := by rcases h1 with h1 | h1; rw [hd'] at h1; cases h1; exact h1
    simp only [Bool.false_eq_true, if_false]
    have hlt : fd.offset < cs.size := by omega
    rw [Array.getElem?_eq_getElem hlt]
    show some cs[fd.offset] = _
    have hlt' : fd.offset < cs.toList.length := by simpa using hlt
    rw [hs, List.drop_eq_getElem_cons hlt']
    simp [ldV]

/-- Comparing bools. -/
def boolV : BinOp → Value → Value → Option Value
  | .eql, .bool a, .bool b => some (.bool (a == b))
  | .neq, .bool a, .bool b => some (.bool (a != b))
  | _, _, _ => Option.none

theorem boolV_q {P : Program} {w0 : World} {m : Frag} {t : Tm} {op : BinOp} {T U : TypeId} {x y : Operand} {ty : TypeId} {v : Value} (hT : P.underlying T = some .bool) (h : boolV op (evt t x) (evt t y) = some v) : qv P w0 m t (.binOp op T x y U) ty = some v := by
  have he : execF (evt t) (.binOp op T x y U) ty = Sem.bind (do eqGuard op T x y (evt t x) (evt t y); binOp op T (evt t x) (evt t y)) fun v => Sem.pure (.value v) := rfl
  refine qv_of he ?_
  have heq : ∀ a b : Bool, SQ P w0 m (Op.equal T (.bool a) (.bool b)) = some (a == b) := fun a b => by
    unfold Op.equal Op.maxDepth Op.equalIn
    simp only [sbind, SQ_bind, SQ_underlying hT, Option.bind_some]
    rfl
  cases hx : evt t x <;> cases hy : evt t y <;> rw [hx, hy] at h <;> cases op <;> simp only [boolV, Option.some.injEq] at h <;> first | cases h | skip
  all_goals
    show SQ P w0 m (Sem.bind _ _) = _
    rw [SQ_bind]
    show (some ()).bind _ = _
    rw [Option.bind_some]
    show SQ P w0 m (Sem.bind (Op.equal T _ _) _) = _
    rw [SQ_bind, heq]
    first
      | rfl
      | (show some _ = some _; congr 2)

/-- Is one of two the nil one, of slices, maps and functions? -/
def nilV : Value → Value → Option Bool
  | .slice Option.none _ _, .slice b _ _ => some b.isNone
  | .slice _ _ _, .slice Option.none _ _ => some false
  | .map Option.none, .map b => some b.isNone
  | .map _, .map Option.none => some false
  | .nilFunc, .nilFunc => some true
  | .nilFunc, .func _ _ _ => some false
  | .func _ _ _, .nilFunc => some false
  | _, _ => Option.none

def nilD : TypeDesc → Bool
  | .slice _ => true
  | _ => false

def nilN : BinOp → Bool → Option Value
  | .eql, b => some (.bool b)
  | .neq, b => some (.bool !b)
  | _, _ => Option.none

theorem nil_q {P : Program} {w0 : World} {m : Frag} {t : Tm} {op : BinOp} {T U e : TypeId} {x y : Operand} {ty : TypeId} {b : Bool} {v : Value} (hT : P.underlying T = some (.slice e))
    (h : nilV (evt t x) (evt t y) = some b) (hs : ∃ a n c, evt t x = .slice a n c) (hv : nilN op b = some v) : qv P w0 m t (.binOp op T x y U) ty = some v := by
  have he : execF (evt t) (.binOp op T x y U) ty = Sem.bind (do eqGuard op T x y (evt t x) (evt t y); binOp op T (evt t x) (evt t y)) fun v => Sem.pure (.value v) := rfl
  refine qv_of he ?_
  obtain ⟨a, n, c, hx⟩ := hs
  rw [hx] at h ⊢
  have hg : ∀ y0 : Value, SQ P w0 m (eqGuard op T x y (.slice a n c) y0) = some () := fun y0 => by
    unfold eqGuard
    split <;> rfl
  show SQ P w0 m (Sem.bind _ _) = _
  rw [SQ_bind, hg, Option.bind_some]
  cases hy : evt t y <;> rw [hy] at h <;> (try (cases a <;> simp [nilV] at h; done))
  rename_i a' n' c'
  have heq : SQ P w0 m (Op.equal T (.slice a n c) (.slice a' n' c')) = some b := by
    unfold Op.equal Op.maxDepth Op.equalIn
    simp only [sbind, SQ_bind, SQ_underlying hT, Option.bind_some]
    cases a <;> cases a' <;> simp only [nilV, Option.some.injEq] at h <;> first | (subst h; rfl) | cases h
  cases op <;> simp only [nilN, Option.some.injEq] at hv <;> first | cases hv | skip
  all_goals
    show SQ P w0 m (Sem.bind (Op.equal T _ _) _) = _
    rw [SQ_bind, heq]; rfl

/-! ### What types say of an operation -/

def bdOf (P : Program) (T : TypeId) (ps : Array (Nat × Operand)) : Option (List Value × List (Nat × Nat × Operand)) := match P.info? T, P.underlying T with
  | some i, some (.struct fs) => match i.zero, placesOf P fs.toList with
    | some z, some pl => (partsOf (fun i => pl[i]?) ps.toList).map fun qs => (z.cells.toList, qs)
    | _, _ => Option.none
  | _, _ => Option.none

theorem bdOf_q {P : Program} {w0 : World} {m : Frag} {t : Tm} {T : TypeId} {ps : Array (Nat × Operand)} {zs : List Value} {qs : List (Nat × Nat × Operand)} {K : List Value → Prop} (h : bdOf P T ps = some (zs, qs)) (hk : spl t zs qs K) :
    ∃ cs, SQ P w0 m (Instr.build T (ps.map fun p => (p.1, evt t p.2))) = some (.agg cs.toArray) ∧ K cs := by
  unfold bdOf at h
  split at h
  · rename_i i fs hi hT
    split at h
    · rename_i z pl hz hp
      simp only [Option.map_eq_some_iff, Prod.mk.injEq] at h
      obtain ⟨q, hq, h1, h2⟩ := h
      subst h1 h2
      exact build_q hi hz hT hp hq hk
    · cases h
  · cases h

def bsOf (P : Program) (T : TypeId) (k : Nat) (ps : Array (Nat × Operand)) : Option (TypeId × List Value × List (Nat × Nat × Operand)) := match P.underlying T with
  | some (.slice e) => match P.info? e with
    | some j => match j.zero with
      | some z => if k * j.size ≤ 4096 then (partsOf (fun i => some (i * j.size, j.size)) ps.toList).map fun qs => (e, zrow z (k * j.size), qs) else Option.none
      | Option.none => Option.none
    | Option.none => Option.none
  | _ => Option.none

theorem bsOf_sx {P : Program} {w0 : World} {m : Frag} {t : Tm} {T e : TypeId} {k : Nat} {ps : Array (Nat × Operand)} {zs : List Value} {qs : List (Nat × Nat × Operand)} {R : Value → Frag → Prop} (h : bsOf P T k ps = some (e, zs, qs))
    (hk : spl t zs qs fun cs => ∀ n, w0.heap.size ≤ n → m n = Option.none → R (.slice (some ⟨n, 0, Option.none⟩) k k) (m.set n (.cells cs cs.length e))) : SX P w0 (Instr.buildSlice T k (ps.map fun p => (p.1, evt t p.2))) m R := by
  unfold bsOf at h
  split at h
  · rename_i e' hT
    split at h
    · rename_i j hj
      split at h
      · rename_i z hz
        split at h
        · rename_i hle
          simp only [Option.map_eq_some_iff, Prod.mk.injEq] at h
          obtain ⟨q, hq, h1, h2, h3⟩ := h
          subst h1 h2 h3
          exact buildSlice_sx hT hj hz hle hq hk
        · cases h
      · cases h
    · cases h
  · cases h

/-- A slice's element: its size, itself, its zero cells. -/
def elOf (P : Program) (T : TypeId) : Option (Nat × TypeId × List Value) := match P.underlying T with
  | some (.slice e) => match P.info? e with
    | some j => match j.zero with
      | some z => if z.cells.size = j.size ∧ 0 < j.size ∧ j.bytes ≤ 2 ^ 12 then some (j.size, e, z.cells.toList) else Option.none
      | Option.none => Option.none
    | Option.none => Option.none
  | _ => Option.none

theorem elOf_spec {P : Program} {T e : TypeId} {es : Nat} {zs : List Value} (h : elOf P T = some (es, e, zs)) : P.underlying T = some (.slice e) ∧ ∃ j z, P.info? e = some j ∧ j.zero = some z ∧ z.cells.size = j.size ∧ 0 < j.size ∧ j.bytes ≤ 2 ^ 12 ∧ es = j.size ∧ zs = z.cells.toList := by
  unfold elOf at h
  split at h
  · rename_i e' hT
    split at h
    · rename_i j hj
      split at h
      · rename_i z hz
        split at h
        · rename_i hc
          cases h
          exact ⟨hT, j, z, hj, hz, hc.1, hc.2.1, hc.2.2, rfl, rfl⟩
        · cases h
      · cases h
    · cases h
  · cases h

def flOf (P : Program) (T : TypeId) (fi : Nat) : Option (Nat × Nat × Bool) := match P.underlying T with
  | some (.struct fs) => match fs[fi]? with
    | some fd => match P.underlying fd.type, P.info? fd.type with
      | some d, some i => if isAggD d || i.size == 1 then some (fd.offset, i.size, isAggD d) else Option.none
      | _, _ => Option.none
    | Option.none => Option.none
  | _ => Option.none

theorem flOf_q {P : Program} {w0 : World} {m : Frag} {T : TypeId} {fi off size : Nat} {agg : Bool} {v : Value} {cs : Array Value} (h : flOf P T fi = some (off, size, agg)) (hv : v = .agg cs) (hl : off + size ≤ cs.size) : SQ P w0 m (Instr.field T v fi) = some (ldV agg ((cs.toList.drop off).take size)) := by
  unfold flOf at h
  split at h
  · rename_i fs hT
    split at h
    · rename_i fd hf
      split at h
      · rename_i d i hd hi
        split at h
        · rename_i hc
          cases h
          exact field_q hT hf hd hi (by simpa using hc) hv hl
        · cases h
      · cases h
    · cases h
  · cases h

/-! ### Bytes as a text -/

def byteV (b : UInt8) : Value := .int .u8 b.toNat

theorem pushes (bs : List UInt8) : ∀ s : ByteArray, bs.foldl ByteArray.push s = ⟨s.data ++ bs.toArray⟩ := by
  induction bs with
  | nil => intro s; simp
  | cons b bs ih => intro s; rw [List.foldl_cons, ih]; simp [ByteArray.push]

theorem bytes_loop {P : Program} {w0 : World} {m : Frag} {body : Value → ByteArray → Sem (ForInStep ByteArray)} (hb : ∀ (b : UInt8) (s : ByteArray), SQ P w0 m (body (byteV b) s) = some (.yield (s.push b))) : ∀ (bs : List UInt8) (s : ByteArray),
    SQ P w0 m (forIn (bs.map byteV) s body) = some (bs.foldl ByteArray.push s)
  | [], s => rfl
  | b :: bs, s => by
    rw [List.map_cons, List.forIn_cons, sbind, SQ_bind, hb, Option.bind_some]
    exact bytes_loop hb bs _

theorem text_q {P : Program} {w0 : World} {m : Frag} {v : Value} {n : Nat} {bs : List UInt8} (h : srcS w0 m 1 v n (bs.map byteV)) (hs : ∀ s, v ≠ .string s) : SQ P w0 m (Conv.bytesToString v) = some (.string ⟨bs.toArray⟩) := by
  have hq := cells_q (P := P) h
  unfold srcS at h
  split at h
  · obtain ⟨_, _, h⟩ := h
    have : bs = [] := by cases bs with
      | nil => rfl
      | cons _ _ => cases h
    subst this; rfl
  · obtain ⟨h1, _⟩ := h
    subst h1
    have hq' : SQ P w0 m (loadCells _ _) = _ := hq
    simp only [Nat.mul_one] at hq'
    show SQ P w0 m (Sem.bind (loadCells _ _) _) = _
    rw [SQ_bind, hq', Option.bind_some]
    show SQ P w0 m (Sem.bind (forIn (bs.map byteV).toArray ByteArray.empty _) _) = _
    rw [SQ_bind, List.forIn_toArray, bytes_loop (fun b s => ?_), pushes]
    · simp [ByteArray.empty, ByteArray.emptyWithCapacity, SQ, pure]; rfl
    · show some (ForInStep.yield (s.push (UInt8.ofNat ((b.toNat : Int)).toNat))) = _
      simp only [Int.toNat_natCast, UInt8.ofNat_toNat]
  · exact absurd rfl (hs _)
  · exact h.elim

theorem textConv_q {P : Program} {w0 : World} {m : Frag} {S T e : TypeId} {v : Value} {n : Nat} {bs : List UInt8} (hS : P.underlying S = some (.slice e)) (hT : P.underlying T = some .string) (he : P.underlying e = some (.int .u8)) (h : srcS w0 m 1 v n (bs.map byteV)) (hs : ∃ a n c, v = .slice a n c) : SQ P w0 m (convert S T v) = some (.string ⟨bs.toArray⟩) := by
  obtain ⟨a, k, c, hv⟩ := hs
  have := text_q (P := P) h (fun s => by rw [hv]; intro h; cases h)
  subst hv
  unfold convert
  rw [sbind, SQ_bind, SQ_underlying hS, Option.bind_some, sbind, SQ_bind, SQ_underlying hT, Option.bind_some]
  show SQ P w0 m (Sem.bind (underlying e) _) = _
  rw [SQ_bind, SQ_underlying he, Option.bind_some]
  exact this

def cbsOf (P : Program) (S T : TypeId) : Bool := match P.underlying S, P.underlying T with
  | some (.slice e), some .string => match P.underlying e with
    | some (.int .u8) => true
    | _ => false
  | _, _ => false

theorem cbsOf_spec {P : Program} {S T : TypeId} (h : cbsOf P S T = true) : ∃ e, P.underlying S = some (.slice e) ∧ P.underlying T = some .string ∧ P.underlying e = some (.int .u8) := by
  unfold cbsOf at h
  split at h
  · split at h
    · exact ⟨_, by assumption, by assumption, by assumption⟩
    · cases h
  · cases h

theorem min_q {P : Program} {w0 : World} {m : Frag} {as : Array TypeId} {ty : TypeId} {k k' : IntKind} {a b : Int} : SQ P w0 m (Builtin.min_ as ty #[.int k a, .int k' b]) = some (.int k (if b < a then b else a)) := by
  show SQ P w0 m (Sem.bind (Builtin.min2 (.int k a) (.int k' b)) _) = _
  rw [SQ_bind]
  rfl

end Go.Proofs.YtemaflbbcihilaaDoor.Fl

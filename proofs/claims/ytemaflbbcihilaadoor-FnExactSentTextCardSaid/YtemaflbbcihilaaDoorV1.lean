/- Rows, told by contract: what both texts say of them. No conditions. -/
import Derived.Test.YtemaflbbcihilaaDoorFo
import Derived.Test.YtemaflbbcihilaaDoorRd
import Derived.Lib.ItoaLen
import Derived.Lib.AppendIntMem
namespace Go.Proofs.YtemaflbbcihilaaDoor.Fl
open Go Go.RowKit
set_option linter.unusedSimpArgs false
set_option linter.unusedVariables false

theorem mo : Tryd.prog.follows .mixedOrders = true := by kernel_rfl

/-- A pointer to cells that may be read. -/
def ptrT (w0 : World) (m : Frag) (v : Value) (cells : List Value) : Prop := ∃ n o cs rest, v = .pointer (some ⟨n, o, Option.none⟩) ∧ row w0 m n = some cs ∧ o ≤ cs.length ∧ cs.drop o = cells ++ rest

theorem ptrT_ext {w0 : World} {m m' : Frag} (hx : Ext m m') {v : Value} {cells : List Value} (h : ptrT w0 m v cells) : ptrT w0 m' v cells := by
  obtain ⟨n, o, cs, rest, h1, h2, h3⟩ := h
  exact ⟨n, o, cs, rest, h1, row_ext hx h2, h3⟩

theorem ptrT_at {w0 : World} {m : Frag} {v : Value} {cells : List Value} (h : ptrT w0 m v cells) : ∃ n o cs rest, v = .pointer (some ⟨n, o, Option.none⟩) ∧ row w0 m n = some cs ∧ o + cells.length + rest.length = cs.length ∧ cs.drop o = cells ++ rest ∧ ∀ i, i ≤ cells.length → cs.drop (o + i) = cells.drop i ++ rest := by
  obtain ⟨n, o, cs, rest, h1, h2, h4, h3⟩ := h
  refine ⟨n, o, cs, rest, h1, h2, ?_, h3, fun i hi => ?_⟩
  · have := congrArg List.length h3
    simp only [List.length_drop, List.length_append] at this
    omega
  · rw [← List.drop_drop, h3, List.drop_append_of_le_length hi]

theorem slT_ptr {w0 : World} {m : Frag} {es : Nat} {base : Option Addr} {n cap : Nat} {el : List (List Value)} (h : slT w0 m es (.slice base n cap) el) {i : Nat} (hi : i < el.length) :
    ∃ blk o, base = some ⟨blk, o, Option.none⟩ ∧ ptrT w0 m (.pointer (some ⟨blk, o + i * es, Option.none⟩)) el[i] := by
  obtain ⟨blk, o, cs, hb, hr, hl, he, hat⟩ := slT_at h hi
  refine ⟨blk, o, hb, blk, o + i * es, cs, cs.drop (o + i * es + es), rfl, hr, ?_, ?_⟩
  · have : i * es + es ≤ el.length * es := by
      have : (i + 1) * es ≤ el.length * es := Nat.mul_le_mul_right _ hi
      rw [Nat.succ_mul] at this; exact this
    omega
  · have := hat 0 es (by omega)
    rw [Nat.add_zero, List.drop_zero, List.take_of_length_le (Nat.le_of_eq he)] at this
    conv => lhs; rw [← List.take_append_drop es (cs.drop (o + i * es)), this, List.drop_drop]

structure RowM where
  t : Int
  k : Int
  v : Int
  s : ByteArray

def rowC (r : RowM) : List Value := [.int .i64 r.t, .int .i64 r.k, .int .i64 r.v, .string r.s]

def lowB (b : UInt8) : Bool := decide (97 ≤ b.toNat) && decide (b.toNat ≤ 122)
def textB (s : ByteArray) : Bool := s.data.toList.all lowB && decide (s.size ≤ 8)
def inB (n a b : Int) : Bool := decide (a ≤ n) && decide (n ≤ b)
def rowF (r : RowM) : Int := if inB r.t 0 3 && inB r.k 1 99 && inB r.v 0 999 then (if textB r.s then 0 else 5) else 3
def rowB (a b : RowM) : Bool := decide (a.t < b.t) || (decide (a.t = b.t) && decide (a.k < b.k))

theorem c_l1In {w0 : World} {m : Frag} {n a b : Int} : ACall Tryd.prog w0 n_spec_l1In #[.int .i64 n, .int .i64 a, .int .i64 b] m fun v m' => v = .bool (inB n a b) ∧ m' = m := by
  refine acall_x mo x_spec_l1In (by rw [p_spec_l1In]; exact Nat.le_of_ble_eq_true rfl) ?_
  unfold r_spec_l1In
  simp -dsimp (disch := first | omega | (simp only [bys_size, ByteArray.size_append, List.length_cons, List.length_nil] ; omega)) only [xrun, ↓xpre, ↓reduceIte, xval, xops, xlib, boolV, nilV, nilN, oneC, splice, ne_eq, Nat.reduceEqDiff, Nat.reduceAdd, Nat.reduceMul, Nat.reduceLeDiff, Int.reduceToNat]
  refine gdH_b (fun h => ?_) (fun h => ?_)
  · simp -dsimp (disch := first | omega | (simp only [bys_size, ByteArray.size_append, List.length_cons, List.length_nil] ; omega)) only [xrun, ↓xpre, ↓reduceIte, xval, xops, xlib, boolV, nilV, nilN, oneC, splice, ne_eq, Nat.reduceEqDiff, Nat.reduceAdd, Nat.reduceMul, Nat.reduceLeDiff, Int.reduceToNat, h]
    exact wkH_self ⟨by unfold inB; rw [show decide (a ≤ n) = true from h]; rfl, rfl⟩
  · simp -dsimp (disch := first | omega | (simp only [bys_size, ByteArray.size_append, List.length_cons, List.length_nil] ; omega)) only [xrun, ↓xpre, ↓reduceIte, xval, xops, xlib, boolV, nilV, nilN, oneC, splice, ne_eq, Nat.reduceEqDiff, Nat.reduceAdd, Nat.reduceMul, Nat.reduceLeDiff, Int.reduceToNat, h]
    exact wkH_self ⟨by unfold inB; rw [show decide (a ≤ n) = false from h]; rfl, rfl⟩

theorem c_in {w0 : World} {m : Frag} {n a b : Int} : ACall Tryd.prog w0 n_impl_in #[.int .i64 n, .int .i64 a, .int .i64 b] m fun v m' => v = .bool (inB n a b) ∧ m' = m := by
  refine acall_x mo x_impl_in (by rw [p_impl_in]; exact Nat.le_of_ble_eq_true rfl) ?_
  unfold r_impl_in
  simp -dsimp (disch := first | omega | (simp only [bys_size, ByteArray.size_append, List.length_cons, List.length_nil] ; omega)) only [xrun, ↓xpre, ↓reduceIte, xval, xops, xlib, boolV, nilV, nilN, oneC, splice, ne_eq, Nat.reduceEqDiff, Nat.reduceAdd, Nat.reduceMul, Nat.reduceLeDiff, Int.reduceToNat]
  refine gdH_b (fun h => ?_) (fun h => ?_)
  · simp -dsimp (disch := first | omega | (simp only [bys_size, ByteArray.size_append, List.length_cons, List.length_nil] ; omega)) only [xrun, ↓xpre, ↓reduceIte, xval, xops, xlib, boolV, nilV, nilN, oneC, splice, ne_eq, Nat.reduceEqDiff, Nat.reduceAdd, Nat.reduceMul, Nat.reduceLeDiff, Int.reduceToNat, h]
    exact wkH_self ⟨by unfold inB; rw [show decide (a ≤ n) = true from h]; rfl, rfl⟩
  · simp -dsimp (disch := first | omega | (simp only [bys_size, ByteArray.size_append, List.length_cons, List.length_nil] ; omega)) only [xrun, ↓xpre, ↓reduceIte, xval, xops, xlib, boolV, nilV, nilN, oneC, splice, ne_eq, Nat.reduceEqDiff, Nat.reduceAdd, Nat.reduceMul, Nat.reduceLeDiff, Int.reduceToNat, h]
    exact wkH_self ⟨by unfold inB; rw [show decide (a ≤ n) = false from h]; rfl, rfl⟩

theorem all_at {p : UInt8 → Bool} {s : ByteArray} {i : Nat} (hi : i < s.size) : (s.data.toList.drop i).all p = (p s[i] && (s.data.toList.drop (i + 1)).all p) := by
  have hl : i < s.data.toList.length := by rw [Array.length_toList, ByteArray.size_data]; exact hi
  rw [List.drop_eq_getElem_cons hl, List.all_cons]
  congr 1

theorem all_end {p : UInt8 → Bool} {s : ByteArray} {i : Nat} (hi : s.size ≤ i) : (s.data.toList.drop i).all p = true := by
  rw [List.drop_of_length_le (by rw [Array.length_toList, ByteArray.size_data]; exact hi)]; rfl

theorem c_l1Text {w0 : World} {m : Frag} {s : ByteArray} (hs : s.size ≤ 2 ^ 62) : ACall Tryd.prog w0 n_spec_l1Text #[.string s] m fun v m' => v = .bool (textB s) ∧ m' = m := by
  refine acall_x mo x_spec_l1Text (by rw [p_spec_l1Text]; exact Nat.le_of_ble_eq_true rfl) ?_
  unfold r_spec_l1Text
  simp -dsimp (disch := first | omega | (simp only [bys_size, ByteArray.size_append, List.length_cons, List.length_nil] ; omega)) only [xrun, ↓xpre, ↓reduceIte, xval, xops, xlib, boolV, nilV, nilN, oneC, splice, ne_eq, Nat.reduceEqDiff, Nat.reduceAdd, Nat.reduceMul, Nat.reduceLeDiff, Int.reduceToNat]
  refine loopH_of (fun k t m' => m' = m ∧ ∃ i : Nat, i ≤ s.size ∧ k = s.size - i ∧ t 0 = .string s ∧ t 3 = .int .i64 i ∧ (s.data.toList.drop i).all lowB = s.data.toList.all lowB) s.size ⟨rfl, 0, by omega, rfl, rfl, rfl, rfl⟩ ?_
  rintro k t _ ⟨rfl, i, hi, rfl, h0, h3, hp⟩
  simp -dsimp (disch := first | omega | (simp only [bys_size, ByteArray.size_append, List.length_cons, List.length_nil] ; omega)) only [xrun, ↓xpre, ↓reduceIte, xval, xops, xlib, boolV, nilV, nilN, oneC, splice, ne_eq, Nat.reduceEqDiff, Nat.reduceAdd, Nat.reduceMul, Nat.reduceLeDiff, Int.reduceToNat, h0, h3]
  refine condH_of (fun hlt => ?_) (fun hge => ?_)
  · have hlt' : i < s.size := by omega
    have hg : s[i]? = some s[i] := getElem?_pos s i hlt'
    rw [all_at hlt'] at hp
    simp -dsimp (disch := first | omega | (simp only [bys_size, ByteArray.size_append, List.length_cons, List.length_nil] ; omega)) only [xrun, ↓xpre, ↓reduceIte, xval, xops, xlib, boolV, nilV, nilN, oneC, splice, ne_eq, Nat.reduceEqDiff, Nat.reduceAdd, Nat.reduceMul, Nat.reduceLeDiff, Int.reduceToNat, h0, h3, hg]
    refine gdH_b (fun h => ?_) (fun h => ?_)
    rotate_left
    · simp -dsimp (disch := first | omega | (simp only [bys_size, ByteArray.size_append, List.length_cons, List.length_nil] ; omega)) only [xrun, ↓xpre, ↓reduceIte, xval, xops, xlib, boolV, nilV, nilN, oneC, splice, ne_eq, Nat.reduceEqDiff, Nat.reduceAdd, Nat.reduceMul, Nat.reduceLeDiff, Int.reduceToNat, h0, h3, hg, h]
      refine wkH_self ⟨?_, rfl⟩
      unfold textB; rw [← hp]
      have : ¬ 97 ≤ s[i].toNat := by simp at h; omega
      simp [lowB, this]
    · simp -dsimp (disch := first | omega | (simp only [bys_size, ByteArray.size_append, List.length_cons, List.length_nil] ; omega)) only [xrun, ↓xpre, ↓reduceIte, xval, xops, xlib, boolV, nilV, nilN, oneC, splice, ne_eq, Nat.reduceEqDiff, Nat.reduceAdd, Nat.reduceMul, Nat.reduceLeDiff, Int.reduceToNat, h0, h3, hg, h]
      refine condH_of (fun h2 => ?_) (fun h2 => ?_)
      · simp -dsimp (disch := first | omega | (simp only [bys_size, ByteArray.size_append, List.length_cons, List.length_nil] ; omega)) only [xrun, ↓xpre, ↓reduceIte, xval, xops, xlib, boolV, nilV, nilN, oneC, splice, ne_eq, Nat.reduceEqDiff, Nat.reduceAdd, Nat.reduceMul, Nat.reduceLeDiff, Int.reduceToNat, h0, h3, hg, h]
        refine wkH_self ⟨?_, rfl⟩
        unfold textB; rw [← hp]
        have : ¬ s[i].toNat ≤ 122 := by omega
        simp [lowB, this]
      · simp -dsimp (disch := first | omega | (simp only [bys_size, ByteArray.size_append, List.length_cons, List.length_nil] ; omega)) only [xrun, ↓xpre, ↓reduceIte, xval, xops, xlib, boolV, nilV, nilN, oneC, splice, ne_eq, Nat.reduceEqDiff, Nat.reduceAdd, Nat.reduceMul, Nat.reduceLeDiff, Int.reduceToNat, h0, h3]
        refine nextI_of (s.size - (i + 1)) (by omega) ⟨rfl, i + 1, by omega, rfl, h0, rfl, ?_⟩
        rw [← hp]
        have h4 : 97 ≤ s[i].toNat := by simp at h; omega
        have h5 : s[i].toNat ≤ 122 := by omega
        simp [lowB, h4, h5]
  · simp -dsimp (disch := first | omega | (simp only [bys_size, ByteArray.size_append, List.length_cons, List.length_nil] ; omega)) only [xrun, ↓xpre, ↓reduceIte, xval, xops, xlib, boolV, nilV, nilN, oneC, splice, ne_eq, Nat.reduceEqDiff, Nat.reduceAdd, Nat.reduceMul, Nat.reduceLeDiff, Int.reduceToNat, h0, h3]
    refine wkH_self ⟨?_, rfl⟩
    rw [all_end (by omega)] at hp
    unfold textB; rw [← hp]
    congr 1
    simp only [Bool.true_and, decide_eq_decide]; omega

theorem c_l1Fault {w0 : World} {m : Frag} {p : Value} {r : RowM} (hp : ptrT w0 m p (rowC r)) (hs : r.s.size ≤ 2 ^ 62) : ACall Tryd.prog w0 n_spec_l1Fault #[p] m fun v m' => v = .int .i64 (rowF r) ∧ m' = m := by
  refine acall_x mo x_spec_l1Fault (by rw [p_spec_l1Fault]; exact Nat.le_of_ble_eq_true rfl) ?_
  obtain ⟨n, o, cs, rest, rfl, hr, hl, h0, hat⟩ := ptrT_at hp
  have a1 := hat 1 (by show 1 ≤ 4; omega)
  have a2 := hat 2 (by show 2 ≤ 4; omega)
  have a3 := hat 3 (by show 3 ≤ 4; omega)
  simp only [rowC, List.drop_succ_cons, List.drop_zero, List.length_cons, List.length_nil] at hl h0 a1 a2 a3
  unfold r_spec_l1Fault
  simp -dsimp (disch := first | omega | (simp only [bys_size, ByteArray.size_append, List.length_cons, List.length_nil] ; omega)) only [xrun, ↓xpre, ↓reduceIte, xval, xops, xlib, boolV, nilV, nilN, oneC, splice, ne_eq, Nat.reduceEqDiff, Nat.reduceAdd, Nat.reduceMul, Nat.reduceLeDiff, Int.reduceToNat, hr, h0]
  refine callH_of c_l1In ?_
  rintro v m' ⟨rfl, rfl⟩
  simp -dsimp (disch := first | omega | (simp only [bys_size, ByteArray.size_append, List.length_cons, List.length_nil] ; omega)) only [xrun, ↓xpre, ↓reduceIte, xval, xops, xlib, boolV, nilV, nilN, oneC, splice, ne_eq, Nat.reduceEqDiff, Nat.reduceAdd, Nat.reduceMul, Nat.reduceLeDiff, Int.reduceToNat]
  cases h1 : inB r.t 0 3 with
  | false =>
    simp -dsimp (disch := first | omega | (simp only [bys_size, ByteArray.size_append, List.length_cons, List.length_nil] ; omega)) only [xrun, ↓xpre, ↓reduceIte, xval, xops, xlib, boolV, nilV, nilN, oneC, splice, ne_eq, Nat.reduceEqDiff, Nat.reduceAdd, Nat.reduceMul, Nat.reduceLeDiff, Int.reduceToNat, hr, h0]
    exact wkH_self ⟨by unfold rowF; rw [h1]; rfl, rfl⟩
  | true =>
    simp -dsimp (disch := first | omega | (simp only [bys_size, ByteArray.size_append, List.length_cons, List.length_nil] ; omega)) only [xrun, ↓xpre, ↓reduceIte, xval, xops, xlib, boolV, nilV, nilN, oneC, splice, ne_eq, Nat.reduceEqDiff, Nat.reduceAdd, Nat.reduceMul, Nat.reduceLeDiff, Int.reduceToNat, hr, a1]
    refine callH_of c_l1In ?_
    rintro v m' ⟨rfl, rfl⟩
    simp -dsimp (disch := first | omega | (simp only [bys_size, ByteArray.size_append, List.length_cons, List.length_nil] ; omega)) only [xrun, ↓xpre, ↓reduceIte, xval, xops, xlib, boolV, nilV, nilN, oneC, splice, ne_eq, Nat.reduceEqDiff, Nat.reduceAdd, Nat.reduceMul, Nat.reduceLeDiff, Int.reduceToNat]
    cases h2 : inB r.k 1 99 with
    | false =>
      simp -dsimp (disch := first | omega | (simp only [bys_size, ByteArray.size_append, List.length_cons, List.length_nil] ; omega)) only [xrun, ↓xpre, ↓reduceIte, xval, xops, xlib, boolV, nilV, nilN, oneC, splice, ne_eq, Nat.reduceEqDiff, Nat.reduceAdd, Nat.reduceMul, Nat.reduceLeDiff, Int.reduceToNat]
      exact wkH_self ⟨by unfold rowF; rw [h1, h2]; rfl, rfl⟩
    | true =>
      simp -dsimp (disch := first | omega | (simp only [bys_size, ByteArray.size_append, List.length_cons, List.length_nil] ; omega)) only [xrun, ↓xpre, ↓reduceIte, xval, xops, xlib, boolV, nilV, nilN, oneC, splice, ne_eq, Nat.reduceEqDiff, Nat.reduceAdd, Nat.reduceMul, Nat.reduceLeDiff, Int.reduceToNat, hr, a2]
      refine callH_of c_l1In ?_
      rintro v m' ⟨rfl, rfl⟩
      simp -dsimp (disch := first | omega | (simp only [bys_size, ByteArray.size_append, List.length_cons, List.length_nil] ; omega)) only [xrun, ↓xpre, ↓reduceIte, xval, xops, xlib, boolV, nilV, nilN, oneC, splice, ne_eq, Nat.reduceEqDiff, Nat.reduceAdd, Nat.reduceMul, Nat.reduceLeDiff, Int.reduceToNat]
      cases h3 : inB r.v 0 999 with
      | false =>
        simp -dsimp (disch := first | omega | (simp only [bys_size, ByteArray.size_append, List.length_cons, List.length_nil] ; omega)) only [xrun, ↓xpre, ↓reduceIte, xval, xops, xlib, boolV, nilV, nilN, oneC, splice, ne_eq, Nat.reduceEqDiff, Nat.reduceAdd, Nat.reduceMul, Nat.reduceLeDiff, Int.reduceToNat]
        exact wkH_self ⟨by unfold rowF; rw [h1, h2, h3]; rfl, rfl⟩
      | true =>
        simp -dsimp (disch := first | omega | (simp only [bys_size, ByteArray.size_append, List.length_cons, List.length_nil] ; omega)) only [xrun, ↓xpre, ↓reduceIte, xval, xops, xlib, boolV, nilV, nilN, oneC, splice, ne_eq, Nat.reduceEqDiff, Nat.reduceAdd, Nat.reduceMul, Nat.reduceLeDiff, Int.reduceToNat, hr, a3]
        refine callH_of (c_l1Text hs) ?_
        rintro v m' ⟨rfl, rfl⟩
        simp -dsimp (disch := first | omega | (simp only [bys_size, ByteArray.size_append, List.length_cons, List.length_nil] ; omega)) only [xrun, ↓xpre, ↓reduceIte, xval, xops, xlib, boolV, nilV, nilN, oneC, splice, ne_eq, Nat.reduceEqDiff, Nat.reduceAdd, Nat.reduceMul, Nat.reduceLeDiff, Int.reduceToNat]
        cases h4 : textB r.s with
        | false =>
          simp -dsimp (disch := first | omega | (simp only [bys_size, ByteArray.size_append, List.length_cons, List.length_nil] ; omega)) only [xrun, ↓xpre, ↓reduceIte, xval, xops, xlib, boolV, nilV, nilN, oneC, splice, ne_eq, Nat.reduceEqDiff, Nat.reduceAdd, Nat.reduceMul, Nat.reduceLeDiff, Int.reduceToNat]
          exact wkH_self ⟨by unfold rowF; rw [h1, h2, h3, h4]; rfl, rfl⟩
        | true =>
          simp -dsimp (disch := first | omega | (simp only [bys_size, ByteArray.size_append, List.length_cons, List.length_nil] ; omega)) only [xrun, ↓xpre, ↓reduceIte, xval, xops, xlib, boolV, nilV, nilN, oneC, splice, ne_eq, Nat.reduceEqDiff, Nat.reduceAdd, Nat.reduceMul, Nat.reduceLeDiff, Int.reduceToNat]
          exact wkH_self ⟨by unfold rowF; rw [h1, h2, h3, h4]; rfl, rfl⟩

theorem c_l1Before {w0 : World} {m : Frag} {p q : Value} {a b : RowM} (hp : ptrT w0 m p (rowC a)) (hq : ptrT w0 m q (rowC b)) : ACall Tryd.prog w0 n_spec_l1Before #[p, q] m fun v m' => v = .bool (rowB a b) ∧ m' = m := by
  refine acall_x mo x_spec_l1Before (by rw [p_spec_l1Before]; exact Nat.le_of_ble_eq_true rfl) ?_
  obtain ⟨n, o, cs, rest, rfl, hr, hl, h0, hat⟩ := ptrT_at hp
  obtain ⟨n2, o2, cs2, rest2, rfl, hr2, hl2, h02, hat2⟩ := ptrT_at hq
  have a1 := hat 1 (by show 1 ≤ 4; omega)
  have b1 := hat2 1 (by show 1 ≤ 4; omega)
  simp only [rowC, List.drop_succ_cons, List.drop_zero, List.length_cons, List.length_nil] at hl h0 a1 hl2 h02 b1
  unfold r_spec_l1Before
  simp -dsimp (disch := first | omega | (simp only [bys_size, ByteArray.size_append, List.length_cons, List.length_nil] ; omega)) only [xrun, ↓xpre, ↓reduceIte, xval, xops, xlib, boolV, nilV, nilN, oneC, splice, ne_eq, Nat.reduceEqDiff, Nat.reduceAdd, Nat.reduceMul, Nat.reduceLeDiff, Int.reduceToNat, hr, h0, hr2, h02]
  refine gdH_b (fun h => ?_) (fun h => ?_)
  rotate_left
  · simp -dsimp (disch := first | omega | (simp only [bys_size, ByteArray.size_append, List.length_cons, List.length_nil] ; omega)) only [xrun, ↓xpre, ↓reduceIte, xval, xops, xlib, boolV, nilV, nilN, oneC, splice, ne_eq, Nat.reduceEqDiff, Nat.reduceAdd, Nat.reduceMul, Nat.reduceLeDiff, Int.reduceToNat, h]
    exact wkH_self ⟨by unfold rowB; rw [show decide (a.t < b.t) = true from h]; rfl, rfl⟩
  · simp -dsimp (disch := first | omega | (simp only [bys_size, ByteArray.size_append, List.length_cons, List.length_nil] ; omega)) only [xrun, ↓xpre, ↓reduceIte, xval, xops, xlib, boolV, nilV, nilN, oneC, splice, ne_eq, Nat.reduceEqDiff, Nat.reduceAdd, Nat.reduceMul, Nat.reduceLeDiff, Int.reduceToNat, h, hr, h0, hr2, h02]
    refine gdH_b (fun h' => ?_) (fun h' => ?_)
    · simp -dsimp (disch := first | omega | (simp only [bys_size, ByteArray.size_append, List.length_cons, List.length_nil] ; omega)) only [xrun, ↓xpre, ↓reduceIte, xval, xops, xlib, boolV, nilV, nilN, oneC, splice, ne_eq, Nat.reduceEqDiff, Nat.reduceAdd, Nat.reduceMul, Nat.reduceLeDiff, Int.reduceToNat, h, h', hr, a1, hr2, b1]
      exact wkH_self ⟨by unfold rowB; rw [h, h']; rfl, rfl⟩
    · simp -dsimp (disch := first | omega | (simp only [bys_size, ByteArray.size_append, List.length_cons, List.length_nil] ; omega)) only [xrun, ↓xpre, ↓reduceIte, xval, xops, xlib, boolV, nilV, nilN, oneC, splice, ne_eq, Nat.reduceEqDiff, Nat.reduceAdd, Nat.reduceMul, Nat.reduceLeDiff, Int.reduceToNat, h, h']
      exact wkH_self ⟨by unfold rowB; rw [h, show decide (a.t = b.t) = false from h']; rfl, rfl⟩

theorem c_RowFault {w0 : World} {m : Frag} {r : RowM} (hs : r.s.size ≤ 2 ^ 62) : ACall Tryd.prog w0 n_impl_RowFault #[.agg (rowC r).toArray] m fun v m' => v = .int .i64 (rowF r) ∧ m' = m := by
  refine acall_x mo x_impl_RowFault (by rw [p_impl_RowFault]; exact Nat.le_of_ble_eq_true rfl) ?_
  unfold r_impl_RowFault rowC
  simp -dsimp (disch := first | omega | (simp only [bys_size, ByteArray.size_append, List.length_cons, List.length_nil] ; omega)) only [xrun, ↓xpre, ↓reduceIte, xval, xops, xlib, boolV, nilV, nilN, oneC, splice, ne_eq, Nat.reduceEqDiff, Nat.reduceAdd, Nat.reduceMul, Nat.reduceLeDiff, Int.reduceToNat]
  intro n hn hm
  simp -dsimp (disch := first | omega | (simp only [bys_size, ByteArray.size_append, List.length_cons, List.length_nil] ; omega)) only [xrun, ↓xpre, ↓reduceIte, xval, xops, xlib, boolV, nilV, nilN, oneC, splice, ne_eq, Nat.reduceEqDiff, Nat.reduceAdd, Nat.reduceMul, Nat.reduceLeDiff, Int.reduceToNat]
  refine callH_of c_in ?_
  rintro v m' ⟨rfl, rfl⟩
  simp -dsimp (disch := first | omega | (simp only [bys_size, ByteArray.size_append, List.length_cons, List.length_nil] ; omega)) only [xrun, ↓xpre, ↓reduceIte, xval, xops, xlib, boolV, nilV, nilN, oneC, splice, ne_eq, Nat.reduceEqDiff, Nat.reduceAdd, Nat.reduceMul, Nat.reduceLeDiff, Int.reduceToNat]
  have hx := Ext.set (m := m) (n := n) (.cells [.int .i64 r.t, .int .i64 r.k, .int .i64 r.v, .string r.s] 4 t_impl_Row) hm
  cases h1 : inB r.t 0 3 with
  | false =>
    simp -dsimp (disch := first | omega | (simp only [bys_size, ByteArray.size_append, List.length_cons, List.length_nil] ; omega)) only [xrun, ↓xpre, ↓reduceIte, xval, xops, xlib, boolV, nilV, nilN, oneC, splice, ne_eq, Nat.reduceEqDiff, Nat.reduceAdd, Nat.reduceMul, Nat.reduceLeDiff, Int.reduceToNat]
    exact wkH_ext hx ⟨by unfold rowF; rw [h1]; rfl, rfl⟩
  | true =>
    simp -dsimp (disch := first | omega | (simp only [bys_size, ByteArray.size_append, List.length_cons, List.length_nil] ; omega)) only [xrun, ↓xpre, ↓reduceIte, xval, xops, xlib, boolV, nilV, nilN, oneC, splice, ne_eq, Nat.reduceEqDiff, Nat.reduceAdd, Nat.reduceMul, Nat.reduceLeDiff, Int.reduceToNat]
    refine callH_of c_in ?_
    rintro v m' ⟨rfl, rfl⟩
    simp -dsimp (disch := first | omega | (simp only [bys_size, ByteArray.size_append, List.length_cons, List.length_nil] ; omega)) only [xrun, ↓xpre, ↓reduceIte, xval, xops, xlib, boolV, nilV, nilN, oneC, splice, ne_eq, Nat.reduceEqDiff, Nat.reduceAdd, Nat.reduceMul, Nat.reduceLeDiff, Int.reduceToNat]
    cases h2 : inB r.k 1 99 with
    | false =>
      simp -dsimp (disch := first | omega | (simp only [bys_size, ByteArray.size_append, List.length_cons, List.length_nil] ; omega)) only [xrun, ↓xpre, ↓reduceIte, xval, xops, xlib, boolV, nilV, nilN, oneC, splice, ne_eq, Nat.reduceEqDiff, Nat.reduceAdd, Nat.reduceMul, Nat.reduceLeDiff, Int.reduceToNat]
      exact wkH_ext hx ⟨by unfold rowF; rw [h1, h2]; rfl, rfl⟩
    | true =>
      simp -dsimp (disch := first | omega | (simp only [bys_size, ByteArray.size_append, List.length_cons, List.length_nil] ; omega)) only [xrun, ↓xpre, ↓reduceIte, xval, xops, xlib, boolV, nilV, nilN, oneC, splice, ne_eq, Nat.reduceEqDiff, Nat.reduceAdd, Nat.reduceMul, Nat.reduceLeDiff, Int.reduceToNat]
      refine callH_of c_in ?_
      rintro v m' ⟨rfl, rfl⟩
      simp -dsimp (disch := first | omega | (simp only [bys_size, ByteArray.size_append, List.length_cons, List.length_nil] ; omega)) only [xrun, ↓xpre, ↓reduceIte, xval, xops, xlib, boolV, nilV, nilN, oneC, splice, ne_eq, Nat.reduceEqDiff, Nat.reduceAdd, Nat.reduceMul, Nat.reduceLeDiff, Int.reduceToNat]
      cases h3 : inB r.v 0 999 with
      | false =>
        simp -dsimp (disch := first | omega | (simp only [bys_size, ByteArray.size_append, List.length_cons, List.length_nil] ; omega)) only [xrun, ↓xpre, ↓reduceIte, xval, xops, xlib, boolV, nilV, nilN, oneC, splice, ne_eq, Nat.reduceEqDiff, Nat.reduceAdd, Nat.reduceMul, Nat.reduceLeDiff, Int.reduceToNat]
        exact wkH_ext hx ⟨by unfold rowF; rw [h1, h2, h3]; rfl, rfl⟩
      | true =>
        simp -dsimp (disch := first | omega | (simp only [bys_size, ByteArray.size_append, List.length_cons, List.length_nil] ; omega)) only [xrun, ↓xpre, ↓reduceIte, xval, xops, xlib, boolV, nilV, nilN, oneC, splice, ne_eq, Nat.reduceEqDiff, Nat.reduceAdd, Nat.reduceMul, Nat.reduceLeDiff, Int.reduceToNat]
        refine condH_of (fun h => ?_) (fun h => ?_)
        · simp -dsimp (disch := first | omega | (simp only [bys_size, ByteArray.size_append, List.length_cons, List.length_nil] ; omega)) only [xrun, ↓xpre, ↓reduceIte, xval, xops, xlib, boolV, nilV, nilN, oneC, splice, ne_eq, Nat.reduceEqDiff, Nat.reduceAdd, Nat.reduceMul, Nat.reduceLeDiff, Int.reduceToNat]
          refine wkH_ext hx ⟨?_, rfl⟩
          have : ¬ r.s.size ≤ 8 := by omega
          simp [rowF, h1, h2, h3, textB, this]
        · have h8 : r.s.size ≤ 8 := by omega
          simp -dsimp (disch := first | omega | (simp only [bys_size, ByteArray.size_append, List.length_cons, List.length_nil] ; omega)) only [xrun, ↓xpre, ↓reduceIte, xval, xops, xlib, boolV, nilV, nilN, oneC, splice, ne_eq, Nat.reduceEqDiff, Nat.reduceAdd, Nat.reduceMul, Nat.reduceLeDiff, Int.reduceToNat]
          refine loopH_of (fun k t m' => m' = m.set n (.cells [.int .i64 r.t, .int .i64 r.k, .int .i64 r.v, .string r.s] 4 t_impl_Row) ∧ ∃ i : Nat, i ≤ r.s.size ∧ k = r.s.size - i ∧ t 1 = .pointer (some ⟨n, 0, Option.none⟩) ∧ t 26 = .int .i64 r.s.size ∧ t 27 = .int .i64 i ∧ (r.s.data.toList.drop i).all lowB = r.s.data.toList.all lowB) r.s.size ⟨rfl, 0, by omega, rfl, rfl, rfl, rfl, rfl⟩ ?_
          rintro k t _ ⟨rfl, i, hi, rfl, e1, e26, e27, hp⟩
          simp -dsimp (disch := first | omega | (simp only [bys_size, ByteArray.size_append, List.length_cons, List.length_nil] ; omega)) only [xrun, ↓xpre, ↓reduceIte, xval, xops, xlib, boolV, nilV, nilN, oneC, splice, ne_eq, Nat.reduceEqDiff, Nat.reduceAdd, Nat.reduceMul, Nat.reduceLeDiff, Int.reduceToNat, e1, e26, e27]
          refine condH_of (fun hlt => ?_) (fun hge => ?_)
          · have hlt' : i < r.s.size := by omega
            have hg : r.s[i]? = some r.s[i] := getElem?_pos r.s i hlt'
            rw [all_at hlt'] at hp
            simp -dsimp (disch := first | omega | (simp only [bys_size, ByteArray.size_append, List.length_cons, List.length_nil] ; omega)) only [xrun, ↓xpre, ↓reduceIte, xval, xops, xlib, boolV, nilV, nilN, oneC, splice, ne_eq, Nat.reduceEqDiff, Nat.reduceAdd, Nat.reduceMul, Nat.reduceLeDiff, Int.reduceToNat, e1, e26, e27, hg]
            refine gdH_b (fun h => ?_) (fun h => ?_)
            rotate_left
            · simp -dsimp (disch := first | omega | (simp only [bys_size, ByteArray.size_append, List.length_cons, List.length_nil] ; omega)) only [xrun, ↓xpre, ↓reduceIte, xval, xops, xlib, boolV, nilV, nilN, oneC, splice, ne_eq, Nat.reduceEqDiff, Nat.reduceAdd, Nat.reduceMul, Nat.reduceLeDiff, Int.reduceToNat, e1, e26, e27, hg, h]
              refine wkH_ext hx ⟨?_, rfl⟩
              have : ¬ 97 ≤ r.s[i].toNat := by simp at h; omega
              simp [rowF, h1, h2, h3, textB, ← hp, lowB, this]
            · simp -dsimp (disch := first | omega | (simp only [bys_size, ByteArray.size_append, List.length_cons, List.length_nil] ; omega)) only [xrun, ↓xpre, ↓reduceIte, xval, xops, xlib, boolV, nilV, nilN, oneC, splice, ne_eq, Nat.reduceEqDiff, Nat.reduceAdd, Nat.reduceMul, Nat.reduceLeDiff, Int.reduceToNat, e1, e26, e27, hg, h]
              refine condH_of (fun h2' => ?_) (fun h2' => ?_)
              · simp -dsimp (disch := first | omega | (simp only [bys_size, ByteArray.size_append, List.length_cons, List.length_nil] ; omega)) only [xrun, ↓xpre, ↓reduceIte, xval, xops, xlib, boolV, nilV, nilN, oneC, splice, ne_eq, Nat.reduceEqDiff, Nat.reduceAdd, Nat.reduceMul, Nat.reduceLeDiff, Int.reduceToNat, e1, e26, e27]
                refine wkH_ext hx ⟨?_, rfl⟩
                have : ¬ r.s[i].toNat ≤ 122 := by omega
                simp [rowF, h1, h2, h3, textB, ← hp, lowB, this]
              · simp -dsimp (disch := first | omega | (simp only [bys_size, ByteArray.size_append, List.length_cons, List.length_nil] ; omega)) only [xrun, ↓xpre, ↓reduceIte, xval, xops, xlib, boolV, nilV, nilN, oneC, splice, ne_eq, Nat.reduceEqDiff, Nat.reduceAdd, Nat.reduceMul, Nat.reduceLeDiff, Int.reduceToNat, e1, e26, e27]
                refine nextI_of (r.s.size - (i + 1)) (by omega) ⟨rfl, i + 1, by omega, rfl, e1, e26, rfl, ?_⟩
                rw [← hp]
                have h4 : 97 ≤ r.s[i].toNat := by simp at h; omega
                have h5 : r.s[i].toNat ≤ 122 := by omega
                simp [lowB, h4, h5]
          · simp -dsimp (disch := first | omega | (simp only [bys_size, ByteArray.size_append, List.length_cons, List.length_nil] ; omega)) only [xrun, ↓xpre, ↓reduceIte, xval, xops, xlib, boolV, nilV, nilN, oneC, splice, ne_eq, Nat.reduceEqDiff, Nat.reduceAdd, Nat.reduceMul, Nat.reduceLeDiff, Int.reduceToNat, e1, e26, e27]
            refine wkH_ext hx ⟨?_, rfl⟩
            rw [all_end (by omega)] at hp
            simp [rowF, h1, h2, h3, textB, ← hp, h8]

theorem c_IsBefore {w0 : World} {m : Frag} {a b : RowM} : ACall Tryd.prog w0 n_impl_IsBefore #[.agg (rowC a).toArray, .agg (rowC b).toArray] m fun v m' => v = .bool (rowB a b) ∧ m' = m := by
  refine acall_x mo x_impl_IsBefore (by rw [p_impl_IsBefore]; exact Nat.le_of_ble_eq_true rfl) ?_
  unfold r_impl_IsBefore rowC
  simp -dsimp (disch := first | omega | (simp only [bys_size, ByteArray.size_append, List.length_cons, List.length_nil] ; omega)) only [xrun, ↓xpre, ↓reduceIte, xval, xops, xlib, boolV, nilV, nilN, oneC, splice, ne_eq, Nat.reduceEqDiff, Nat.reduceAdd, Nat.reduceMul, Nat.reduceLeDiff, Int.reduceToNat]
  intro n hn hm
  simp -dsimp (disch := first | omega | (simp only [bys_size, ByteArray.size_append, List.length_cons, List.length_nil] ; omega)) only [xrun, ↓xpre, ↓reduceIte, xval, xops, xlib, boolV, nilV, nilN, oneC, splice, ne_eq, Nat.reduceEqDiff, Nat.reduceAdd, Nat.reduceMul, Nat.reduceLeDiff, Int.reduceToNat]
  intro n2 hn2 hm2
  have hne : n2 ≠ n := fun e => by subst e; rw [Frag.set_same] at hm2; cases hm2
  have hne' : n ≠ n2 := Ne.symm hne
  have hx := (Ext.set (m := m) (n := n) (.cells [.int .i64 a.t, .int .i64 a.k, .int .i64 a.v, .string a.s] 4 t_impl_Row) hm).trans (Ext.set (n := n2) (.cells [.int .i64 b.t, .int .i64 b.k, .int .i64 b.v, .string b.s] 4 t_impl_Row) hm2)
  simp -dsimp (disch := first | omega | (simp only [bys_size, ByteArray.size_append, List.length_cons, List.length_nil] ; omega)) only [xrun, ↓xpre, ↓reduceIte, xval, xops, xlib, boolV, nilV, nilN, oneC, splice, ne_eq, Nat.reduceEqDiff, Nat.reduceAdd, Nat.reduceMul, Nat.reduceLeDiff, Int.reduceToNat, hne, hne']
  refine gdH_b (fun h => ?_) (fun h => ?_)
  rotate_left
  · simp -dsimp (disch := first | omega | (simp only [bys_size, ByteArray.size_append, List.length_cons, List.length_nil] ; omega)) only [xrun, ↓xpre, ↓reduceIte, xval, xops, xlib, boolV, nilV, nilN, oneC, splice, ne_eq, Nat.reduceEqDiff, Nat.reduceAdd, Nat.reduceMul, Nat.reduceLeDiff, Int.reduceToNat, h]
    exact wkH_ext hx ⟨by unfold rowB; rw [show decide (a.t < b.t) = true from h]; rfl, rfl⟩
  · simp -dsimp (disch := first | omega | (simp only [bys_size, ByteArray.size_append, List.length_cons, List.length_nil] ; omega)) only [xrun, ↓xpre, ↓reduceIte, xval, xops, xlib, boolV, nilV, nilN, oneC, splice, ne_eq, Nat.reduceEqDiff, Nat.reduceAdd, Nat.reduceMul, Nat.reduceLeDiff, Int.reduceToNat, h, hne, hne']
    refine gdH_b (fun h' => ?_) (fun h' => ?_)
    · simp -dsimp (disch := first | omega | (simp only [bys_size, ByteArray.size_append, List.length_cons, List.length_nil] ; omega)) only [xrun, ↓xpre, ↓reduceIte, xval, xops, xlib, boolV, nilV, nilN, oneC, splice, ne_eq, Nat.reduceEqDiff, Nat.reduceAdd, Nat.reduceMul, Nat.reduceLeDiff, Int.reduceToNat, h, h', hne, hne']
      exact wkH_ext hx ⟨by unfold rowB; rw [h, h']; rfl, rfl⟩
    · simp -dsimp (disch := first | omega | (simp only [bys_size, ByteArray.size_append, List.length_cons, List.length_nil] ; omega)) only [xrun, ↓xpre, ↓reduceIte, xval, xops, xlib, boolV, nilV, nilN, oneC, splice, ne_eq, Nat.reduceEqDiff, Nat.reduceAdd, Nat.reduceMul, Nat.reduceLeDiff, Int.reduceToNat, h, h']
      exact wkH_ext hx ⟨by unfold rowB; rw [h, show decide (a.t = b.t) = false from h']; rfl, rfl⟩

end Go.Proofs.YtemaflbbcihilaaDoor.Fl

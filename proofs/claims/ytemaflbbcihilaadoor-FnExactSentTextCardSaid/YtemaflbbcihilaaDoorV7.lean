/- Changes of rows, told by contract: faults, sizes, copies, likeness. No conditions. -/
import Derived.Test.YtemaflbbcihilaaDoorV6
namespace Go.Proofs.YtemaflbbcihilaaDoor.Fl
open Go Go.RowKit
set_option linter.unusedSimpArgs false
set_option linter.unusedVariables false

structure ChM where
  was : Bool
  b : RowM
  is : Bool
  a : RowM

def chC (c : ChM) : List Value := [.bool c.was, .int .i64 c.b.t, .int .i64 c.b.k, .int .i64 c.b.v, .string c.b.s, .bool c.is, .int .i64 c.a.t, .int .i64 c.a.k, .int .i64 c.a.v, .string c.a.s]

def rowEq (a b : RowM) : Bool := decide (a.t = b.t) && (decide (a.k = b.k) && (decide (a.v = b.v) && decide (a.s = b.s)))
theorem rowEq_iff {a b : RowM} : rowEq a b = true ↔ a = b := by
  cases a; cases b; simp [rowEq]

def orderF (a b : RowM) : Int := if rowB a b then -1 else if rowB b a then 1 else 0
def chKey (c : ChM) : RowM := if c.is then c.a else c.b
def chF (c : ChM) : Int := if (!c.was && !c.is) || (c.was && c.is && (decide (c.b.t ≠ c.a.t) || decide (c.b.k ≠ c.a.k))) then 1 else if c.was && decide (rowF c.b ≠ 0) then rowF c.b else if c.is then rowF c.a else 0
def oneF (c : ChM) : Int := if chF c ≠ 0 then chF c else if c.was && c.is && rowEq c.b c.a then 1 else 0
def chB (c d : ChM) : Bool := rowB (chKey c) (chKey d)

theorem orderF_ne {a b : RowM} : decide (orderF a b ≠ 0) = (decide (a.t ≠ b.t) || decide (a.k ≠ b.k)) := by
  unfold orderF rowB
  by_cases h1 : a.t < b.t
  · have : a.t ≠ b.t := by omega
    simp [h1, this]
  · by_cases h2 : b.t < a.t
    · have : a.t ≠ b.t := by omega
      have h3 : ¬ a.t = b.t := this
      simp [h1, h2, h3]
    · have h3 : a.t = b.t := by omega
      by_cases h4 : a.k < b.k
      · have : a.k ≠ b.k := by omega
        simp [h3, h4, this]
      · by_cases h5 : b.k < a.k
        · have : a.k ≠ b.k := by omega
          simp [h3, h4, h5, this]
        · have : a.k = b.k := by omega
          simp [h3, this]

/-- A change's texts are no longer than the model's bound. -/
def ChM.small (c : ChM) : Prop := c.b.s.size ≤ 2 ^ 62 ∧ c.a.s.size ≤ 2 ^ 62

theorem sub_ptr {w0 : World} {m : Frag} {n o : Nat} {cells : List Value} (h : ptrT w0 m (.pointer (some ⟨n, o, Option.none⟩)) cells) (k : Nat) (sub : List Value) (hs : ∃ r, cells.drop k = sub ++ r) (hk : k ≤ cells.length) : ptrT w0 m (.pointer (some ⟨n, o + k, Option.none⟩)) sub := by
  obtain ⟨n', o', cs, rest, hv, hr, hl, h0, hat⟩ := ptrT_at h
  cases hv
  obtain ⟨r, hr2⟩ := hs
  refine ⟨n, o + k, cs, r ++ rest, rfl, hr, by omega, ?_⟩
  rw [hat k hk, hr2, List.append_assoc]

theorem c_l6Change {w0 : World} {m : Frag} {p : Value} {c : ChM} (hp : ptrT w0 m p (chC c)) (hs : c.small) : ACall Tryd.prog w0 n_spec_l6Change #[p] m fun v m' => v = .int .i64 (chF c) ∧ m' = m := by
  refine acall_x mo x_spec_l6Change (by rw [p_spec_l6Change]; exact Nat.le_of_ble_eq_true rfl) ?_
  obtain ⟨n, o, cs, rest, rfl, hr, hl, h0, hat⟩ := ptrT_at hp
  have hpb := sub_ptr hp 1 (rowC c.b) ⟨_, rfl⟩ (by show 1 ≤ 10; omega)
  have hpa := sub_ptr hp 6 (rowC c.a) ⟨[], (List.append_nil _).symm⟩ (by show 6 ≤ 10; omega)
  have a1 := hat 1 (by show 1 ≤ 10; omega)
  have a2 := hat 2 (by show 2 ≤ 10; omega)
  have a5 := hat 5 (by show 5 ≤ 10; omega)
  have a6 := hat 6 (by show 6 ≤ 10; omega)
  have a7 := hat 7 (by show 7 ≤ 10; omega)
  simp only [chC, List.drop_succ_cons, List.drop_zero, List.length_cons, List.length_nil] at hl h0 a1 a2 a5 a6 a7
  obtain ⟨w, b, s, a⟩ := c
  simp only at h0 a1 a2 a5 a6 a7 hpa hpb
  obtain ⟨hsb, hsa⟩ := hs
  simp only at hsb hsa
  have f1 : o + 1 + 1 = o + 2 := rfl
  have f6 : o + 6 + 1 = o + 7 := rfl
  unfold r_spec_l6Change
  have last : ∀ t : Tm, t 0 = .pointer (some ⟨n, o, Option.none⟩) → True := fun _ _ => trivial
  cases w <;> cases s
  · simp -dsimp (disch := first | omega | (simp only [bys_size, ByteArray.size_append, List.length_cons, List.length_nil] ; omega)) only [xrun, ↓xpre, ↓reduceIte, xval, xops, xlib, boolV, nilV, nilN, oneC, splice, ne_eq, Nat.reduceEqDiff, Nat.reduceAdd, Nat.reduceMul, Nat.reduceLeDiff, Int.reduceToNat, hr, h0, a5]
    exact wkH_self ⟨by simp [chF], rfl⟩
  · simp -dsimp (disch := first | omega | (simp only [bys_size, ByteArray.size_append, List.length_cons, List.length_nil] ; omega)) only [xrun, ↓xpre, ↓reduceIte, xval, xops, xlib, boolV, nilV, nilN, oneC, splice, ne_eq, Nat.reduceEqDiff, Nat.reduceAdd, Nat.reduceMul, Nat.reduceLeDiff, Int.reduceToNat, hr, h0, a5]
    refine callH_of (c_l1Fault hpa hsa) ?_
    rintro v m' ⟨rfl, rfl⟩
    simp -dsimp (disch := first | omega | (simp only [bys_size, ByteArray.size_append, List.length_cons, List.length_nil] ; omega)) only [xrun, ↓xpre, ↓reduceIte, xval, xops, xlib, boolV, nilV, nilN, oneC, splice, ne_eq, Nat.reduceEqDiff, Nat.reduceAdd, Nat.reduceMul, Nat.reduceLeDiff, Int.reduceToNat]
    exact wkH_self ⟨by simp [chF], rfl⟩
  · simp -dsimp (disch := first | omega | (simp only [bys_size, ByteArray.size_append, List.length_cons, List.length_nil] ; omega)) only [xrun, ↓xpre, ↓reduceIte, xval, xops, xlib, boolV, nilV, nilN, oneC, splice, ne_eq, Nat.reduceEqDiff, Nat.reduceAdd, Nat.reduceMul, Nat.reduceLeDiff, Int.reduceToNat, hr, h0, a5]
    refine callH_of (c_l1Fault hpb hsb) ?_
    rintro v m' ⟨rfl, rfl⟩
    simp -dsimp (disch := first | omega | (simp only [bys_size, ByteArray.size_append, List.length_cons, List.length_nil] ; omega)) only [xrun, ↓xpre, ↓reduceIte, xval, xops, xlib, boolV, nilV, nilN, oneC, splice, ne_eq, Nat.reduceEqDiff, Nat.reduceAdd, Nat.reduceMul, Nat.reduceLeDiff, Int.reduceToNat]
    refine condH_of (fun h => ?_) (fun h => ?_)
    · simp -dsimp (disch := first | omega | (simp only [bys_size, ByteArray.size_append, List.length_cons, List.length_nil] ; omega)) only [xrun, ↓xpre, ↓reduceIte, xval, xops, xlib, boolV, nilV, nilN, oneC, splice, ne_eq, Nat.reduceEqDiff, Nat.reduceAdd, Nat.reduceMul, Nat.reduceLeDiff, Int.reduceToNat]
      exact wkH_self ⟨by simp [chF, h], rfl⟩
    · simp -dsimp (disch := first | omega | (simp only [bys_size, ByteArray.size_append, List.length_cons, List.length_nil] ; omega)) only [xrun, ↓xpre, ↓reduceIte, xval, xops, xlib, boolV, nilV, nilN, oneC, splice, ne_eq, Nat.reduceEqDiff, Nat.reduceAdd, Nat.reduceMul, Nat.reduceLeDiff, Int.reduceToNat, hr, h0, a5]
      exact wkH_self ⟨by have : rowF b = 0 := by omega
                         simp [chF, this], rfl⟩
  · simp -dsimp (disch := first | omega | (simp only [bys_size, ByteArray.size_append, List.length_cons, List.length_nil] ; omega)) only [xrun, ↓xpre, ↓reduceIte, xval, xops, xlib, boolV, nilV, nilN, oneC, splice, ne_eq, Nat.reduceEqDiff, Nat.reduceAdd, Nat.reduceMul, Nat.reduceLeDiff, Int.reduceToNat, hr, h0, a1, a2, a5, a6, a7, f1, f6]
    refine gdH_b (fun h => ?_) (fun h => ?_)
    rotate_left
    · simp -dsimp (disch := first | omega | (simp only [bys_size, ByteArray.size_append, List.length_cons, List.length_nil] ; omega)) only [xrun, ↓xpre, ↓reduceIte, xval, xops, xlib, boolV, nilV, nilN, oneC, splice, ne_eq, Nat.reduceEqDiff, Nat.reduceAdd, Nat.reduceMul, Nat.reduceLeDiff, Int.reduceToNat, h]
      exact wkH_self ⟨by simp [chF]; intro h'; simp [h'] at h, rfl⟩
    · simp -dsimp (disch := first | omega | (simp only [bys_size, ByteArray.size_append, List.length_cons, List.length_nil] ; omega)) only [xrun, ↓xpre, ↓reduceIte, xval, xops, xlib, boolV, nilV, nilN, oneC, splice, ne_eq, Nat.reduceEqDiff, Nat.reduceAdd, Nat.reduceMul, Nat.reduceLeDiff, Int.reduceToNat, h, hr, h0, a1, a2, a5, a6, a7, f1, f6]
      refine condH_of (fun h' => ?_) (fun h' => ?_)
      · simp -dsimp (disch := first | omega | (simp only [bys_size, ByteArray.size_append, List.length_cons, List.length_nil] ; omega)) only [xrun, ↓xpre, ↓reduceIte, xval, xops, xlib, boolV, nilV, nilN, oneC, splice, ne_eq, Nat.reduceEqDiff, Nat.reduceAdd, Nat.reduceMul, Nat.reduceLeDiff, Int.reduceToNat]
        exact wkH_self ⟨by simp [chF]; intro _ h''; exact absurd h'' h', rfl⟩
      · have e1 : b.t = a.t := by simpa using h
        have e2 : b.k = a.k := Classical.not_not.1 h'
        simp -dsimp (disch := first | omega | (simp only [bys_size, ByteArray.size_append, List.length_cons, List.length_nil] ; omega)) only [xrun, ↓xpre, ↓reduceIte, xval, xops, xlib, boolV, nilV, nilN, oneC, splice, ne_eq, Nat.reduceEqDiff, Nat.reduceAdd, Nat.reduceMul, Nat.reduceLeDiff, Int.reduceToNat, hr, h0, a5]
        refine callH_of (c_l1Fault hpb hsb) ?_
        rintro v m' ⟨rfl, rfl⟩
        simp -dsimp (disch := first | omega | (simp only [bys_size, ByteArray.size_append, List.length_cons, List.length_nil] ; omega)) only [xrun, ↓xpre, ↓reduceIte, xval, xops, xlib, boolV, nilV, nilN, oneC, splice, ne_eq, Nat.reduceEqDiff, Nat.reduceAdd, Nat.reduceMul, Nat.reduceLeDiff, Int.reduceToNat]
        refine condH_of (fun h3 => ?_) (fun h3 => ?_)
        · simp -dsimp (disch := first | omega | (simp only [bys_size, ByteArray.size_append, List.length_cons, List.length_nil] ; omega)) only [xrun, ↓xpre, ↓reduceIte, xval, xops, xlib, boolV, nilV, nilN, oneC, splice, ne_eq, Nat.reduceEqDiff, Nat.reduceAdd, Nat.reduceMul, Nat.reduceLeDiff, Int.reduceToNat]
          exact wkH_self ⟨by simp [chF, e1, e2, h3], rfl⟩
        · have h4 : rowF b = 0 := by omega
          simp -dsimp (disch := first | omega | (simp only [bys_size, ByteArray.size_append, List.length_cons, List.length_nil] ; omega)) only [xrun, ↓xpre, ↓reduceIte, xval, xops, xlib, boolV, nilV, nilN, oneC, splice, ne_eq, Nat.reduceEqDiff, Nat.reduceAdd, Nat.reduceMul, Nat.reduceLeDiff, Int.reduceToNat, hr, h0, a5]
          refine callH_of (c_l1Fault hpa hsa) ?_
          rintro v m' ⟨rfl, rfl⟩
          simp -dsimp (disch := first | omega | (simp only [bys_size, ByteArray.size_append, List.length_cons, List.length_nil] ; omega)) only [xrun, ↓xpre, ↓reduceIte, xval, xops, xlib, boolV, nilV, nilN, oneC, splice, ne_eq, Nat.reduceEqDiff, Nat.reduceAdd, Nat.reduceMul, Nat.reduceLeDiff, Int.reduceToNat]
          exact wkH_self ⟨by simp [chF, e1, e2, h4], rfl⟩

theorem c_l9Change {w0 : World} {m : Frag} {p : Value} {c : ChM} (hp : ptrT w0 m p (chC c)) (hs : c.small) : ACall Tryd.prog w0 n_spec_l9Change #[p] m fun v m' => v = .int .i64 (oneF c) ∧ m' = m := by
  refine acall_x mo x_spec_l9Change (by rw [p_spec_l9Change]; exact Nat.le_of_ble_eq_true rfl) ?_
  obtain ⟨n, o, cs, rest, rfl, hr, hl, h0, hat⟩ := ptrT_at hp
  have a1 := hat 1 (by show 1 ≤ 10; omega)
  have a5 := hat 5 (by show 5 ≤ 10; omega)
  have a6 := hat 6 (by show 6 ≤ 10; omega)
  simp only [chC, List.drop_succ_cons, List.drop_zero, List.length_cons, List.length_nil] at hl h0 a1 a5 a6
  unfold r_spec_l9Change
  simp -dsimp (disch := first | omega | (simp only [bys_size, ByteArray.size_append, List.length_cons, List.length_nil] ; omega)) only [xrun, ↓xpre, ↓reduceIte, xval, xops, xlib, boolV, nilV, nilN, oneC, splice, ne_eq, Nat.reduceEqDiff, Nat.reduceAdd, Nat.reduceMul, Nat.reduceLeDiff, Int.reduceToNat]
  refine callH_of (c_l6Change hp hs) ?_
  rintro v m' ⟨rfl, rfl⟩
  simp -dsimp (disch := first | omega | (simp only [bys_size, ByteArray.size_append, List.length_cons, List.length_nil] ; omega)) only [xrun, ↓xpre, ↓reduceIte, xval, xops, xlib, boolV, nilV, nilN, oneC, splice, ne_eq, Nat.reduceEqDiff, Nat.reduceAdd, Nat.reduceMul, Nat.reduceLeDiff, Int.reduceToNat]
  refine condH_of (fun h => ?_) (fun h => ?_)
  · simp -dsimp (disch := first | omega | (simp only [bys_size, ByteArray.size_append, List.length_cons, List.length_nil] ; omega)) only [xrun, ↓xpre, ↓reduceIte, xval, xops, xlib, boolV, nilV, nilN, oneC, splice, ne_eq, Nat.reduceEqDiff, Nat.reduceAdd, Nat.reduceMul, Nat.reduceLeDiff, Int.reduceToNat]
    exact wkH_self ⟨by simp [oneF, h], rfl⟩
  · have hz : chF c = 0 := by omega
    obtain ⟨w, b, s, a⟩ := c
    simp only at h0 a1 a5 a6
    cases w <;> cases s <;> simp -dsimp (disch := first | omega | (simp only [bys_size, ByteArray.size_append, List.length_cons, List.length_nil] ; omega)) only [xrun, ↓xpre, ↓reduceIte, xval, xops, xlib, boolV, nilV, nilN, oneC, splice, ne_eq, Nat.reduceEqDiff, Nat.reduceAdd, Nat.reduceMul, Nat.reduceLeDiff, Int.reduceToNat, hr, h0, a1, a5, a6]
    · exact wkH_self ⟨by simp [oneF, hz], rfl⟩
    · exact wkH_self ⟨by simp [oneF, hz], rfl⟩
    · exact wkH_self ⟨by simp [oneF, hz], rfl⟩
    · refine condH_b (fun h => ?_) (fun h => ?_)
      · simp -dsimp (disch := first | omega | (simp only [bys_size, ByteArray.size_append, List.length_cons, List.length_nil] ; omega)) only [xrun, ↓xpre, ↓reduceIte, xval, xops, xlib, boolV, nilV, nilN, oneC, splice, ne_eq, Nat.reduceEqDiff, Nat.reduceAdd, Nat.reduceMul, Nat.reduceLeDiff, Int.reduceToNat]
        have h' : rowEq b a = true := h
        exact wkH_self ⟨by simp [oneF, hz, h'], rfl⟩
      · simp -dsimp (disch := first | omega | (simp only [bys_size, ByteArray.size_append, List.length_cons, List.length_nil] ; omega)) only [xrun, ↓xpre, ↓reduceIte, xval, xops, xlib, boolV, nilV, nilN, oneC, splice, ne_eq, Nat.reduceEqDiff, Nat.reduceAdd, Nat.reduceMul, Nat.reduceLeDiff, Int.reduceToNat]
        have h' : rowEq b a = false := h
        exact wkH_self ⟨by simp [oneF, hz, h'], rfl⟩

theorem c_l6Key {w0 : World} {m : Frag} {p : Value} {c : ChM} (hp : ptrT w0 m p (chC c)) : ACall Tryd.prog w0 n_spec_l6Key #[p] m fun v m' => v = .tuple #[.int .i64 (chKey c).t, .int .i64 (chKey c).k] ∧ m' = m := by
  refine acall_x mo x_spec_l6Key (by rw [p_spec_l6Key]; exact Nat.le_of_ble_eq_true rfl) ?_
  obtain ⟨n, o, cs, rest, rfl, hr, hl, h0, hat⟩ := ptrT_at hp
  have a1 := hat 1 (by show 1 ≤ 10; omega)
  have a2 := hat 2 (by show 2 ≤ 10; omega)
  have a5 := hat 5 (by show 5 ≤ 10; omega)
  have a6 := hat 6 (by show 6 ≤ 10; omega)
  have a7 := hat 7 (by show 7 ≤ 10; omega)
  simp only [chC, List.drop_succ_cons, List.drop_zero, List.length_cons, List.length_nil] at hl h0 a1 a2 a5 a6 a7
  obtain ⟨w, b, s, a⟩ := c
  simp only at h0 a1 a2 a5 a6 a7
  have f1 : o + 1 + 1 = o + 2 := rfl
  have f6 : o + 6 + 1 = o + 7 := rfl
  unfold r_spec_l6Key
  cases s <;> simp -dsimp (disch := first | omega | (simp only [bys_size, ByteArray.size_append, List.length_cons, List.length_nil] ; omega)) only [xrun, ↓xpre, ↓reduceIte, xval, xops, xlib, boolV, nilV, nilN, oneC, splice, ne_eq, Nat.reduceEqDiff, Nat.reduceAdd, Nat.reduceMul, Nat.reduceLeDiff, Int.reduceToNat, hr, h0, a1, a2, a5, a6, a7, f1, f6] <;> exact wkH_self ⟨rfl, rfl⟩

theorem c_l9Ahead {w0 : World} {m : Frag} {p q : Value} {c d : ChM} (hp : ptrT w0 m p (chC c)) (hq : ptrT w0 m q (chC d)) : ACall Tryd.prog w0 n_spec_l9Ahead #[p, q] m fun v m' => v = .bool (chB c d) ∧ m' = m := by
  refine acall_x mo x_spec_l9Ahead (by rw [p_spec_l9Ahead]; exact Nat.le_of_ble_eq_true rfl) ?_
  unfold r_spec_l9Ahead
  simp -dsimp (disch := first | omega | (simp only [bys_size, ByteArray.size_append, List.length_cons, List.length_nil] ; omega)) only [xrun, ↓xpre, ↓reduceIte, xval, xops, xlib, boolV, nilV, nilN, oneC, splice, ne_eq, Nat.reduceEqDiff, Nat.reduceAdd, Nat.reduceMul, Nat.reduceLeDiff, Int.reduceToNat]
  refine callH_of (c_l6Key hp) ?_
  rintro v m' ⟨rfl, rfl⟩
  simp -dsimp (disch := first | omega | (simp only [bys_size, ByteArray.size_append, List.length_cons, List.length_nil] ; omega)) only [xrun, ↓xpre, ↓reduceIte, xval, xops, xlib, boolV, nilV, nilN, oneC, splice, ne_eq, Nat.reduceEqDiff, Nat.reduceAdd, Nat.reduceMul, Nat.reduceLeDiff, Int.reduceToNat]
  refine callH_of (c_l6Key hq) ?_
  rintro v m' ⟨rfl, rfl⟩
  simp -dsimp (disch := first | omega | (simp only [bys_size, ByteArray.size_append, List.length_cons, List.length_nil] ; omega)) only [xrun, ↓xpre, ↓reduceIte, xval, xops, xlib, boolV, nilV, nilN, oneC, splice, ne_eq, Nat.reduceEqDiff, Nat.reduceAdd, Nat.reduceMul, Nat.reduceLeDiff, Int.reduceToNat]
  refine gdH_b (fun h => ?_) (fun h => ?_)
  rotate_left
  · simp -dsimp (disch := first | omega | (simp only [bys_size, ByteArray.size_append, List.length_cons, List.length_nil] ; omega)) only [xrun, ↓xpre, ↓reduceIte, xval, xops, xlib, boolV, nilV, nilN, oneC, splice, ne_eq, Nat.reduceEqDiff, Nat.reduceAdd, Nat.reduceMul, Nat.reduceLeDiff, Int.reduceToNat, h]
    exact wkH_self ⟨by unfold chB rowB; rw [show decide ((chKey c).t < (chKey d).t) = true from h]; rfl, rfl⟩
  · simp -dsimp (disch := first | omega | (simp only [bys_size, ByteArray.size_append, List.length_cons, List.length_nil] ; omega)) only [xrun, ↓xpre, ↓reduceIte, xval, xops, xlib, boolV, nilV, nilN, oneC, splice, ne_eq, Nat.reduceEqDiff, Nat.reduceAdd, Nat.reduceMul, Nat.reduceLeDiff, Int.reduceToNat, h]
    refine gdH_b (fun h' => ?_) (fun h' => ?_)
    · simp -dsimp (disch := first | omega | (simp only [bys_size, ByteArray.size_append, List.length_cons, List.length_nil] ; omega)) only [xrun, ↓xpre, ↓reduceIte, xval, xops, xlib, boolV, nilV, nilN, oneC, splice, ne_eq, Nat.reduceEqDiff, Nat.reduceAdd, Nat.reduceMul, Nat.reduceLeDiff, Int.reduceToNat, h, h']
      exact wkH_self ⟨by unfold chB rowB; rw [h, h']; rfl, rfl⟩
    · simp -dsimp (disch := first | omega | (simp only [bys_size, ByteArray.size_append, List.length_cons, List.length_nil] ; omega)) only [xrun, ↓xpre, ↓reduceIte, xval, xops, xlib, boolV, nilV, nilN, oneC, splice, ne_eq, Nat.reduceEqDiff, Nat.reduceAdd, Nat.reduceMul, Nat.reduceLeDiff, Int.reduceToNat, h, h']
      exact wkH_self ⟨by unfold chB rowB; rw [h, show decide ((chKey c).t = (chKey d).t) = false from h']; rfl, rfl⟩

theorem c_order {w0 : World} {m : Frag} {a b : RowM} : ACall Tryd.prog w0 n_impl_order #[.agg (rowC a).toArray, .agg (rowC b).toArray] m fun v m' => v = .int .i64 (orderF a b) ∧ m' = m := by
  refine acall_x mo x_impl_order (by rw [p_impl_order]; exact Nat.le_of_ble_eq_true rfl) ?_
  unfold r_impl_order rowC
  simp -dsimp (disch := first | omega | (simp only [bys_size, ByteArray.size_append, List.length_cons, List.length_nil] ; omega)) only [xrun, ↓xpre, ↓reduceIte, xval, xops, xlib, boolV, nilV, nilN, oneC, splice, ne_eq, Nat.reduceEqDiff, Nat.reduceAdd, Nat.reduceMul, Nat.reduceLeDiff, Int.reduceToNat]
  intro n hn hm
  simp -dsimp (disch := first | omega | (simp only [bys_size, ByteArray.size_append, List.length_cons, List.length_nil] ; omega)) only [xrun, ↓xpre, ↓reduceIte, xval, xops, xlib, boolV, nilV, nilN, oneC, splice, ne_eq, Nat.reduceEqDiff, Nat.reduceAdd, Nat.reduceMul, Nat.reduceLeDiff, Int.reduceToNat]
  intro n2 hn2 hm2
  have hne : n2 ≠ n := fun e => by subst e; rw [Frag.set_same] at hm2; cases hm2
  have hne' : n ≠ n2 := Ne.symm hne
  have hx := (Ext.set (m := m) (n := n) (.cells [.int .i64 a.t, .int .i64 a.k, .int .i64 a.v, .string a.s] 4 t_impl_Row) hm).trans (Ext.set (n := n2) (.cells [.int .i64 b.t, .int .i64 b.k, .int .i64 b.v, .string b.s] 4 t_impl_Row) hm2)
  simp -dsimp (disch := first | omega | (simp only [bys_size, ByteArray.size_append, List.length_cons, List.length_nil] ; omega)) only [xrun, ↓xpre, ↓reduceIte, xval, xops, xlib, boolV, nilV, nilN, oneC, splice, ne_eq, Nat.reduceEqDiff, Nat.reduceAdd, Nat.reduceMul, Nat.reduceLeDiff, Int.reduceToNat, hne, hne']
  refine callH_of (c_IsBefore (a := a) (b := b)) ?_
  rintro v m' ⟨rfl, rfl⟩
  simp -dsimp (disch := first | omega | (simp only [bys_size, ByteArray.size_append, List.length_cons, List.length_nil] ; omega)) only [xrun, ↓xpre, ↓reduceIte, xval, xops, xlib, boolV, nilV, nilN, oneC, splice, ne_eq, Nat.reduceEqDiff, Nat.reduceAdd, Nat.reduceMul, Nat.reduceLeDiff, Int.reduceToNat]
  cases h : rowB a b with
  | true =>
    simp -dsimp (disch := first | omega | (simp only [bys_size, ByteArray.size_append, List.length_cons, List.length_nil] ; omega)) only [xrun, ↓xpre, ↓reduceIte, xval, xops, xlib, boolV, nilV, nilN, oneC, splice, ne_eq, Nat.reduceEqDiff, Nat.reduceAdd, Nat.reduceMul, Nat.reduceLeDiff, Int.reduceToNat]
    exact wkH_ext hx ⟨by unfold orderF; rw [h]; rfl, rfl⟩
  | false =>
    simp -dsimp (disch := first | omega | (simp only [bys_size, ByteArray.size_append, List.length_cons, List.length_nil] ; omega)) only [xrun, ↓xpre, ↓reduceIte, xval, xops, xlib, boolV, nilV, nilN, oneC, splice, ne_eq, Nat.reduceEqDiff, Nat.reduceAdd, Nat.reduceMul, Nat.reduceLeDiff, Int.reduceToNat, hne, hne']
    refine callH_of (c_IsBefore (a := b) (b := a)) ?_
    rintro v m' ⟨rfl, rfl⟩
    simp -dsimp (disch := first | omega | (simp only [bys_size, ByteArray.size_append, List.length_cons, List.length_nil] ; omega)) only [xrun, ↓xpre, ↓reduceIte, xval, xops, xlib, boolV, nilV, nilN, oneC, splice, ne_eq, Nat.reduceEqDiff, Nat.reduceAdd, Nat.reduceMul, Nat.reduceLeDiff, Int.reduceToNat]
    cases h' : rowB b a with
    | true =>
      simp -dsimp (disch := first | omega | (simp only [bys_size, ByteArray.size_append, List.length_cons, List.length_nil] ; omega)) only [xrun, ↓xpre, ↓reduceIte, xval, xops, xlib, boolV, nilV, nilN, oneC, splice, ne_eq, Nat.reduceEqDiff, Nat.reduceAdd, Nat.reduceMul, Nat.reduceLeDiff, Int.reduceToNat]
      exact wkH_ext hx ⟨by unfold orderF; rw [h, h']; rfl, rfl⟩
    | false =>
      simp -dsimp (disch := first | omega | (simp only [bys_size, ByteArray.size_append, List.length_cons, List.length_nil] ; omega)) only [xrun, ↓xpre, ↓reduceIte, xval, xops, xlib, boolV, nilV, nilN, oneC, splice, ne_eq, Nat.reduceEqDiff, Nat.reduceAdd, Nat.reduceMul, Nat.reduceLeDiff, Int.reduceToNat]
      exact wkH_ext hx ⟨by unfold orderF; rw [h, h']; rfl, rfl⟩

theorem c_changeFault {w0 : World} {m : Frag} {c : ChM} (hs : c.small) : ACall Tryd.prog w0 n_impl_changeFault #[.agg (chC c).toArray] m fun v m' => v = .int .i64 (chF c) ∧ m' = m := by
  refine acall_x mo x_impl_changeFault (by rw [p_impl_changeFault]; exact Nat.le_of_ble_eq_true rfl) ?_
  obtain ⟨w, b, s, a⟩ := c
  obtain ⟨hsb, hsa⟩ := hs
  simp only at hsb hsa
  unfold r_impl_changeFault chC
  simp -dsimp (disch := first | omega | (simp only [bys_size, ByteArray.size_append, List.length_cons, List.length_nil] ; omega)) only [xrun, ↓xpre, ↓reduceIte, xval, xops, xlib, boolV, nilV, nilN, oneC, splice, ne_eq, Nat.reduceEqDiff, Nat.reduceAdd, Nat.reduceMul, Nat.reduceLeDiff, Int.reduceToNat]
  intro n hn hm
  have hx := Ext.set (m := m) (n := n) (.cells [.bool w, .int .i64 b.t, .int .i64 b.k, .int .i64 b.v, .string b.s, .bool s, .int .i64 a.t, .int .i64 a.k, .int .i64 a.v, .string a.s] 10 t_impl_Change) hm
  cases w <;> cases s
  · simp -dsimp (disch := first | omega | (simp only [bys_size, ByteArray.size_append, List.length_cons, List.length_nil] ; omega)) only [xrun, ↓xpre, ↓reduceIte, xval, xops, xlib, boolV, nilV, nilN, oneC, splice, ne_eq, Nat.reduceEqDiff, Nat.reduceAdd, Nat.reduceMul, Nat.reduceLeDiff, Int.reduceToNat]
    exact wkH_ext hx ⟨by simp [chF], rfl⟩
  · simp -dsimp (disch := first | omega | (simp only [bys_size, ByteArray.size_append, List.length_cons, List.length_nil] ; omega)) only [xrun, ↓xpre, ↓reduceIte, xval, xops, xlib, boolV, nilV, nilN, oneC, splice, ne_eq, Nat.reduceEqDiff, Nat.reduceAdd, Nat.reduceMul, Nat.reduceLeDiff, Int.reduceToNat]
    refine callH_of (c_RowFault (r := a) hsa) ?_
    rintro v m' ⟨rfl, rfl⟩
    simp -dsimp (disch := first | omega | (simp only [bys_size, ByteArray.size_append, List.length_cons, List.length_nil] ; omega)) only [xrun, ↓xpre, ↓reduceIte, xval, xops, xlib, boolV, nilV, nilN, oneC, splice, ne_eq, Nat.reduceEqDiff, Nat.reduceAdd, Nat.reduceMul, Nat.reduceLeDiff, Int.reduceToNat]
    exact wkH_ext hx ⟨by simp [chF], rfl⟩
  · simp -dsimp (disch := first | omega | (simp only [bys_size, ByteArray.size_append, List.length_cons, List.length_nil] ; omega)) only [xrun, ↓xpre, ↓reduceIte, xval, xops, xlib, boolV, nilV, nilN, oneC, splice, ne_eq, Nat.reduceEqDiff, Nat.reduceAdd, Nat.reduceMul, Nat.reduceLeDiff, Int.reduceToNat]
    refine callH_of (c_RowFault (r := b) hsb) ?_
    rintro v m' ⟨rfl, rfl⟩
    simp -dsimp (disch := first | omega | (simp only [bys_size, ByteArray.size_append, List.length_cons, List.length_nil] ; omega)) only [xrun, ↓xpre, ↓reduceIte, xval, xops, xlib, boolV, nilV, nilN, oneC, splice, ne_eq, Nat.reduceEqDiff, Nat.reduceAdd, Nat.reduceMul, Nat.reduceLeDiff, Int.reduceToNat]
    refine condH_of (fun h => ?_) (fun h => ?_)
    · simp -dsimp (disch := first | omega | (simp only [bys_size, ByteArray.size_append, List.length_cons, List.length_nil] ; omega)) only [xrun, ↓xpre, ↓reduceIte, xval, xops, xlib, boolV, nilV, nilN, oneC, splice, ne_eq, Nat.reduceEqDiff, Nat.reduceAdd, Nat.reduceMul, Nat.reduceLeDiff, Int.reduceToNat]
      exact wkH_ext hx ⟨by simp [chF, h], rfl⟩
    · simp -dsimp (disch := first | omega | (simp only [bys_size, ByteArray.size_append, List.length_cons, List.length_nil] ; omega)) only [xrun, ↓xpre, ↓reduceIte, xval, xops, xlib, boolV, nilV, nilN, oneC, splice, ne_eq, Nat.reduceEqDiff, Nat.reduceAdd, Nat.reduceMul, Nat.reduceLeDiff, Int.reduceToNat]
      exact wkH_ext hx ⟨by have : rowF b = 0 := by omega
                           simp [chF, this], rfl⟩
  · simp -dsimp (disch := first | omega | (simp only [bys_size, ByteArray.size_append, List.length_cons, List.length_nil] ; omega)) only [xrun, ↓xpre, ↓reduceIte, xval, xops, xlib, boolV, nilV, nilN, oneC, splice, ne_eq, Nat.reduceEqDiff, Nat.reduceAdd, Nat.reduceMul, Nat.reduceLeDiff, Int.reduceToNat]
    refine callH_of (c_order (a := b) (b := a)) ?_
    rintro v m' ⟨rfl, rfl⟩
    have ho := @orderF_ne b a
    simp -dsimp (disch := first | omega | (simp only [bys_size, ByteArray.size_append, List.length_cons, List.length_nil] ; omega)) only [xrun, ↓xpre, ↓reduceIte, xval, xops, xlib, boolV, nilV, nilN, oneC, splice, ne_eq, Nat.reduceEqDiff, Nat.reduceAdd, Nat.reduceMul, Nat.reduceLeDiff, Int.reduceToNat]
    refine condH_of (fun h => ?_) (fun h => ?_)
    · simp -dsimp (disch := first | omega | (simp only [bys_size, ByteArray.size_append, List.length_cons, List.length_nil] ; omega)) only [xrun, ↓xpre, ↓reduceIte, xval, xops, xlib, boolV, nilV, nilN, oneC, splice, ne_eq, Nat.reduceEqDiff, Nat.reduceAdd, Nat.reduceMul, Nat.reduceLeDiff, Int.reduceToNat]
      refine wkH_ext hx ⟨?_, rfl⟩
      rw [decide_eq_true h] at ho
      simp only [chF, ← ho]; rfl
    · rw [decide_eq_false h] at ho
      simp -dsimp (disch := first | omega | (simp only [bys_size, ByteArray.size_append, List.length_cons, List.length_nil] ; omega)) only [xrun, ↓xpre, ↓reduceIte, xval, xops, xlib, boolV, nilV, nilN, oneC, splice, ne_eq, Nat.reduceEqDiff, Nat.reduceAdd, Nat.reduceMul, Nat.reduceLeDiff, Int.reduceToNat]
      refine callH_of (c_RowFault (r := b) hsb) ?_
      rintro v m' ⟨rfl, rfl⟩
      simp -dsimp (disch := first | omega | (simp only [bys_size, ByteArray.size_append, List.length_cons, List.length_nil] ; omega)) only [xrun, ↓xpre, ↓reduceIte, xval, xops, xlib, boolV, nilV, nilN, oneC, splice, ne_eq, Nat.reduceEqDiff, Nat.reduceAdd, Nat.reduceMul, Nat.reduceLeDiff, Int.reduceToNat]
      refine condH_of (fun h3 => ?_) (fun h3 => ?_)
      · simp -dsimp (disch := first | omega | (simp only [bys_size, ByteArray.size_append, List.length_cons, List.length_nil] ; omega)) only [xrun, ↓xpre, ↓reduceIte, xval, xops, xlib, boolV, nilV, nilN, oneC, splice, ne_eq, Nat.reduceEqDiff, Nat.reduceAdd, Nat.reduceMul, Nat.reduceLeDiff, Int.reduceToNat]
        refine wkH_ext hx ⟨?_, rfl⟩
        simp only [chF, ← ho]; simp [h3]
      · have h4 : rowF b = 0 := by omega
        simp -dsimp (disch := first | omega | (simp only [bys_size, ByteArray.size_append, List.length_cons, List.length_nil] ; omega)) only [xrun, ↓xpre, ↓reduceIte, xval, xops, xlib, boolV, nilV, nilN, oneC, splice, ne_eq, Nat.reduceEqDiff, Nat.reduceAdd, Nat.reduceMul, Nat.reduceLeDiff, Int.reduceToNat]
        refine callH_of (c_RowFault (r := a) hsa) ?_
        rintro v m' ⟨rfl, rfl⟩
        simp -dsimp (disch := first | omega | (simp only [bys_size, ByteArray.size_append, List.length_cons, List.length_nil] ; omega)) only [xrun, ↓xpre, ↓reduceIte, xval, xops, xlib, boolV, nilV, nilN, oneC, splice, ne_eq, Nat.reduceEqDiff, Nat.reduceAdd, Nat.reduceMul, Nat.reduceLeDiff, Int.reduceToNat]
        refine wkH_ext hx ⟨?_, rfl⟩
        simp only [chF, ← ho]; simp [h4]

theorem c_singleFault {w0 : World} {m : Frag} {c : ChM} (hs : c.small) : ACall Tryd.prog w0 n_impl_singleFault #[.agg (chC c).toArray] m fun v m' => v = .int .i64 (oneF c) ∧ m' = m := by
  refine acall_x mo x_impl_singleFault (by rw [p_impl_singleFault]; exact Nat.le_of_ble_eq_true rfl) ?_
  unfold r_impl_singleFault chC
  simp -dsimp (disch := first | omega | (simp only [bys_size, ByteArray.size_append, List.length_cons, List.length_nil] ; omega)) only [xrun, ↓xpre, ↓reduceIte, xval, xops, xlib, boolV, nilV, nilN, oneC, splice, ne_eq, Nat.reduceEqDiff, Nat.reduceAdd, Nat.reduceMul, Nat.reduceLeDiff, Int.reduceToNat]
  intro n hn hm
  have hx := Ext.set (m := m) (n := n) (.cells (chC c) 10 t_impl_Change) hm
  simp -dsimp (disch := first | omega | (simp only [bys_size, ByteArray.size_append, List.length_cons, List.length_nil] ; omega)) only [xrun, ↓xpre, ↓reduceIte, xval, xops, xlib, boolV, nilV, nilN, oneC, splice, ne_eq, Nat.reduceEqDiff, Nat.reduceAdd, Nat.reduceMul, Nat.reduceLeDiff, Int.reduceToNat]
  refine callH_of (c_changeFault (c := c) hs) ?_
  rintro v m' ⟨rfl, rfl⟩
  simp -dsimp (disch := first | omega | (simp only [bys_size, ByteArray.size_append, List.length_cons, List.length_nil] ; omega)) only [xrun, ↓xpre, ↓reduceIte, xval, xops, xlib, boolV, nilV, nilN, oneC, splice, ne_eq, Nat.reduceEqDiff, Nat.reduceAdd, Nat.reduceMul, Nat.reduceLeDiff, Int.reduceToNat]
  refine condH_of (fun h => ?_) (fun h => ?_)
  · simp -dsimp (disch := first | omega | (simp only [bys_size, ByteArray.size_append, List.length_cons, List.length_nil] ; omega)) only [xrun, ↓xpre, ↓reduceIte, xval, xops, xlib, boolV, nilV, nilN, oneC, splice, ne_eq, Nat.reduceEqDiff, Nat.reduceAdd, Nat.reduceMul, Nat.reduceLeDiff, Int.reduceToNat]
    exact wkH_ext hx ⟨by simp [oneF, h], rfl⟩
  · have hz : chF c = 0 := by omega
    obtain ⟨w, b, s, a⟩ := c
    cases w <;> cases s <;> simp -dsimp (disch := first | omega | (simp only [bys_size, ByteArray.size_append, List.length_cons, List.length_nil] ; omega)) only [xrun, ↓xpre, ↓reduceIte, xval, xops, xlib, boolV, nilV, nilN, oneC, splice, ne_eq, Nat.reduceEqDiff, Nat.reduceAdd, Nat.reduceMul, Nat.reduceLeDiff, Int.reduceToNat]
    · exact wkH_ext hx ⟨by simp [oneF, hz], rfl⟩
    · exact wkH_ext hx ⟨by simp [oneF, hz], rfl⟩
    · exact wkH_ext hx ⟨by simp [oneF, hz], rfl⟩
    · refine condH_b (fun h => ?_) (fun h => ?_)
      · simp -dsimp (disch := first | omega | (simp only [bys_size, ByteArray.size_append, List.length_cons, List.length_nil] ; omega)) only [xrun, ↓xpre, ↓reduceIte, xval, xops, xlib, boolV, nilV, nilN, oneC, splice, ne_eq, Nat.reduceEqDiff, Nat.reduceAdd, Nat.reduceMul, Nat.reduceLeDiff, Int.reduceToNat]
        have h' : rowEq b a = true := h
        exact wkH_ext hx ⟨by simp [oneF, hz, h'], rfl⟩
      · simp -dsimp (disch := first | omega | (simp only [bys_size, ByteArray.size_append, List.length_cons, List.length_nil] ; omega)) only [xrun, ↓xpre, ↓reduceIte, xval, xops, xlib, boolV, nilV, nilN, oneC, splice, ne_eq, Nat.reduceEqDiff, Nat.reduceAdd, Nat.reduceMul, Nat.reduceLeDiff, Int.reduceToNat]
        have h' : rowEq b a = false := h
        exact wkH_ext hx ⟨by simp [oneF, hz, h'], rfl⟩

theorem c_key {w0 : World} {m : Frag} {c : ChM} : ACall Tryd.prog w0 n_impl_Change_key #[.agg (chC c).toArray] m fun v m' => v = .agg (rowC (chKey c)).toArray ∧ m' = m := by
  refine acall_x mo x_impl_Change_key (by rw [p_impl_Change_key]; exact Nat.le_of_ble_eq_true rfl) ?_
  obtain ⟨w, b, s, a⟩ := c
  unfold r_impl_Change_key chC
  simp -dsimp (disch := first | omega | (simp only [bys_size, ByteArray.size_append, List.length_cons, List.length_nil] ; omega)) only [xrun, ↓xpre, ↓reduceIte, xval, xops, xlib, boolV, nilV, nilN, oneC, splice, ne_eq, Nat.reduceEqDiff, Nat.reduceAdd, Nat.reduceMul, Nat.reduceLeDiff, Int.reduceToNat]
  intro n hn hm
  simp -dsimp (disch := first | omega | (simp only [bys_size, ByteArray.size_append, List.length_cons, List.length_nil] ; omega)) only [xrun, ↓xpre, ↓reduceIte, xval, xops, xlib, boolV, nilV, nilN, oneC, splice, ne_eq, Nat.reduceEqDiff, Nat.reduceAdd, Nat.reduceMul, Nat.reduceLeDiff, Int.reduceToNat]
  intro n2 hn2 hm2
  have hne : n2 ≠ n := fun e => by subst e; rw [Frag.set_same] at hm2; cases hm2
  have hne' : n ≠ n2 := Ne.symm hne
  have hm2' : m n2 = Option.none := by rw [Frag.set_ne _ _ hne] at hm2; exact hm2
  have fin : ∀ X Y : Blk, Ext m ((m.set n X).set n2 Y) := fun X Y q bq hq => by
    have q1 : q ≠ n := fun e => by subst e; rw [hq] at hm; cases hm
    have q2 : q ≠ n2 := fun e => by subst e; rw [hq] at hm2'; cases hm2'
    rw [Frag.set_ne _ _ q2, Frag.set_ne _ _ q1]; exact hq
  cases s <;> simp -dsimp (disch := first | omega | (simp only [bys_size, ByteArray.size_append, List.length_cons, List.length_nil] ; omega)) only [xrun, ↓xpre, ↓reduceIte, xval, xops, xlib, boolV, nilV, nilN, oneC, splice, ne_eq, Nat.reduceEqDiff, Nat.reduceAdd, Nat.reduceMul, Nat.reduceLeDiff, Int.reduceToNat, hne, hne'] <;> exact wkH_ext (fin _ _) ⟨rfl, rfl⟩

theorem c_isTx {w0 : World} {m : Frag} {n : Int} : ACall Tryd.prog w0 n_impl_isTx #[.int .i64 n] m fun v m' => v = .bool (inB n 1 99) ∧ m' = m := by
  refine acall_x mo x_impl_isTx (by rw [p_impl_isTx]; exact Nat.le_of_ble_eq_true rfl) ?_
  unfold r_impl_isTx
  simp -dsimp (disch := first | omega | (simp only [bys_size, ByteArray.size_append, List.length_cons, List.length_nil] ; omega)) only [xrun, ↓xpre, ↓reduceIte, xval, xops, xlib, boolV, nilV, nilN, oneC, splice, ne_eq, Nat.reduceEqDiff, Nat.reduceAdd, Nat.reduceMul, Nat.reduceLeDiff, Int.reduceToNat]
  refine callH_of c_in ?_
  rintro v m' ⟨rfl, rfl⟩
  simp -dsimp (disch := first | omega | (simp only [bys_size, ByteArray.size_append, List.length_cons, List.length_nil] ; omega)) only [xrun, ↓xpre, ↓reduceIte, xval, xops, xlib, boolV, nilV, nilN, oneC, splice, ne_eq, Nat.reduceEqDiff, Nat.reduceAdd, Nat.reduceMul, Nat.reduceLeDiff, Int.reduceToNat]
  exact wkH_self ⟨rfl, rfl⟩

end Go.Proofs.YtemaflbbcihilaaDoor.Fl

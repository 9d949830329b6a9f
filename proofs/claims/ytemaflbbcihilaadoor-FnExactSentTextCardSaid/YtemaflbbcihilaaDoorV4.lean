/- Texts of numbers and rows, told by contract. No conditions. -/
import Derived.Test.YtemaflbbcihilaaDoorV3
import Derived.Test.YtemaflbbcihilaaDoorShelf
namespace Go.Proofs.YtemaflbbcihilaaDoor.Fl
open Go Go.RowKit
set_option linter.unusedSimpArgs false
set_option linter.unusedVariables false

/-- The library's table of powers of ten is there. -/
def TabOk (w0 : World) : Prop := Lib.TabIs Tryd.prog w0 "internal/strconv.uint64pow10" .u64 Lib.pow10Tab

/-- A library function that leaves the world as it was, but for new blocks and draws. -/
theorem acall_grow {P : Program} {w0 : World} {m : Frag} {f : FuncId} {args : Array Value} {v0 : Value}
    (h : ∀ w : World, Below w0.heap.size w0 w → Calls P f args w fun e' w' => e' = .returned v0 ∧ ∃ k os, w' = Go.Sort.grow (w.drewN k) os) :
    ACall P w0 f args m fun v m' => v = v0 ∧ m' = m := by
  intro w hw
  refine (h w hw.below).mono fun e' w' ⟨h1, k, os, h2⟩ => ?_
  subst h2
  have hs : w.heap.size ≤ (Go.Sort.grow (w.drewN k) os).heap.size := by show w.heap.size ≤ (w.heap ++ os).size; simp
  have hb : ∀ j, j < w.heap.size → (Go.Sort.grow (w.drewN k) os).heap[j]? = w.heap[j]? := fun j hj => by
    show (w.heap ++ os)[j]? = _
    rw [Array.getElem?_append_left hj]
  refine ⟨v0, m, h1, ⟨rfl, rfl⟩, ⟨⟨hw.below.os, hw.below.tape, hw.below.output, Nat.le_trans hw.below.size hs, fun j hj => ?_⟩, fun n b hn => ?_⟩, hs, fun j hj hm => ⟨hb j hj, hm⟩⟩
  · rw [hb j (Nat.lt_of_lt_of_le hj hw.below.size)]; exact hw.below.block j hj
  · obtain ⟨h3, h4⟩ := hw.blk n b hn
    exact ⟨h3, by rw [hb n h4.lt]; exact h4⟩

theorem c_FormatInt {w0 : World} {m : Frag} {n : Int} (ht : TabOk w0) (h0 : -9223372036854775808 ≤ n) (h1 : n ≤ 9223372036854775807) : ACall Tryd.prog w0 n_strconv_FormatInt #[.int .i64 n, .int .i64 10] m fun v m' => v = .string ⟨(Lib.itoa n).toArray⟩ ∧ m' = m :=
  acall_grow fun w hw => Tryd.strconv_FormatInt_10 n h0 h1 w (Lib.tabBelow_of_tabIs ht w hw)

/-- A number's decimal text. -/
def dg (n : Int) : ByteArray := ⟨(Lib.itoa n).toArray⟩

theorem c_digits {w0 : World} {m : Frag} {n : Int} (ht : TabOk w0) (h0 : -9223372036854775808 ≤ n) (h1 : n ≤ 9223372036854775807) : ACall Tryd.prog w0 n_impl_digits #[.int .i64 n] m fun v m' => v = .string (dg n) ∧ m' = m := by
  refine acall_x mo x_impl_digits (by rw [p_impl_digits]; exact Nat.le_of_ble_eq_true rfl) ?_
  unfold r_impl_digits
  simp -dsimp (disch := first | omega | (simp only [bys_size, ByteArray.size_append, List.length_cons, List.length_nil] ; omega)) only [xrun, ↓xpre, ↓reduceIte, xval, xops, xlib, boolV, nilV, nilN, oneC, splice, ne_eq, Nat.reduceEqDiff, Nat.reduceAdd, Nat.reduceMul, Nat.reduceLeDiff, Int.reduceToNat]
  refine callH_of (c_FormatInt ht h0 h1) ?_
  rintro v m' ⟨rfl, rfl⟩
  simp -dsimp (disch := first | omega | (simp only [bys_size, ByteArray.size_append, List.length_cons, List.length_nil] ; omega)) only [xrun, ↓xpre, ↓reduceIte, xval, xops, xlib, boolV, nilV, nilN, oneC, splice, ne_eq, Nat.reduceEqDiff, Nat.reduceAdd, Nat.reduceMul, Nat.reduceLeDiff, Int.reduceToNat]
  exact wkH_self ⟨rfl, rfl⟩

theorem dg_size {n : Int} (h0 : -9223372036854775808 ≤ n) (h1 : n ≤ 9223372036854775807) : (dg n).size ≤ 21 := by
  show (List.toArray _).size ≤ 21
  rw [List.size_toArray]; exact Lib.itoa_length_le n h0 h1

theorem dg_lt {n : Nat} (h : n < 10) : dg n = ⟨#[UInt8.ofNat (48 + n)]⟩ := by
  unfold dg Lib.itoa
  rw [if_neg (by omega)]
  have : ((n : Int).toNat) = n := by omega
  rw [this]; unfold Lib.decDigits; rw [dif_pos h]
theorem dg_ge {n : Nat} (h : ¬ n < 10) : dg n = dg ((n / 10 : Nat) : Int) ++ ⟨#[UInt8.ofNat (48 + n % 10)]⟩ := by
  have e : ∀ k : Nat, dg k = ⟨(Lib.decDigits k).toArray⟩ := fun k => by
    unfold dg Lib.itoa; rw [if_neg (by omega)]; rfl
  rw [e, e]
  conv => lhs; unfold Lib.decDigits
  rw [dif_neg h]
  apply ByteArray.ext
  rw [ByteArray.data_append]
  simp

theorem c_l1Digits {w0 : World} : ∀ (n : Nat), n ≤ 2 ^ 62 → ∀ m : Frag, ACall Tryd.prog w0 n_spec_l1Digits #[.int .i64 n] m fun v m' => v = .string (dg n) ∧ m' = m := by
  intro n
  induction n using Nat.strongRecOn with
  | _ n ih =>
    intro hn m
    refine acall_x mo x_spec_l1Digits (by rw [p_spec_l1Digits]; exact Nat.le_of_ble_eq_true rfl) ?_
    unfold r_spec_l1Digits
    simp -dsimp (disch := first | omega | (simp only [bys_size, ByteArray.size_append, List.length_cons, List.length_nil] ; omega)) only [xrun, ↓xpre, ↓reduceIte, xval, xops, xlib, boolV, nilV, nilN, oneC, splice, ne_eq, Nat.reduceEqDiff, Nat.reduceAdd, Nat.reduceMul, Nat.reduceLeDiff, Int.reduceToNat]
    have hd : decide ((n : Int) < 0) = false := decide_eq_false (by omega)
    simp -dsimp (disch := first | omega | (simp only [bys_size, ByteArray.size_append, List.length_cons, List.length_nil] ; omega)) only [xrun, ↓xpre, ↓reduceIte, xval, xops, xlib, boolV, nilV, nilN, oneC, splice, ne_eq, Nat.reduceEqDiff, Nat.reduceAdd, Nat.reduceMul, Nat.reduceLeDiff, Int.reduceToNat, hd]
    refine condH_of (fun h => ?_) (fun h => ?_)
    · simp -dsimp (disch := first | omega | (simp only [bys_size, ByteArray.size_append, List.length_cons, List.length_nil] ; omega)) only [xrun, ↓xpre, ↓reduceIte, xval, xops, xlib, boolV, nilV, nilN, oneC, splice, ne_eq, Nat.reduceEqDiff, Nat.reduceAdd, Nat.reduceMul, Nat.reduceLeDiff, Int.reduceToNat]
      intro b hB hb
      simp -dsimp (disch := first | omega | (simp only [bys_size, ByteArray.size_append, List.length_cons, List.length_nil] ; omega)) only [xrun, ↓xpre, ↓reduceIte, xval, xops, xlib, boolV, nilV, nilN, oneC, splice, ne_eq, Nat.reduceEqDiff, Nat.reduceAdd, Nat.reduceMul, Nat.reduceLeDiff, Int.reduceToNat]
      have hk : n < 10 := by omega
      refine ⟨1, [UInt8.ofNat (48 + n)], ⟨_, _, _, rfl⟩, ⟨rfl, _, row_own hB (Frag.set_same _ _ _), by simp, ?_⟩, ?_⟩
      · have : (UInt8.ofNat (48 + n)).toNat = 48 + n := by rw [UInt8.toNat_ofNat']; omega
        simp only [List.map_cons, List.map_nil, byteV, this, List.drop_zero, Nat.one_mul, List.take_succ_cons, List.take_zero]
        rfl
      simp -dsimp (disch := first | omega | (simp only [bys_size, ByteArray.size_append, List.length_cons, List.length_nil] ; omega)) only [xrun, ↓xpre, ↓reduceIte, xval, xops, xlib, boolV, nilV, nilN, oneC, splice, ne_eq, Nat.reduceEqDiff, Nat.reduceAdd, Nat.reduceMul, Nat.reduceLeDiff, Int.reduceToNat]
      exact wkH_ext (Ext.set _ hb) ⟨by rw [dg_lt hk], rfl⟩
    · have hk : ¬ n < 10 := by omega
      simp -dsimp (disch := first | omega | (simp only [bys_size, ByteArray.size_append, List.length_cons, List.length_nil] ; omega)) only [xrun, ↓xpre, ↓reduceIte, xval, xops, xlib, boolV, nilV, nilN, oneC, splice, ne_eq, Nat.reduceEqDiff, Nat.reduceAdd, Nat.reduceMul, Nat.reduceLeDiff, Int.reduceToNat]
      refine invH_of (fun d t m' => t 0 = .int .i64 n ∧ (d 0 = true → t 16 = .int .i64 n) ∧ (d 1 = true → t 17 = .int .i64 ((n / 10 : Nat) : Int)) ∧ (d 2 = true → t 18 = .string (dg ((n / 10 : Nat) : Int))) ∧ (d 3 = true → t 19 = .int .i64 n) ∧ (d 4 = true → t 20 = .int .i64 ((n % 10 : Nat) : Int)) ∧
        (d 5 = true → t 21 = .int .i64 ((48 + n % 10 : Nat) : Int)) ∧ (d 6 = true → t 22 = .int .u8 ((48 + n % 10 : Nat) : Int)) ∧ (d 7 = false → m' = m) ∧ (d 7 = true → ∃ b, w0.heap.size ≤ b ∧ m b = Option.none ∧ t 23 = .slice (some ⟨b, 0, Option.none⟩) 1 1 ∧ m' = m.set b (.cells [.int .u8 ((48 + n % 10 : Nat) : Int)] 1 t_uint8)) ∧
        (d 8 = true → t 24 = .string ⟨#[UInt8.ofNat (48 + n % 10)]⟩) ∧ (d 9 = true → t 25 = .string (dg n)) ∧ (d 10 = true → t 2 = .string (dg n))) ?_ ?_ ?_
      · refine ⟨rfl, ?_, ?_, ?_, ?_, ?_, ?_, ?_, fun _ => rfl, ?_, ?_, ?_, ?_⟩ <;> (intro h; cases h)
      · rintro d t m' ⟨e0, i0, i1, i2, i3, i4, i5, i6, i7, i7', i8, i9, i10⟩
        refine ⟨fun hd hp => ?_, fun hd hp => ?_, fun hd hp => ?_, fun hd hp => ?_, fun hd hp => ?_, fun hd hp => ?_, fun hd hp => ?_, fun hd hp => ?_, fun hd hp => ?_, fun hd hp => ?_, fun hd hp => ?_, trivial⟩
        all_goals simp only [List.mem_cons, List.not_mem_nil, or_false, forall_eq_or_imp, forall_eq, false_implies, implies_true] at hp
        · simp -dsimp (disch := first | omega | (simp only [bys_size, ByteArray.size_append, List.length_cons, List.length_nil] ; omega)) only [xrun, ↓xpre, ↓reduceIte, xval, xops, xlib, boolV, nilV, nilN, oneC, splice, ne_eq, Nat.reduceEqDiff, Nat.reduceAdd, Nat.reduceMul, Nat.reduceLeDiff, Int.reduceToNat, e0]
          try simp only [u_some, reduceIte, Nat.reduceEqDiff, zero_ne_one', one_ne_zero', true_implies, implies_true, and_true, true_and]
          all_goals and_intros <;> first | assumption | (exact fun _ => trivial) | exact e0
        · have q := i0 hp
          simp -dsimp (disch := first | omega | (simp only [bys_size, ByteArray.size_append, List.length_cons, List.length_nil] ; omega)) only [xrun, ↓xpre, ↓reduceIte, xval, xops, xlib, boolV, nilV, nilN, oneC, splice, ne_eq, Nat.reduceEqDiff, Nat.reduceAdd, Nat.reduceMul, Nat.reduceLeDiff, Int.reduceToNat, q]
          try simp only [u_some, reduceIte, Nat.reduceEqDiff, zero_ne_one', one_ne_zero', true_implies, implies_true, and_true, true_and]
          all_goals and_intros <;> first | assumption | (exact fun _ => trivial) | rfl
        · have q := i1 hp
          simp -dsimp (disch := first | omega | (simp only [bys_size, ByteArray.size_append, List.length_cons, List.length_nil] ; omega)) only [xrun, ↓xpre, ↓reduceIte, xval, xops, xlib, boolV, nilV, nilN, oneC, splice, ne_eq, Nat.reduceEqDiff, Nat.reduceAdd, Nat.reduceMul, Nat.reduceLeDiff, Int.reduceToNat, q]
          refine callH_of (ih (n / 10) (by omega) (by omega) m') ?_
          rintro v m'' ⟨rfl, rfl⟩
          simp -dsimp (disch := first | omega | (simp only [bys_size, ByteArray.size_append, List.length_cons, List.length_nil] ; omega)) only [xrun, ↓xpre, ↓reduceIte, xval, xops, xlib, boolV, nilV, nilN, oneC, splice, ne_eq, Nat.reduceEqDiff, Nat.reduceAdd, Nat.reduceMul, Nat.reduceLeDiff, Int.reduceToNat]
          try simp only [u_some, reduceIte, Nat.reduceEqDiff, zero_ne_one', one_ne_zero', true_implies, implies_true, and_true, true_and]
          all_goals and_intros <;> first | assumption | (exact fun _ => trivial) | rfl
        · simp -dsimp (disch := first | omega | (simp only [bys_size, ByteArray.size_append, List.length_cons, List.length_nil] ; omega)) only [xrun, ↓xpre, ↓reduceIte, xval, xops, xlib, boolV, nilV, nilN, oneC, splice, ne_eq, Nat.reduceEqDiff, Nat.reduceAdd, Nat.reduceMul, Nat.reduceLeDiff, Int.reduceToNat, e0]
          try simp only [u_some, reduceIte, Nat.reduceEqDiff, zero_ne_one', one_ne_zero', true_implies, implies_true, and_true, true_and]
          all_goals and_intros <;> first | assumption | (exact fun _ => trivial) | exact e0
        · have q := i3 hp
          simp -dsimp (disch := first | omega | (simp only [bys_size, ByteArray.size_append, List.length_cons, List.length_nil] ; omega)) only [xrun, ↓xpre, ↓reduceIte, xval, xops, xlib, boolV, nilV, nilN, oneC, splice, ne_eq, Nat.reduceEqDiff, Nat.reduceAdd, Nat.reduceMul, Nat.reduceLeDiff, Int.reduceToNat, q]
          try simp only [u_some, reduceIte, Nat.reduceEqDiff, zero_ne_one', one_ne_zero', true_implies, implies_true, and_true, true_and]
          all_goals and_intros <;> first | assumption | (exact fun _ => trivial) | rfl
        · have q := i4 hp
          have hk9 : n % 10 ≤ 9 := by omega
          simp -dsimp (disch := first | omega | (simp only [bys_size, ByteArray.size_append, List.length_cons, List.length_nil] ; omega)) only [xrun, ↓xpre, ↓reduceIte, xval, xops, xlib, boolV, nilV, nilN, oneC, splice, ne_eq, Nat.reduceEqDiff, Nat.reduceAdd, Nat.reduceMul, Nat.reduceLeDiff, Int.reduceToNat, q]
          try simp only [u_some, reduceIte, Nat.reduceEqDiff, zero_ne_one', one_ne_zero', true_implies, implies_true, and_true, true_and]
          all_goals and_intros <;> first | assumption | (exact fun _ => trivial) | (congr 1; done) | (congr 1; omega)
        · have q := i5 hp
          have hk9 : n % 10 ≤ 9 := by omega
          simp -dsimp (disch := first | omega | (simp only [bys_size, ByteArray.size_append, List.length_cons, List.length_nil] ; omega)) only [xrun, ↓xpre, ↓reduceIte, xval, xops, xlib, boolV, nilV, nilN, oneC, splice, ne_eq, Nat.reduceEqDiff, Nat.reduceAdd, Nat.reduceMul, Nat.reduceLeDiff, Int.reduceToNat, q]
          try simp only [u_some, reduceIte, Nat.reduceEqDiff, zero_ne_one', one_ne_zero', true_implies, implies_true, and_true, true_and]
          all_goals and_intros <;> first | assumption | (exact fun _ => trivial) | (congr 1; done) | (congr 1; omega)
        · have q := i6 hp
          obtain rfl := i7 hd
          simp -dsimp (disch := first | omega | (simp only [bys_size, ByteArray.size_append, List.length_cons, List.length_nil] ; omega)) only [xrun, ↓xpre, ↓reduceIte, xval, xops, xlib, boolV, nilV, nilN, oneC, splice, ne_eq, Nat.reduceEqDiff, Nat.reduceAdd, Nat.reduceMul, Nat.reduceLeDiff, Int.reduceToNat, q]
          intro b hB hb
          simp -dsimp (disch := first | omega | (simp only [bys_size, ByteArray.size_append, List.length_cons, List.length_nil] ; omega)) only [xrun, ↓xpre, ↓reduceIte, xval, xops, xlib, boolV, nilV, nilN, oneC, splice, ne_eq, Nat.reduceEqDiff, Nat.reduceAdd, Nat.reduceMul, Nat.reduceLeDiff, Int.reduceToNat, q]
          try simp only [u_some, reduceIte, Nat.reduceEqDiff, zero_ne_one', one_ne_zero', true_implies, implies_true, and_true, true_and]
          all_goals and_intros <;> first | assumption | (exact fun _ => trivial) | (intro h; cases h; done) | exact ⟨b, hB, hb, rfl, rfl⟩
        · obtain ⟨b, hB, hb, q, rfl⟩ := i7' hp
          simp -dsimp (disch := first | omega | (simp only [bys_size, ByteArray.size_append, List.length_cons, List.length_nil] ; omega)) only [xrun, ↓xpre, ↓reduceIte, xval, xops, xlib, boolV, nilV, nilN, oneC, splice, ne_eq, Nat.reduceEqDiff, Nat.reduceAdd, Nat.reduceMul, Nat.reduceLeDiff, Int.reduceToNat, q]
          refine ⟨1, [UInt8.ofNat (48 + n % 10)], ⟨_, _, _, rfl⟩, ⟨rfl, _, row_own hB (Frag.set_same _ _ _), by simp, ?_⟩, ?_⟩
          · have : (UInt8.ofNat (48 + n % 10)).toNat = 48 + n % 10 := by rw [UInt8.toNat_ofNat']; omega
            simp only [List.map_cons, List.map_nil, byteV, this, List.drop_zero, Nat.one_mul, List.take_succ_cons, List.take_zero]
          simp -dsimp (disch := first | omega | (simp only [bys_size, ByteArray.size_append, List.length_cons, List.length_nil] ; omega)) only [xrun, ↓xpre, ↓reduceIte, xval, xops, xlib, boolV, nilV, nilN, oneC, splice, ne_eq, Nat.reduceEqDiff, Nat.reduceAdd, Nat.reduceMul, Nat.reduceLeDiff, Int.reduceToNat]
          try simp only [u_some, reduceIte, Nat.reduceEqDiff, zero_ne_one', one_ne_zero', true_implies, implies_true, and_true, true_and]
          all_goals and_intros <;> first | assumption | (exact fun _ => trivial) | rfl
        · have q2 := i2 hp.1
          have q8 := i8 hp.2
          have hz := dg_size (n := ((n / 10 : Nat) : Int)) (by omega) (by omega)
          have hsz : ByteArray.size ⟨#[UInt8.ofNat (48 + n % 10)]⟩ = 1 := rfl
          simp -dsimp (disch := first | omega | (simp only [bys_size, ByteArray.size_append, List.length_cons, List.length_nil] ; omega)) only [xrun, ↓xpre, ↓reduceIte, xval, xops, xlib, boolV, nilV, nilN, oneC, splice, ne_eq, Nat.reduceEqDiff, Nat.reduceAdd, Nat.reduceMul, Nat.reduceLeDiff, Int.reduceToNat, q2, q8, hsz]
          try simp only [u_some, reduceIte, Nat.reduceEqDiff, zero_ne_one', one_ne_zero', true_implies, implies_true, and_true, true_and]
          all_goals and_intros <;> first | assumption | (exact fun _ => trivial) | (rw [dg_ge hk]; done)
        · have q := i9 hp.1
          simp -dsimp (disch := first | omega | (simp only [bys_size, ByteArray.size_append, List.length_cons, List.length_nil] ; omega)) only [xrun, ↓xpre, ↓reduceIte, xval, xops, xlib, boolV, nilV, nilN, oneC, splice, ne_eq, Nat.reduceEqDiff, Nat.reduceAdd, Nat.reduceMul, Nat.reduceLeDiff, Int.reduceToNat, q]
          try simp only [u_some, reduceIte, Nat.reduceEqDiff, zero_ne_one', one_ne_zero', true_implies, implies_true, and_true, true_and]
          all_goals and_intros <;> first | assumption | (exact fun _ => trivial) | rfl
      · rintro d t m' ⟨e0, i0, i1, i2, i3, i4, i5, i6, i7, i7', i8, i9, i10⟩ hall
        simp only [List.length_cons, List.length_nil] at hall
        obtain ⟨b, hB, hb, q, rfl⟩ := i7' (hall 7 (by omega))
        have q2 := i10 (hall 10 (by omega))
        simp -dsimp (disch := first | omega | (simp only [bys_size, ByteArray.size_append, List.length_cons, List.length_nil] ; omega)) only [xrun, ↓xpre, ↓reduceIte, xval, xops, xlib, boolV, nilV, nilN, oneC, splice, ne_eq, Nat.reduceEqDiff, Nat.reduceAdd, Nat.reduceMul, Nat.reduceLeDiff, Int.reduceToNat, q2]
        exact wkH_ext (Ext.set _ hb) ⟨rfl, rfl⟩

end Go.Proofs.YtemaflbbcihilaaDoor.Fl

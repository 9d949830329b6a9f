/- Slices whose elements are told: what is read of them. No conditions. -/
import Derived.Test.YtemaflbbcihilaaDoorFs
namespace Go.Proofs.YtemaflbbcihilaaDoor.Fl
open Go Go.RowKit
set_option linter.unusedSimpArgs false
set_option linter.unusedVariables false
set_option linter.defProp false

/-! ### Values -/

theorem zero_ne_one' : (0 = 1) = False := by simp
theorem one_ne_zero' : (1 = 0) = False := by simp
theorem v_arg {l : List Value} {i : Nat} : argT l.toArray i = l.getD i undef := by
  unfold argT; simp [Array.getD_eq_getD_getElem?, List.getD_eq_getElem?_getD]
theorem v_get0 {a : Value} {l : List Value} : (a :: l).getD 0 undef = a := rfl
theorem v_getS {a : Value} {l : List Value} {n : Nat} : (a :: l).getD (n + 1) undef = l.getD n undef := rfl
theorem v_ldt {l : List Value} : ldV true l = .agg l.toArray := rfl
theorem v_ldf {v : Value} {l : List Value} : ldV false (v :: l) = v := rfl
theorem v_nat {k : IntKind} {n : Nat} : asNat? (.int k (n : Int)) = some n := by simp [asNat?]
theorem v_nat0 {k : IntKind} : asNat? (.int k 0) = some 0 := rfl
theorem v_nat1 {k : IntKind} : asNat? (.int k 1) = some 1 := rfl
theorem v_int {k : IntKind} {i : Int} : asInt? (.int k i) = some i := rfl
theorem v_kint {k : IntKind} {i : Int} : asKInt? (.int k i) = some (k, i) := rfl
theorem v_str {s : ByteArray} : asStr? (.string s) = some s := rfl
theorem v_bool {b : Bool} : asB? (.bool b) = some b := rfl
theorem v_agg {a : Array Value} : asAgg? (.agg a) = some a := rfl
theorem v_sl {n o l c : Nat} : asSl? (.slice (some ⟨n, o, Option.none⟩) l c) = some (n, o, l, c) := rfl
theorem v_sla {a : Option Addr} {n c : Nat} : asSlA? (.slice a n c) = some (a, n, c) := rfl
theorem v_ptr {n o : Nat} : asPtr (.pointer (some ⟨n, o, Option.none⟩)) = some (n, o) := rfl
theorem v_ptra {a : Addr} : asPtrA? (.pointer (some a)) = some a := rfl
theorem v_tup {a : Array Value} : asTup? (.tuple a) = some a := rfl
def xval := And.intro @v_int <| And.intro @v_kint <| And.intro @v_str <| And.intro @v_bool <| And.intro @v_agg <| And.intro @v_sl <| And.intro @v_sla <| And.intro @v_ptr <| And.intro @v_ptra <| And.intro @v_tup <| And.intro @v_arg <| And.intro @v_get0 <| And.intro @v_getS <| And.intro @v_ldt <| And.intro @v_ldf <| And.intro @v_nat <| And.intro @v_nat0 @v_nat1

theorem cells_int {k : IntKind} {i : Int} : (Value.int k i).cells.toList = [.int k i] := rfl
theorem cells_str {s : ByteArray} : (Value.string s).cells.toList = [.string s] := rfl
theorem cells_bool {b : Bool} : (Value.bool b).cells.toList = [.bool b] := rfl
theorem cells_sl {a : Option Addr} {n c : Nat} : (Value.slice a n c).cells.toList = [.slice a n c] := rfl
theorem cells_ptr {a : Option Addr} : (Value.pointer a).cells.toList = [.pointer a] := rfl
theorem cells_agg {l : List Value} : (Value.agg l.toArray).cells.toList = l := rfl
theorem w64 {x : Int} (h : -9223372036854775808 ≤ x ∧ x ≤ 9223372036854775807) : IntKind.i64.wrap x = x := IntWalk.i64_in x h

theorem set_set {m : Frag} {n : Nat} {a b : Blk} : (m.set n a).set n b = m.set n b := by
  funext q
  by_cases eq : q = n
  · subst eq; rw [Frag.set_same, Frag.set_same]
  · rw [Frag.set_ne _ _ eq, Frag.set_ne _ _ eq, Frag.set_ne _ _ eq]
theorem set_id {m : Frag} {n : Nat} {a : Blk} (h : m n = some a) : m.set n a = m := by
  funext q
  by_cases eq : q = n
  · subst eq; rw [Frag.set_same, h]
  · rw [Frag.set_ne _ _ eq]
theorem row_set {w0 : World} {m : Frag} {n size : Nat} {cs : List Value} {e : TypeId} (h : w0.heap.size ≤ n) : row w0 (m.set n (.cells cs size e)) n = some cs := row_own h (Frag.set_same _ _ _)
theorem row_ne {w0 : World} {m : Frag} {n k : Nat} {b : Blk} (h : k ≠ n) : row w0 (m.set n b) k = row w0 m k := by
  unfold row; rw [Frag.set_ne _ _ h]

theorem int_bne {a b : Int} : (a != b) = decide (a ≠ b) := by by_cases h : a = b <;> simp [h]
theorem int_beq {a b : Int} : (a == b) = decide (a = b) := by by_cases h : a = b <;> simp [h]
theorem bytes_toList (a : ByteArray) : a.toList = a.data.toList := by
  have go : ∀ (n i : Nat) (r : List UInt8), a.size - i = n → i ≤ a.size → ByteArray.toList.loop a i r = r.reverse ++ a.data.toList.drop i := by
    intro n
    induction n with
    | zero =>
      intro i r h h2
      unfold ByteArray.toList.loop
      have : i = a.size := by omega
      rw [if_neg (by omega), List.drop_of_length_le (by rw [Array.length_toList, ByteArray.size_data]; omega), List.append_nil]
    | succ n ih =>
      intro i r h h2
      unfold ByteArray.toList.loop
      have hlt : i < a.size := by omega
      have hlt' : i < a.data.toList.length := by rw [Array.length_toList, ByteArray.size_data]; exact hlt
      rw [if_pos hlt, ih (i + 1) _ (by omega) (by omega), List.drop_eq_getElem_cons hlt']
      have hg : a.get! i = a.data.toList[i] := by
        have h3 : i < a.data.size := by rw [ByteArray.size_data]; exact hlt
        show a.data[i]! = _
        rw [getElem!_pos a.data i h3]; simp
      rw [hg]; simp
  have := go a.size 0 [] (by omega) (by omega)
  simpa [ByteArray.toList] using this
theorem str_beq {a b : ByteArray} : (a.toList == b.toList) = decide (a = b) := by
  rw [bytes_toList, bytes_toList]
  by_cases h : a = b
  · simp [h]
  · have : ¬ a.data = b.data := fun h' => h (ByteArray.ext h')
    simp [h, this]

theorem o_add {k : IntKind} {a b : Int} : binV .add (.int k a) (.int k b) = some (.int k (k.wrap (a + b))) := if_pos rfl
theorem o_sub {k : IntKind} {a b : Int} : binV .sub (.int k a) (.int k b) = some (.int k (k.wrap (a - b))) := if_pos rfl
theorem o_mul {k : IntKind} {a b : Int} : binV .mul (.int k a) (.int k b) = some (.int k (k.wrap (a * b))) := if_pos rfl
theorem o_quo {k : IntKind} {a b : Int} (h : 0 ≤ a ∧ 0 < b) : binV .quo (.int k a) (.int k b) = some (.int k (k.wrap (a / b))) := by
  show (if k = k ∧ b ≠ 0 then _ else _) = _
  rw [if_pos ⟨rfl, by omega⟩, Int.tdiv_eq_ediv_of_nonneg h.1]
theorem o_rem {k : IntKind} {a b : Int} (h : 0 ≤ a ∧ 0 < b) : binV .rem (.int k a) (.int k b) = some (.int k (a % b)) := by
  show (if k = k ∧ b ≠ 0 then _ else _) = _
  rw [if_pos ⟨rfl, by omega⟩, Int.tmod_eq_emod_of_nonneg h.1]
theorem o_eql {k : IntKind} {a b : Int} : binV .eql (.int k a) (.int k b) = some (.bool (decide (a = b))) := by rw [← int_beq]; exact if_pos rfl
theorem o_neq {k : IntKind} {a b : Int} : binV .neq (.int k a) (.int k b) = some (.bool (decide (¬ a = b))) := by
  have : (a != b) = decide (¬ a = b) := int_bne
  rw [← this]; exact if_pos rfl
theorem o_lss {k : IntKind} {a b : Int} : binV .lss (.int k a) (.int k b) = some (.bool (decide (a < b))) := if_pos rfl
theorem o_leq {k : IntKind} {a b : Int} : binV .leq (.int k a) (.int k b) = some (.bool (decide (a ≤ b))) := if_pos rfl
theorem o_gtr {k : IntKind} {a b : Int} : binV .gtr (.int k a) (.int k b) = some (.bool (decide (a > b))) := if_pos rfl
theorem o_geq {k : IntKind} {a b : Int} : binV .geq (.int k a) (.int k b) = some (.bool (decide (a ≥ b))) := if_pos rfl
theorem o_cat {a b : ByteArray} (h : a.size + b.size ≤ 9223372036854775807) : binV .add (.string a) (.string b) = some (.string (a ++ b)) := by
  have hm : IntKind.i64.max = 9223372036854775807 := rfl
  exact if_neg (by rw [hm]; omega)
theorem o_seq {a b : ByteArray} : binV .eql (.string a) (.string b) = some (.bool (decide (a = b))) := by rw [← str_beq]; rfl
theorem o_sne {a b : ByteArray} : binV .neq (.string a) (.string b) = some (.bool (decide (¬ a = b))) := by rw [decide_not, ← str_beq]; rfl
def xops := And.intro @o_add <| And.intro @o_sub <| And.intro @o_mul <| And.intro @o_quo <| And.intro @o_rem <| And.intro @o_eql <| And.intro @o_neq <| And.intro @o_lss <| And.intro @o_leq <| And.intro @o_gtr <| And.intro @o_geq <| And.intro @o_cat <| And.intro @o_seq @o_sne
theorem v_agg_l {l : List Value} : l.toArray.toList = l := rfl
theorem st_agg {neg : Bool} {ks : List CK} {a b : List Value} : structV neg ks (.agg a.toArray) (.agg b.toArray) = (cellsEq ks a b).map fun r => .bool (if neg then !r else r) := rfl
theorem ce_nil : cellsEq [] [] [] = some true := rfl
theorem ce_i {ks : List CK} {l k : List Value} {q : IntKind} {a b : Int} : cellsEq (.i :: ks) (.int q a :: l) (.int q b :: k) = (cellsEq ks l k).map fun y => decide (a = b) && y := by
  show ((if q = q then some (decide (a = b)) else Option.none).bind _) = _
  rw [if_pos rfl]; cases cellsEq ks l k <;> rfl
theorem ce_b {ks : List CK} {l k : List Value} {a b : Bool} : cellsEq (.b :: ks) (.bool a :: l) (.bool b :: k) = (cellsEq ks l k).map fun y => (a == b) && y := by
  show (some (a == b)).bind _ = _
  cases cellsEq ks l k <;> rfl
theorem ce_s {ks : List CK} {l k : List Value} {a b : ByteArray} : cellsEq (.s :: ks) (.string a :: l) (.string b :: k) = (cellsEq ks l k).map fun y => decide (a = b) && y := by
  show (some (decide (a = b))).bind _ = _
  cases cellsEq ks l k <;> rfl
theorem omap_some {α β : Type} {f : α → β} {a : α} : (some a).map f = some (f a) := rfl
theorem w8 {x : Int} (h : 0 ≤ x ∧ x ≤ 255) : IntKind.u8.wrap x = x := IntWalk.u8_in x h
theorem ext_refl {m : Frag} : Ext m m = True := by simp [Ext.refl]
theorem dn {p : Prop} {_ : Decidable p} : (!decide p) = decide (¬ p) := by simp
theorem len_cons {a : Value} {l : List Value} : (a :: l).length = l.length + 1 := rfl
theorem len_nil : ([] : List Value).length = 0 := rfl
theorem take_0 {l : List Value} : l.take 0 = [] := rfl
theorem drop_0 {l : List Value} : l.drop 0 = l := rfl
theorem drop_sc {a : Value} {l : List Value} {n : Nat} : (a :: l).drop (n + 1) = l.drop n := rfl
theorem take_sc {a : Value} {l : List Value} {n : Nat} : (a :: l).take (n + 1) = a :: l.take n := rfl
theorem nil_app {l : List Value} : [] ++ l = l := rfl
theorem app_nil {l : List Value} : l ++ [] = l := List.append_nil l
theorem cons_app {a : Value} {l k : List Value} : (a :: l) ++ k = a :: (l ++ k) := rfl
theorem hd_cons {a d : Value} {l : List Value} : (a :: l).headD d = a := rfl
theorem drop_nil {n : Nat} : ([] : List Value).drop n = [] := List.drop_nil
theorem take_nil {n : Nat} : ([] : List Value).take n = [] := List.take_nil
theorem map_cons {f : Operand → Value} {a : Operand} {l : List Operand} : (a :: l).map f = f a :: l.map f := rfl
theorem map_nil {f : Operand → Value} : ([] : List Operand).map f = [] := rfl
theorem isn_none {α : Type} : (Option.none : Option α).isNone = true := rfl
theorem isn_some {α : Type} {a : α} : (some a).isNone = false := rfl
theorem obind {α β : Type} {a : α} {f : α → Option β} : (some a).bind f = f a := rfl
theorem dtrue {_ : Decidable True} : decide True = true := by simp
theorem dfalse {_ : Decidable False} : decide False = false := by simp
theorem not_tf : (¬ (true = false)) = True := by simp
theorem not_tt : (¬ (true = true)) = False := by simp
theorem not_ff : (¬ (false = false)) = False := by simp
theorem len_map {α β : Type} {f : α → β} {l : List α} : (l.map f).length = l.length := List.length_map f
theorem all_c {p : Value → Bool} {a : Value} {l : List Value} : (a :: l).all p = (p a && l.all p) := rfl
theorem all_n {p : Value → Bool} : ([] : List Value).all p = true := rfl
theorem bys_size {l : List Nat} : (bys l).size = l.length := by
  show (List.toArray _).size = _
  simp

def xlib := And.intro @zero_ne_one' <| And.intro @one_ne_zero' <| And.intro @dn <| And.intro @len_cons <| And.intro @len_nil <| And.intro @take_0 <| And.intro @drop_0 <| And.intro @drop_sc <| And.intro @take_sc <| And.intro @nil_app <| And.intro @app_nil <| And.intro @cons_app <| And.intro @hd_cons <| And.intro @drop_nil <| And.intro @take_nil <| And.intro @map_cons <| And.intro @map_nil <|
  And.intro @Int.toNat_natCast <| And.intro @Nat.zero_add <| And.intro @Nat.add_zero <| And.intro @Nat.mul_one <| And.intro @Nat.zero_mul <| And.intro @Bool.not_true <| And.intro @Bool.not_false <| And.intro @isn_none <| And.intro @isn_some <| And.intro @Bool.false_eq_true <| And.intro @dtrue <| And.intro @dfalse <| And.intro @not_true_eq_false <| And.intro @ext_refl <| And.intro @not_false_eq_true <| And.intro @not_tt <| And.intro @not_ff <| And.intro @cells_int <| And.intro @cells_str <| And.intro @cells_bool <| And.intro @cells_sl <| And.intro @cells_ptr <| And.intro @cells_agg <|
  And.intro @guardH_of <| And.intro @and_true <| And.intro @true_and <| And.intro @and_self <| And.intro @Bool.and_true <| And.intro @Bool.and_self <| And.intro @all_c <| And.intro @all_n <| And.intro @set_set <| And.intro @w64 <| And.intro @w8 <| And.intro @st_agg <| And.intro @ce_nil <| And.intro @ce_i <| And.intro @ce_b <| And.intro @ce_s <| And.intro @omap_some <| And.intro @bys_size <| And.intro @ByteArray.size_append <| And.intro @cellsOf_set <| And.intro @obind <| And.intro @int_bne <| And.intro @int_beq <| And.intro @str_beq <| And.intro @len_map <| And.intro @row_set @row_ne

/-- A slice that may be read: its elements' cells, es of them each. -/
def slT (w0 : World) (m : Frag) (es : Nat) (v : Value) (el : List (List Value)) : Prop := ((∀ c ∈ el, c.length = es) ∧ el.length ≤ 9223372036854775807) ∧ ∃ base cap, v = .slice base el.length cap ∧ (el = [] ∨ match base with
  | some ⟨n, o, Option.none⟩ => ∃ cs, row w0 m n = some cs ∧ o + el.length * es ≤ cs.length ∧ (cs.drop o).take (el.length * es) = el.flatten
  | _ => False)

theorem slT_ext {w0 : World} {m m' : Frag} (hx : Ext m m') {es : Nat} {v : Value} {el : List (List Value)} (h : slT w0 m es v el) : slT w0 m' es v el := by
  obtain ⟨h0, base, cap, hv, hb⟩ := h
  refine ⟨h0, base, cap, hv, ?_⟩
  rcases hb with hb | hb
  · exact Or.inl hb
  refine Or.inr ?_
  split at hb
  · obtain ⟨cs, hr, hl, he⟩ := hb; exact ⟨cs, row_ext hx hr, hl, he⟩
  · exact hb.elim

theorem slT_sl {w0 : World} {m : Frag} {es : Nat} {v : Value} {el : List (List Value)} (h : slT w0 m es v el) : ∃ base cap, v = .slice base el.length cap := ⟨h.2.choose, h.2.choose_spec.choose, h.2.choose_spec.choose_spec.1⟩

theorem slT_le {w0 : World} {m : Frag} {es : Nat} {v : Value} {el : List (List Value)} (h : slT w0 m es v el) : el.length ≤ 9223372036854775807 := h.1.2

theorem flat_len {es : Nat} : ∀ {el : List (List Value)}, (∀ c ∈ el, c.length = es) → el.flatten.length = el.length * es
  | [], _ => by simp
  | c :: el, h => by
    rw [List.flatten_cons, List.length_append, flat_len (fun x hx => h x (List.mem_cons_of_mem _ hx)), h c (List.mem_cons_self ..), List.length_cons, Nat.succ_mul, Nat.add_comm]

theorem flat_at {es : Nat} : ∀ {el : List (List Value)} {i : Nat} (h : ∀ c ∈ el, c.length = es) (hi : i < el.length), el.flatten.drop (i * es) = el[i] ++ el.flatten.drop ((i + 1) * es)
  | c :: el, 0, h, _ => by
    have := h c (List.mem_cons_self ..)
    subst this
    simp [List.flatten_cons]
  | c :: el, i + 1, h, hi => by
    have hc := h c (List.mem_cons_self ..)
    have ih := flat_at (el := el) (i := i) (fun x hx => h x (List.mem_cons_of_mem _ hx)) (by simpa using hi)
    rw [List.flatten_cons, List.getElem_cons_succ, Nat.succ_mul, Nat.succ_mul (i + 1), Nat.add_comm, Nat.add_comm _ es]
    rw [← hc, List.drop_length_add_append, List.drop_length_add_append, hc]
    exact ih

/-- What is read at an element. -/
theorem slT_at {w0 : World} {m : Frag} {es : Nat} {base : Option Addr} {n cap : Nat} {el : List (List Value)} (h : slT w0 m es (.slice base n cap) el) {i : Nat} (hi : i < el.length) :
    ∃ blk o cs, base = some ⟨blk, o, Option.none⟩ ∧ row w0 m blk = some cs ∧ o + el.length * es ≤ cs.length ∧ el[i].length = es ∧ ∀ off k, off + k ≤ es → (cs.drop (o + i * es + off)).take k = (el[i].drop off).take k := by
  obtain ⟨⟨h0, -⟩, base', cap', hv, hb⟩ := h
  cases hv
  rcases hb with hb | hb
  · subst hb; cases hi
  split at hb
  · rename_i blk o
    obtain ⟨cs, hr, hl, he⟩ := hb
    have hle : el[i].length = es := h0 _ (List.getElem_mem hi)
    refine ⟨blk, o, cs, rfl, hr, hl, hle, fun off k hok => ?_⟩
    have h1 : (((cs.drop o).drop (i * es)).take (el.length * es - i * es)) = el.flatten.drop (i * es) := by rw [← he, List.drop_take]
    rw [flat_at h0 hi] at h1
    have hmul : i * es + es ≤ el.length * es := by
      have : (i + 1) * es ≤ el.length * es := Nat.mul_le_mul_right _ hi
      rw [Nat.succ_mul] at this; exact this
    rw [List.drop_drop] at h1
    have h2 := congrArg (fun l => (l.drop off).take k) h1
    simp only [List.drop_take, List.drop_drop, List.take_take] at h2
    rw [Nat.min_eq_left (by omega)] at h2
    rw [h2, List.drop_append_of_le_length (by omega), List.take_append_of_le_length (by rw [List.length_drop]; omega)]
  · exact hb.elim

end Go.Proofs.YtemaflbbcihilaaDoor.Fl

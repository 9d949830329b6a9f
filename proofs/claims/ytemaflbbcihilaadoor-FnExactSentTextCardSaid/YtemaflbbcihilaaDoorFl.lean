/- A program logic over fragments of the heap: what is proved of an abstract run (known own blocks, demonic block numbers, capacities and orders) holds of the machine's run. No conditions. -/
import Derived.Orders
import Derived.Below
namespace Go.Proofs.YtemaflbbcihilaaDoor.Fl
open Go Go.RowKit

/-- A value that fills one cell. -/
def oneC : Value → Bool
  | .agg _ | .tuple _ => false
  | _ => true

/-- What is known of a block of the call's own. -/
inductive Blk where
  | cells (cs : List Value) (size : Nat) (e : TypeId)
  | map (es : Array MapEntry) (clock : Nat)

abbrev Frag := Nat → Option Blk
def Frag.set (m : Frag) (n : Nat) (b : Blk) : Frag := fun k => if k = n then some b else m k
def Frag.del (m : Frag) (n : Nat) : Frag := fun k => if k = n then none else m k
def Frag.none : Frag := fun _ => Option.none
theorem Frag.set_same (m : Frag) (n : Nat) (b : Blk) : (m.set n b) n = some b := if_pos rfl
theorem Frag.set_ne (m : Frag) {n k : Nat} (b : Blk) (h : k ≠ n) : (m.set n b) k = m k := if_neg h
theorem Frag.del_same (m : Frag) (n : Nat) : (m.del n) n = Option.none := if_pos rfl
theorem Frag.del_ne (m : Frag) {n k : Nat} (h : k ≠ n) : (m.del n) k = m k := if_neg h

def Ext (m m' : Frag) : Prop := ∀ n b, m n = some b → m' n = some b
theorem Ext.refl (m : Frag) : Ext m m := fun _ _ h => h
theorem Ext.trans {a b c : Frag} (h : Ext a b) (k : Ext b c) : Ext a c := fun n x hx => k n x (h n x hx)
theorem Ext.set {m : Frag} {n : Nat} (b : Blk) (h : m n = Option.none) : Ext m (m.set n b) := fun k x hx => by
  rw [Frag.set_ne]; exact hx
  intro e; subst e; rw [h] at hx; cases hx
theorem Ext.none (m : Frag) : Ext Frag.none m := fun _ _ h => by cases h

def BlkFits : Blk → Option Obj → Prop
  | .cells cs size e, o => ∃ c fr, o = some (.cells c e fr) ∧ c.size = size ∧ (fr.1 = fr.2 ∨ size ≤ fr.1) ∧ ∀ (i : Nat) (v : Value), cs[i]? = some v → c[i]? = some v
  | .map es clk, o => o = some (.map es clk)

/-- World w holds what the fragment knows; below the first world's blocks nothing has turned. -/
structure Fits (w0 : World) (m : Frag) (w : World) : Prop where
  below : Below w0.heap.size w0 w
  blk : ∀ n b, m n = some b → w0.heap.size ≤ n ∧ BlkFits b w.heap[n]?

theorem BlkFits.lt {b : Blk} {w : World} {n : Nat} (h : BlkFits b w.heap[n]?) : n < w.heap.size := by
  cases b with
  | cells cs size e => obtain ⟨c, fr, ho, _⟩ := h; exact (Array.getElem?_eq_some_iff.1 ho).1
  | map es clk => exact (Array.getElem?_eq_some_iff.1 (show w.heap[n]? = some (.map es clk) from h)).1

theorem Fits.lt {w0 w : World} {m : Frag} (h : Fits w0 m w) {n : Nat} {b : Blk} (hb : m n = some b) : n < w.heap.size := (h.blk n b hb).2.lt

theorem Fits.ext {w0 w : World} {m m' : Frag} (h : Fits w0 m' w) (hx : Ext m m') : Fits w0 m w := ⟨h.below, fun n b hb => h.blk n b (hx n b hb)⟩

theorem Fits.fresh {w0 w : World} {m : Frag} (h : Fits w0 m w) : m w.heap.size = Option.none := by
  cases hb : m w.heap.size with
  | none => rfl
  | some b => have := h.lt hb; omega

/-- What an address reads as: below the first world's blocks as that world had it, else as the fragment knows it. -/
def rd (w0 : World) (m : Frag) (a : Addr) : Option Value :=
  if a.block < w0.heap.size then w0.cell? a
  else if a.spot.isSome then Option.none else match m a.block with
    | some (.cells cs _ _) => cs[a.off]?
    | _ => Option.none

theorem rd_ext {w0 : World} {m m' : Frag} (hx : Ext m m') {a : Addr} {v : Value} (h : rd w0 m a = some v) : rd w0 m' a = some v := by
  unfold rd at *
  split
  · rename_i hl; rw [if_pos hl] at h; exact h
  · rename_i hl; rw [if_neg hl] at h
    split
    · rename_i hs; rw [if_pos hs] at h; cases h
    · rename_i hs; rw [if_neg hs] at h
      cases hm : m a.block with
      | none => rw [hm] at h; cases h
      | some b => rw [hm] at h; rw [hx _ _ hm]; exact h

theorem Fits.rd {w0 w : World} {m : Frag} (hf : Fits w0 m w) {a : Addr} {v : Value} (h : rd w0 m a = some v) : w.cell? a = some v := by
  unfold Fl.rd at h
  split at h
  · rename_i hl; rw [hf.below.cell hl]; exact h
  · split at h
    · cases h
    · rename_i hs
      cases hm : m a.block with
      | none => rw [hm] at h; cases h
      | some b =>
        rw [hm] at h
        cases b with
        | map es clk => cases h
        | cells cs size e =>
          obtain ⟨_, c, fr, ho, _, _, hc⟩ := hf.blk _ _ hm
          simp only [World.cell?, ho]
          rw [if_neg hs]
          exact hc _ _ h

/-- What a store leaves of the cells that are known: a known one is turned, the next one behind them becomes known. -/
def putCell (cs : List Value) (i : Nat) (v : Value) : List Value := if i < cs.length then cs.set i v else if i = cs.length then cs ++ [v] else cs

theorem putCell_get {cs : List Value} {i : Nat} {v : Value} {c : Array Value} (hi : i < c.size) (h : ∀ (j : Nat) (u : Value), cs[j]? = some u → c[j]? = some u) :
    ∀ (j : Nat) (u : Value), (putCell cs i v)[j]? = some u → (c.setIfInBounds i v)[j]? = some u := by
  intro j u hj
  rw [Array.getElem?_setIfInBounds]
  unfold putCell at hj
  split at hj
  · rename_i hlt
    rw [List.getElem?_set] at hj
    split at hj
    · rename_i e; subst e
      rw [if_pos rfl, if_pos hi]
      simpa [hlt] using hj
    · rename_i e; rw [if_neg e]; exact h _ _ hj
  · split at hj
    · rename_i e; subst e
      rw [List.getElem?_append] at hj
      split at hj
      · rename_i hlt; rw [if_neg (by omega)]; exact h _ _ hj
      · rename_i hge
        have h0 : j - cs.length = 0 := by
          rcases Nat.eq_zero_or_pos (j - cs.length) with h0 | h0
          · exact h0
          · rw [List.getElem?_eq_none (by simp; omega)] at hj; cases hj
        have hj' : cs.length = j := by omega
        rw [if_pos hj', if_pos hi]
        rw [h0] at hj; exact hj
    · rename_i hge hne
      have hlt : j < cs.length := (List.getElem?_eq_some_iff.1 hj).1
      rw [if_neg (by omega)]; exact h _ _ hj

/-- The abstract run of a piece of the machine's meaning: block numbers, capacities and other draws are anything; what it comes to must meet R. -/
def SX {α : Type} (P : Program) (w0 : World) : Sem α → Frag → (α → Frag → Prop) → Prop
  | .pure a, m, R => R a m
  | .load _ a k, m, R => ∃ v, rd w0 m a = some v ∧ SX P w0 (k v) m R
  | .store _ a v k, m, R => oneC v = true ∧ a.spot = Option.none ∧ ∃ cs size e, m a.block = some (.cells cs size e) ∧ a.off < size ∧ SX P w0 k (m.set a.block (.cells (putCell cs a.off v) size e)) R
  | .new o k, m, R => match o with
    | .cells c e fr => fr = (0, 0) ∧ ∀ n, w0.heap.size ≤ n → m n = Option.none → SX P w0 (k n) (m.set n (.cells c.toList c.size e)) R
    | .map es clk => ∀ n, w0.heap.size ≤ n → m n = Option.none → SX P w0 (k n) (m.set n (.map es clk)) R
    | _ => False
  | .shape r k, m, R => if r < w0.heap.size then SX P w0 (k (w0.shape? r)) m R else match m r with
    | some (.cells _ size e) => SX P w0 (k (some (e, size))) m R
    | _ => False
  | .freeze a _ k, m, R => match m a.block with
    | some (.cells _ size _) => size ≤ a.off ∧ SX P w0 k m R
    | _ => False
  | .frozen a k, m, R => if a.block < w0.heap.size then SX P w0 (k (w0.frozen? a)) m R else match m a.block with
    | some (.cells _ size _) => a.off < size ∧ SX P w0 (k false) m R
    | _ => False
  | .getObj r k, m, R => match m r with
    | some (.map es clk) => SX P w0 (k (.map es clk)) m R
    | _ => False
  | .setObj r o k, m, R => match m r, o with
    | some (.map _ _), .map es clk => SX P w0 k (m.set r (.map es clk)) R
    | _, _ => False
  | .choose q k, m, R => if q.forced then SX P w0 (k 0) m R else ∀ t, SX P w0 (k (q.cut t)) m R
  | .program k, m, R => SX P w0 (k P) m R
  | .mark _ k, m, R => SX P w0 k m R
  | .sys _ _, _, _ => False
  | .halt _, _, _ => False

theorem Fits.set_new {w0 w : World} {m : Frag} (h : Fits w0 m w) {o : Obj} {b : Blk} (hb : BlkFits b (some o)) :
    Fits w0 (m.set w.heap.size b) { w with heap := w.heap.push o } := by
  refine ⟨h.below.trans ⟨rfl, rfl, rfl, by simp, fun k hk => ?_⟩, fun n b' hn => ?_⟩
  · have := h.below.size
    show (w.heap.push o)[k]? = _
    rw [Array.getElem?_push, if_neg (by omega)]
  · show _ ∧ BlkFits b' (w.heap.push o)[n]?
    by_cases e : n = w.heap.size
    · subst e
      rw [Frag.set_same] at hn
      cases hn
      refine ⟨h.below.size, ?_⟩
      rw [Array.getElem?_push, if_pos rfl]; exact hb
    · rw [Frag.set_ne _ _ e] at hn
      obtain ⟨h1, h2⟩ := h.blk _ _ hn
      refine ⟨h1, ?_⟩
      rw [Array.getElem?_push, if_neg e]; exact h2

theorem Fits.set_old {w0 w w' : World} {m : Frag} (h : Fits w0 m w) {n : Nat} {b b' : Blk} (hm : m n = some b)
    (hos : w'.os = w.os) (ht : w'.tape = w.tape) (ho : w'.output = w.output) (hs : w'.heap.size = w.heap.size)
    (hk : ∀ k, k ≠ n → w'.heap[k]? = w.heap[k]?) (hb : BlkFits b' w'.heap[n]?) : Fits w0 (m.set n b') w' := by
  obtain ⟨hB, _⟩ := h.blk _ _ hm
  refine ⟨h.below.trans ⟨hos, ht, ho, by omega, fun k hk' => hk k (by omega)⟩, fun k c hc => ?_⟩
  by_cases e : k = n
  · subst e; rw [Frag.set_same] at hc; cases hc; exact ⟨hB, hb⟩
  · rw [Frag.set_ne _ _ e] at hc
    obtain ⟨h1, h2⟩ := h.blk _ _ hc
    exact ⟨h1, by rw [hk k e]; exact h2⟩

theorem Fits.drew {w0 w : World} {m : Frag} (h : Fits w0 m w) (n : Nat) : Fits w0 m { w with drawn := n } :=
  ⟨⟨h.below.os, h.below.tape, h.below.output, h.below.size, h.below.block⟩, h.blk⟩

/-- What isn't known of the blocks that are there stays as it is, and unknown. -/
def Keeps (m : Frag) (w : World) (m' : Frag) (w' : World) : Prop := w.heap.size ≤ w'.heap.size ∧ ∀ k, k < w.heap.size → m k = Option.none → w'.heap[k]? = w.heap[k]? ∧ m' k = Option.none
theorem Keeps.refl (m : Frag) (w : World) : Keeps m w m w := ⟨Nat.le_refl _, fun _ _ h => ⟨rfl, h⟩⟩
theorem Keeps.trans {a b c : Frag} {u v w : World} (h : Keeps a u b v) (k : Keeps b v c w) : Keeps a u c w :=
  ⟨Nat.le_trans h.1 k.1, fun i hi ha => by
    obtain ⟨h1, h2⟩ := h.2 i hi ha
    obtain ⟨h3, h4⟩ := k.2 i (Nat.lt_of_lt_of_le hi h.1) h2
    exact ⟨h3.trans h1, h4⟩⟩
theorem Keeps.weak {m m' m'' : Frag} {w w' : World} (h : Keeps m w m' w') (hx : Ext m'' m') : Keeps m w m'' w' :=
  ⟨h.1, fun k hk hm => ⟨(h.2 k hk hm).1, by
    cases hc : m'' k with
    | none => rfl
    | some b => have := hx _ _ hc; rw [(h.2 k hk hm).2] at this; cases this⟩⟩
theorem Keeps.same {m : Frag} {w w' : World} (h : w'.heap = w.heap) : Keeps m w m w' := ⟨by rw [h]; exact Nat.le_refl _, fun k _ hm => ⟨by rw [h], hm⟩⟩
theorem Keeps.set_old {m : Frag} {w w' : World} {n : Nat} {b b' : Blk} (hm : m n = some b) (hs : w'.heap.size = w.heap.size) (hk : ∀ k, k ≠ n → w'.heap[k]? = w.heap[k]?) : Keeps m w (m.set n b') w' :=
  ⟨by omega, fun k _ hn => by
    have : k ≠ n := fun e => by subst e; rw [hm] at hn; cases hn
    exact ⟨hk k this, by rw [Frag.set_ne _ _ this]; exact hn⟩⟩
theorem Keeps.set_new {m : Frag} {w : World} {o : Obj} {b : Blk} : Keeps m w (m.set w.heap.size b) { w with heap := w.heap.push o } :=
  ⟨by simp, fun k hk hn => by
    have : k ≠ w.heap.size := by omega
    refine ⟨?_, by rw [Frag.set_ne _ _ this]; exact hn⟩
    show (w.heap.push o)[k]? = _
    rw [Array.getElem?_push, if_neg this]⟩

theorem SX_sound {α : Type} {P : Program} {w0 : World} (s : Sem α) : ∀ {m : Frag} {R : α → Frag → Prop} {w : World}, SX P w0 s m R → Fits w0 m w →
    ∃ v w' m', s.run P w = .ok v w' ∧ R v m' ∧ Fits w0 m' w' ∧ Keeps m w m' w' := by
  have go : ∀ {β : Type} {k : Sem β} {m m1 : Frag} {w w1 : World} {R : β → Frag → Prop}, Keeps m w m1 w1 → (∃ v w' m', k.run P w1 = .ok v w' ∧ R v m' ∧ Fits w0 m' w' ∧ Keeps m1 w1 m' w') → ∃ v w' m', k.run P w1 = .ok v w' ∧ R v m' ∧ Fits w0 m' w' ∧ Keeps m w m' w' :=
    fun hk ⟨v, w', m', h1, h2, h3, h4⟩ => ⟨v, w', m', h1, h2, h3, hk.trans h4⟩
  induction s with
  | pure a => intro m R w h hf; exact ⟨a, w, m, rfl, h, hf, Keeps.refl _ _⟩
  | load md a k ih =>
    intro m R w h hf
    obtain ⟨v, hv, h⟩ := h
    simp only [Sem.run, hf.rd hv]
    exact ih v h hf
  | store md a v k ih =>
    intro m R w h hf
    obtain ⟨h1, hsp, cs, size, e, hm, hlt, h⟩ := h
    obtain ⟨hB, c, fr, hob, hsz, hfr, hc⟩ := hf.blk _ _ hm
    have hcell : ∃ u, w.cell? a = some u := by
      refine ⟨c[a.off]'(by omega), ?_⟩
      simp [World.cell?, hob, hsp, Array.getElem?_eq_getElem (show a.off < c.size by omega)]
    obtain ⟨u, hu⟩ := hcell
    have hfz : w.frozen? a = false := by
      simp only [World.frozen?, hob]
      rcases hfr with e1 | e1
      · simp; omega
      · simp; omega
    have hrun : (Sem.store md a v k).run P w = k.run P (w.setCell a v) := by
      cases v <;> simp_all [Sem.run, oneC]
    rw [hrun]
    refine go (Keeps.set_old hm (w' := w.setCell a v) (by simp [World.setCell]) (fun k hk => Below.heap_setCell _ _ _ _ hk)) <| ih h (hf.set_old hm (w' := w.setCell a v) rfl rfl rfl (by simp [World.setCell]) (fun k hk => Below.heap_setCell _ _ _ _ hk) ?_)
    refine ⟨c.setIfInBounds a.off v, fr, ?_, by simp [hsz], hfr, putCell_get (by omega) hc⟩
    simp [World.setCell, Array.getElem?_modify, hob, hsp]
  | new o k ih =>
    intro m R w h hf
    cases o with
    | cells c e fr =>
      obtain ⟨rfl, h⟩ := h
      simp only [Sem.run]
      exact go Keeps.set_new <| ih _ (h w.heap.size hf.below.size hf.fresh) (hf.set_new ⟨c, (0, 0), rfl, rfl, .inl rfl, fun i v hv => by simpa using hv⟩)
    | map es clk =>
      simp only [Sem.run]
      exact go Keeps.set_new <| ih _ (h w.heap.size hf.below.size hf.fresh) (hf.set_new (show BlkFits (.map es clk) (some (.map es clk)) from rfl))
    | _ => exact h.elim
  | shape r k ih =>
    intro m R w h hf
    unfold SX at h
    split at h
    · rename_i hr
      simp only [Sem.run]
      have hsh : w.shape? r = w0.shape? r := by simp only [World.shape?, hf.below.block r hr]
      rw [hsh]; exact ih _ h hf
    · split at h
      · rename_i cs size e hm
        obtain ⟨_, c, fr, hob, hsz, _, _⟩ := hf.blk _ _ hm
        simp only [Sem.run, World.shape?, hob]
        rw [hsz]; exact ih _ h hf
      · exact h.elim
  | freeze a n k ih =>
    intro m R w h hf
    unfold SX at h
    split at h
    · rename_i cs size e hm
      obtain ⟨hle, h⟩ := h
      obtain ⟨hB, c, fr, hob, hsz, hfr, hc⟩ := hf.blk _ _ hm
      simp only [Sem.run]
      have hkp : Keeps m w m (w.freeze a n) := by
        unfold World.freeze
        split
        · exact Keeps.refl _ _
        · refine ⟨by simp, fun k hk hn => ⟨?_, hn⟩⟩
          have : k ≠ a.block := fun e => by subst e; rw [hm] at hn; cases hn
          simp [Array.getElem?_modify, Ne.symm this]
      refine go hkp <| ih h ?_
      unfold World.freeze
      split
      · exact hf
      · have := hf.set_old hm (b' := .cells cs size e) (w' := { w with heap := w.heap.modify a.block fun
            | .cells c elem (lo, hi) => .cells c elem (if lo == hi then (a.off, a.off + n) else (min lo a.off, max hi (a.off + n)))
            | o => o }) rfl rfl rfl (by simp) (fun k hk => by simp [Array.getElem?_modify, Ne.symm hk]) (by
              obtain ⟨lo, hi⟩ := fr
              refine ⟨c, if lo == hi then (a.off, a.off + n) else (min lo a.off, max hi (a.off + n)), by simp [Array.getElem?_modify, hob], hsz, ?_, hc⟩
              right
              by_cases e1 : lo = hi
              · simp [e1]; exact hle
              · have : size ≤ lo := by rcases hfr with e2 | e2; exact absurd e2 e1; exact e2
                simp [e1]; omega)
        have he : m.set a.block (.cells cs size e) = m := by
          funext k
          by_cases ek : k = a.block
          · subst ek; rw [Frag.set_same, hm]
          · rw [Frag.set_ne _ _ ek]
        rw [he] at this; exact this
    · exact h.elim
  | frozen a k ih =>
    intro m R w h hf
    unfold SX at h
    split at h
    · rename_i hr
      simp only [Sem.run, hf.below.frozen hr]
      exact ih _ h hf
    · split at h
      · rename_i cs size e hm
        obtain ⟨hlt, h⟩ := h
        obtain ⟨_, c, fr, hob, hsz, hfr, _⟩ := hf.blk _ _ hm
        have hfz : w.frozen? a = false := by
          simp only [World.frozen?, hob]
          rcases hfr with e1 | e1
          · simp; omega
          · simp; omega
        simp only [Sem.run, hfz]
        exact ih _ h hf
      · exact h.elim
  | getObj r k ih =>
    intro m R w h hf
    unfold SX at h
    split at h
    · rename_i es clk hm
      have hob : w.heap[r]? = some (.map es clk) := (hf.blk _ _ hm).2
      simp only [Sem.run]
      rw [hob]
      exact ih _ h hf
    · exact h.elim
  | setObj r o k ih =>
    intro m R w h hf
    unfold SX at h
    split at h
    · rename_i es0 clk0 es clk hm
      have hob : w.heap[r]? = some (.map es0 clk0) := (hf.blk _ _ hm).2
      simp only [Sem.run]
      rw [hob]
      refine go (Keeps.set_old hm (w' := { w with heap := w.heap.setIfInBounds r (.map es clk) }) (by simp) (fun k hk => by
        show (w.heap.setIfInBounds r _)[k]? = _
        rw [Array.getElem?_setIfInBounds, if_neg (Ne.symm hk)])) <| ih h (hf.set_old hm (w' := { w with heap := w.heap.setIfInBounds r (.map es clk) }) rfl rfl rfl (by simp) (fun k hk => by
        show (w.heap.setIfInBounds r _)[k]? = _
        rw [Array.getElem?_setIfInBounds, if_neg (Ne.symm hk)]) ?_)
      show (w.heap.setIfInBounds r _)[r]? = _
      rw [Array.getElem?_setIfInBounds, if_pos rfl, if_pos (hf.lt hm)]
    · exact h.elim
  | choose q k ih =>
    intro m R w h hf
    unfold SX at h
    simp only [Sem.run]
    split at h
    · rename_i hq; rw [if_pos hq]; exact ih _ h hf
    · rename_i hq; rw [if_neg hq]; exact go (Keeps.same rfl) <| ih _ (h _) (hf.drew _)
  | sys c k ih => intro m R w h _; exact h.elim
  | program k ih => intro m R w h hf; simp only [Sem.run]; exact ih P h hf
  | mark md k ih => intro m R w h hf; simp only [Sem.run]; exact ih h hf
  | halt x => intro m R w h _; exact h.elim

theorem SX_mono {α : Type} {P : Program} {w0 : World} (s : Sem α) : ∀ {m : Frag} {R R' : α → Frag → Prop}, SX P w0 s m R → (∀ v m', R v m' → R' v m') → SX P w0 s m R' := by
  induction s with
  | pure a => intro m R R' h hr; exact hr _ _ h
  | load md a k ih => intro m R R' h hr; obtain ⟨v, hv, h⟩ := h; exact ⟨v, hv, ih v h hr⟩
  | store md a v k ih => intro m R R' h hr; obtain ⟨h1, h2, cs, size, e, hm, hlt, h⟩ := h; exact ⟨h1, h2, cs, size, e, hm, hlt, ih h hr⟩
  | new o k ih =>
    intro m R R' h hr
    cases o with
    | cells c e fr => exact ⟨h.1, fun n hn hm => ih n (h.2 n hn hm) hr⟩
    | map es clk => exact fun n hn hm => ih n (h n hn hm) hr
    | _ => exact h.elim
  | shape r k ih =>
    intro m R R' h hr
    unfold SX at h ⊢
    split
    · rename_i hl; rw [if_pos hl] at h; exact ih _ h hr
    · rename_i hl; rw [if_neg hl] at h
      split at h
      · exact ih _ h hr
      · exact h.elim
  | freeze a n k ih =>
    intro m R R' h hr
    unfold SX at h ⊢
    split at h
    · exact ⟨h.1, ih h.2 hr⟩
    · exact h.elim
  | frozen a k ih =>
    intro m R R' h hr
    unfold SX at h ⊢
    split
    · rename_i hl; rw [if_pos hl] at h; exact ih _ h hr
    · rename_i hl; rw [if_neg hl] at h
      split at h
      · exact ⟨h.1, ih _ h.2 hr⟩
      · exact h.elim
  | getObj r k ih =>
    intro m R R' h hr
    unfold SX at h ⊢
    split at h
    · exact ih _ h hr
    · exact h.elim
  | setObj r o k ih =>
    intro m R R' h hr
    unfold SX at h ⊢
    split at h
    · exact ih h hr
    · exact h.elim
  | choose q k ih =>
    intro m R R' h hr
    unfold SX at h ⊢
    split
    · rename_i hl; rw [if_pos hl] at h; exact ih _ h hr
    · rename_i hl; rw [if_neg hl] at h; exact fun t => ih _ (h t) hr
  | sys c k ih => intro m R R' h _; exact h.elim
  | program k ih => intro m R R' h hr; exact ih P h hr
  | mark md k ih => intro m R R' h hr; exact ih h hr
  | halt x => intro m R R' h _; exact h.elim

/-- What a piece of the machine's meaning gives that reads alone. -/
def SQ {α : Type} (P : Program) (w0 : World) (m : Frag) : Sem α → Option α
  | .pure a => some a
  | .load _ a k => (rd w0 m a).bind fun v => SQ P w0 m (k v)
  | .program k => SQ P w0 m (k P)
  | .mark _ k => SQ P w0 m k
  | .getObj r k => match m r with
    | some (.map es clk) => SQ P w0 m (k (.map es clk))
    | _ => Option.none
  | .choose q k => if q.forced then SQ P w0 m (k 0) else Option.none
  | _ => Option.none

theorem SX_bind {α β : Type} {P : Program} {w0 : World} {f : α → Sem β} {R : β → Frag → Prop} (s : Sem α) : ∀ {m : Frag}, SX P w0 (Sem.bind s f) m R ↔ SX P w0 s m fun a m' => SX P w0 (f a) m' R := by
  induction s with
  | pure a => intro m; exact Iff.rfl
  | load md a k ih => intro m; exact exists_congr fun v => and_congr Iff.rfl (ih v)
  | store md a v k ih => intro m; exact and_congr Iff.rfl (and_congr Iff.rfl (exists_congr fun cs => exists_congr fun size => exists_congr fun e => and_congr Iff.rfl (and_congr Iff.rfl ih)))
  | new o k ih =>
    intro m
    cases o with
    | cells c e fr => exact and_congr Iff.rfl (forall_congr' fun n => forall_congr' fun _ => forall_congr' fun _ => ih n)
    | map es clk => exact forall_congr' fun n => forall_congr' fun _ => forall_congr' fun _ => ih n
    | _ => exact Iff.rfl
  | shape r k ih =>
    intro m
    simp only [Sem.bind]
    unfold SX
    split
    · exact ih _
    · split
      · exact ih _
      · exact Iff.rfl
  | freeze a j k ih =>
    intro m
    simp only [Sem.bind]
    unfold SX
    split
    · exact and_congr Iff.rfl ih
    · exact Iff.rfl
  | frozen a k ih =>
    intro m
    simp only [Sem.bind]
    unfold SX
    split
    · exact ih _
    · split
      · exact and_congr Iff.rfl (ih _)
      · exact Iff.rfl
  | getObj r k ih =>
    intro m
    simp only [Sem.bind]
    unfold SX
    split
    · exact ih _
    · exact Iff.rfl
  | setObj r o k ih =>
    intro m
    simp only [Sem.bind]
    unfold SX
    split
    · exact ih
    · exact Iff.rfl
  | choose q k ih =>
    intro m
    simp only [Sem.bind]
    unfold SX
    split
    · exact ih _
    · exact forall_congr' fun t => ih _
  | sys c k ih => intro m; exact Iff.rfl
  | program k ih => intro m; exact ih P
  | mark md k ih => intro m; exact ih
  | halt x => intro m; exact Iff.rfl

theorem SQ_bind {α β : Type} {P : Program} {w0 : World} {m : Frag} {f : α → Sem β} (s : Sem α) : SQ P w0 m (Sem.bind s f) = (SQ P w0 m s).bind fun a => SQ P w0 m (f a) := by
  induction s with
  | pure a => rfl
  | load md a k ih =>
    simp only [Sem.bind, SQ]
    cases rd w0 m a with
    | none => rfl
    | some v => exact ih v
  | program k ih => exact ih P
  | mark md k ih => exact ih
  | getObj r k ih =>
    simp only [Sem.bind, SQ]
    split
    · exact ih _
    · rfl
  | choose q k ih =>
    simp only [Sem.bind, SQ]
    split
    · exact ih _
    · rfl
  | _ => rfl

theorem Frag.set_comm (m : Frag) {a b : Nat} (x y : Blk) (h : a ≠ b) : (m.set a x).set b y = (m.set b y).set a x := by
  funext k
  simp only [Frag.set]
  by_cases h1 : k = b
  · subst h1; simp [Ne.symm h]
  · simp [h1]

theorem Frag.set_ext {m m' : Frag} (h : Ext m m') (n : Nat) (b : Blk) : Ext (m.set n b) (m'.set n b) := fun k x hx => by
  by_cases e : k = n
  · subst e; rw [Frag.set_same] at hx ⊢; exact hx
  · rw [Frag.set_ne _ _ e] at hx ⊢; exact h _ _ hx

/-- A block more that nobody asks for. -/
def Framed {α : Type} (n : Nat) (b : Blk) (R : α → Frag → Prop) : α → Frag → Prop := fun v M => ∃ m', M = m'.set n b ∧ m' n = Option.none ∧ R v m'

theorem SX_frame {α : Type} {P : Program} {w0 : World} {n : Nat} {b : Blk} (hB : w0.heap.size ≤ n) (s : Sem α) : ∀ {m : Frag} {R : α → Frag → Prop}, SX P w0 s m R → m n = Option.none → SX P w0 s (m.set n b) (Framed n b R) := by
  have ne : ∀ {m : Frag} {k : Nat} {x : Blk}, m n = Option.none → m k = some x → k ≠ n := fun h1 h2 e => by subst e; rw [h1] at h2; cases h2
  induction s with
  | pure a => intro m R h hn; exact ⟨m, rfl, hn, h⟩
  | load md a k ih => intro m R h hn; obtain ⟨v, hv, h⟩ := h; exact ⟨v, rd_ext (Ext.set b hn) hv, ih v h hn⟩
  | store md a v k ih =>
    intro m R h hn
    obtain ⟨h1, h2, cs, size, e, hm, hlt, h⟩ := h
    have hne := ne hn hm
    refine ⟨h1, h2, cs, size, e, by rw [Frag.set_ne _ _ hne]; exact hm, hlt, ?_⟩
    rw [Frag.set_comm _ _ _ (Ne.symm hne)]
    exact ih h (by rw [Frag.set_ne _ _ (Ne.symm hne)]; exact hn)
  | new o k ih =>
    intro m R h hn
    have sub : ∀ {j : Nat}, (m.set n b) j = Option.none → m j = Option.none ∧ j ≠ n := fun {j} hj => by
      by_cases e : j = n
      · subst e; rw [Frag.set_same] at hj; cases hj
      · rw [Frag.set_ne _ _ e] at hj; exact ⟨hj, e⟩
    cases o with
    | cells c e fr =>
      refine ⟨h.1, fun j hj hm => ?_⟩
      obtain ⟨h1, h2⟩ := sub hm
      rw [Frag.set_comm _ _ _ (Ne.symm h2)]
      exact ih j (h.2 j hj h1) (by rw [Frag.set_ne _ _ (Ne.symm h2)]; exact hn)
    | map es clk =>
      intro j hj hm
      obtain ⟨h1, h2⟩ := sub hm
      rw [Frag.set_comm _ _ _ (Ne.symm h2)]
      exact ih j (h j hj h1) (by rw [Frag.set_ne _ _ (Ne.symm h2)]; exact hn)
    | _ => exact h.elim
  | shape r k ih =>
    intro m R h hn
    unfold SX at h ⊢
    split
    · rename_i hl; rw [if_pos hl] at h; exact ih _ h hn
    · rename_i hl; rw [if_neg hl] at h
      split at h
      · rename_i cs size e hm
        rw [Frag.set_ne _ _ (ne hn hm), hm]; exact ih _ h hn
      · exact h.elim
  | freeze a j k ih =>
    intro m R h hn
    unfold SX at h ⊢
    split at h
    · rename_i cs size e hm
      rw [Frag.set_ne _ _ (ne hn hm), hm]; exact ⟨h.1, ih h.2 hn⟩
    · exact h.elim
  | frozen a k ih =>
    intro m R h hn
    unfold SX at h ⊢
    split
    · rename_i hl; rw [if_pos hl] at h; exact ih _ h hn
    · rename_i hl; rw [if_neg hl] at h
      split at h
      · rename_i cs size e hm
        rw [Frag.set_ne _ _ (ne hn hm), hm]; exact ⟨h.1, ih _ h.2 hn⟩
      · exact h.elim
  | getObj r k ih =>
    intro m R h hn
    unfold SX at h ⊢
    split at h
    · rename_i es clk hm
      rw [Frag.set_ne _ _ (ne hn hm), hm]; exact ih _ h hn
    · exact h.elim
  | setObj r o k ih =>
    intro m R h hn
    unfold SX at h ⊢
    split at h
    · rename_i es0 clk0 es clk hm
      have hne := ne hn hm
      rw [Frag.set_ne _ _ hne, hm]
      simp only
      rw [Frag.set_comm _ _ _ (Ne.symm hne)]
      exact ih h (by rw [Frag.set_ne _ _ (Ne.symm hne)]; exact hn)
    · exact h.elim
  | choose q k ih =>
    intro m R h hn
    unfold SX at h ⊢
    split
    · rename_i hl; rw [if_pos hl] at h; exact ih _ h hn
    · rename_i hl; rw [if_neg hl] at h; exact fun t => ih _ (h t) hn
  | sys c k ih => intro m R h _; exact h.elim
  | program k ih => intro m R h hn; exact ih P h hn
  | mark md k ih => intro m R h hn; exact ih h hn
  | halt x => intro m R h _; exact h.elim

theorem SQ_sound {α : Type} {P : Program} {w0 : World} {m : Frag} (s : Sem α) {v : α} {w : World} : SQ P w0 m s = some v → Fits w0 m w → s.run P w = .ok v w := by
  induction s with
  | pure a => intro h _; simp only [SQ, Option.some.injEq] at h; subst h; rfl
  | load md a k ih =>
    intro h hf
    simp only [SQ, Option.bind_eq_some_iff] at h
    obtain ⟨u, hu, h⟩ := h
    simp only [Sem.run, hf.rd hu]
    exact ih u h hf
  | program k ih => intro h hf; simp only [SQ] at h; simp only [Sem.run]; exact ih P h hf
  | mark md k ih => intro h hf; simp only [SQ] at h; simp only [Sem.run]; exact ih h hf
  | getObj r k ih =>
    intro h hf
    simp only [SQ] at h
    split at h
    · rename_i es clk hm
      have hob : w.heap[r]? = some (.map es clk) := (hf.blk _ _ hm).2
      simp only [Sem.run]
      rw [hob]
      exact ih _ h hf
    · cases h
  | choose q k ih =>
    intro h hf
    simp only [SQ] at h
    simp only [Sem.run]
    split at h
    · rename_i hq; rw [if_pos hq]; exact ih _ h hf
    · cases h
  | _ => intro h _; simp [SQ] at h

theorem SQ_ext {α : Type} {P : Program} {w0 : World} {m m' : Frag} (hx : Ext m m') (s : Sem α) {v : α} : SQ P w0 m s = some v → SQ P w0 m' s = some v := by
  induction s with
  | load md a k ih =>
    intro h
    simp only [SQ, Option.bind_eq_some_iff] at h ⊢
    obtain ⟨u, hu, h⟩ := h
    exact ⟨u, rd_ext hx hu, ih u h⟩
  | program k ih => intro h; simp only [SQ] at h ⊢; exact ih P h
  | mark md k ih => intro h; simp only [SQ] at h ⊢; exact ih h
  | getObj r k ih =>
    intro h
    simp only [SQ] at h ⊢
    split at h
    · rename_i es clk hm; rw [hx _ _ hm]; exact ih _ h
    · cases h
  | choose q k ih =>
    intro h
    simp only [SQ] at h ⊢
    split at h
    · rename_i hq; rw [if_pos hq]; exact ih _ h
    · cases h
  | pure a => intro h; exact h
  | _ => intro h; simp [SQ] at h

/-- What was read. -/
def SR {α : Type} (P : Program) (w0 : World) (m : Frag) : Sem α → Frag → Prop
  | .load _ a k, m' => match rd w0 m a with
    | some v => rd w0 m' a = some v ∧ SR P w0 m (k v) m'
    | Option.none => True
  | .program k, m' => SR P w0 m (k P) m'
  | .mark _ k, m' => SR P w0 m k m'
  | .getObj r k, m' => match m r with
    | some (.map es clk) => m' r = some (.map es clk) ∧ SR P w0 m (k (.map es clk)) m'
    | _ => True
  | .choose q k, m' => if q.forced then SR P w0 m (k 0) m' else True
  | _, _ => True

/-- Where what was read is the same, so is what comes of it. -/
theorem SQ_same {α : Type} {P : Program} {w0 : World} {m m' : Frag} (s : Sem α) {v : α} : SQ P w0 m s = some v → SR P w0 m s m' → SQ P w0 m' s = some v := by
  induction s with
  | load md a k ih =>
    intro h hr
    simp only [SQ, Option.bind_eq_some_iff] at h ⊢
    obtain ⟨u, hu, h⟩ := h
    simp only [SR, hu] at hr
    exact ⟨u, hr.1, ih u h hr.2⟩
  | program k ih => intro h hr; simp only [SQ] at h ⊢; exact ih P h hr
  | mark md k ih => intro h hr; simp only [SQ] at h ⊢; exact ih h hr
  | getObj r k ih =>
    intro h hr
    simp only [SQ] at h ⊢
    split at h
    · rename_i es clk hm
      simp only [SR, hm] at hr
      rw [hr.1]; exact ih _ h hr.2
    · cases h
  | choose q k ih =>
    intro h hr
    simp only [SQ] at h ⊢
    simp only [SR] at hr
    split at h
    · rename_i hq; rw [if_pos hq] at hr; rw [if_pos hq]; exact ih _ h hr
    · cases h
  | pure a => intro h _; exact h
  | _ => intro h; simp [SQ] at h

theorem SR_mono {α : Type} {P : Program} {w0 : World} {m a b : Frag} (hx : Ext a b) (s : Sem α) : SR P w0 m s a → SR P w0 m s b := by
  induction s with
  | load md ad k ih =>
    intro h
    simp only [SR] at h ⊢
    split
    · rename_i v hv; rw [hv] at h; exact ⟨rd_ext hx h.1, ih v h.2⟩
    · trivial
  | program k ih => intro h; exact ih P h
  | mark md k ih => intro h; exact ih h
  | getObj r k ih =>
    intro h
    simp only [SR] at h ⊢
    split
    · rename_i es clk hm; rw [hm] at h; exact ⟨hx _ _ h.1, ih _ h.2⟩
    · trivial
  | choose q k ih =>
    intro h
    simp only [SR] at h ⊢
    split
    · rename_i hq; rw [if_pos hq] at h; exact ih _ h
    · trivial
  | _ => intro _; trivial

theorem SR_self {α : Type} {P : Program} {w0 : World} {m : Frag} (s : Sem α) : SR P w0 m s m := by
  induction s with
  | load md ad k ih =>
    simp only [SR]
    split
    · rename_i v hv; exact ⟨hv, ih v⟩
    · trivial
  | program k ih => exact ih P
  | mark md k ih => exact ih
  | getObj r k ih =>
    simp only [SR]
    split
    · rename_i es clk hm; exact ⟨hm, ih _⟩
    · trivial
  | choose q k ih =>
    simp only [SR]
    split
    · exact ih _
    · trivial
  | _ => trivial

theorem SX_of_SQ {α : Type} {P : Program} {w0 : World} {m : Frag} (s : Sem α) {v : α} {R : α → Frag → Prop} : SQ P w0 m s = some v → R v m → SX P w0 s m R := by
  induction s with
  | pure a => intro h hr; simp only [SQ, Option.some.injEq] at h; subst h; exact hr
  | load md a k ih =>
    intro h hr
    simp only [SQ, Option.bind_eq_some_iff] at h
    obtain ⟨u, hu, h⟩ := h
    exact ⟨u, hu, ih u h hr⟩
  | program k ih => intro h hr; simp only [SQ] at h; exact ih P h hr
  | mark md k ih => intro h hr; simp only [SQ] at h; exact ih h hr
  | getObj r k ih =>
    intro h hr
    simp only [SQ] at h
    unfold SX
    split at h
    · exact ih _ h hr
    · cases h
  | choose q k ih =>
    intro h hr
    simp only [SQ] at h
    unfold SX
    split at h
    · rename_i hq; rw [if_pos hq]; exact ih _ h hr
    · cases h
  | _ => intro h _; simp [SQ] at h

end Go.Proofs.YtemaflbbcihilaaDoor.Fl

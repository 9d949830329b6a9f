/- The fragment logic's code: a checked reading of a function's code, its weakest precondition, and a call's contract out of it. No conditions. -/
import Derived.Test.YtemaflbbcihilaaDoorFm
namespace Go.Proofs.YtemaflbbcihilaaDoor.Fl
open Go Go.RowKit
set_option linter.unusedSimpArgs false
set_option linter.unusedVariables false

inductive IC where
  | skip
  | ops (l : List FOp)
  | seq (a b : IC)
  | cond (c : Operand) (a b : IC)
  | block (id : Nat) (a : IC)
  | loop (a : IC)
  | exit (id : Nat)
  | ret
  | inv (l : List (FOp × List Nat))

inductive Ex where
  | norm
  | exit (id : Nat)
  | ret

def Ex.to : Ex → Exit
  | .norm => .normal
  | .exit id => .exit id
  | .ret => .ret

/-- A table of who comes ahead of whom. -/
def ancT (ops : Array Oper) : Array (List Nat) :=
  (List.range ops.size).foldl (fun A i => A.push (((preds ops i).flatMap fun p => p :: A.getD p []).eraseDups)) #[]

/-- The next one in the checked order: a quiet one, if one may come up; a new row last. -/
def pickN (ops : Array Oper) (q nw : Nat → Bool) (left done : List Nat) : Option Nat :=
  let r := left.filter fun i => (preds ops i).all done.contains
  match r.filter q, r.filter (fun i => !nw i) with
  | i :: _, _ => some i
  | [], i :: _ => some i
  | [], [] => r.head?

def orderN (ops : Array Oper) (q nw : Nat → Bool) : Nat → List Nat → List Nat → List Nat
  | 0, _, done => done.reverse
  | n + 1, left, done => match pickN ops q nw left done with
    | some i => orderN ops q nw n (left.filter (· != i)) (i :: done)
    | Option.none => done.reverse

/-- Must an operation leave what was read? If a reading one that it doesn't wait for stands ahead of it. -/
def extN (q pu ok : Nat → Bool) (A : Array (List Nat)) (L : List Nat) (i : Nat) : Bool :=
  !q i && !ok i && (L.takeWhile (· != i)).any fun x => q x && !pu x && !(A.getD i []).contains x

/-- The new rows behind one that acts, which may come ahead of it and whose parts lie in slots. -/
def nwN (q nw ok : Nat → Bool) (A : Array (List Nat)) (L : List Nat) (x : Nat) : List Nat :=
  if q x then [] else ((L.dropWhile (· != x)).drop 1).filter fun i => nw i && !ok i && !(A.getD i []).contains x

def drawn (P : Program) (N : Nat) (ops : Array Oper) : Option (List FOp) :=
  let o := fun i => ops.getD i default
  let q := fun i => quietK P (o i).op
  let nw := fun i => newK (o i).op
  let ok := fun i => newOk P (o i).op
  let A := ancT ops
  let L := orderN ops q nw ops.size (List.range ops.size) []
  let nwI := nwN q nw ok A L
  let F := fun i => fop P ops (extN q (fun i => pureK (o i).op) ok A L i) ((nwI i).map fun j => ((o j).op, (o j).type)) (o i)
  if orderOk P N ops (fun i => A.getD i []) nwI F L then some (L.map F) else Option.none

/-- A region told by an invariant: its operations, each with those that it waits for. -/
def invd (P : Program) (N : Nat) (ops : Array Oper) : Option (List (FOp × List Nat)) :=
  if ops.toList.all (okOper N ops) && (List.range ops.size).all (fun i => (preds ops i).all fun p => decide (p < i))
  then some ((List.range ops.size).map fun i => (fop P ops false [] (ops.getD i default), preds ops i)) else Option.none

def inR (N : Nat) : Operand → Bool
  | .tmp i => decide (i < N)
  | _ => true

def comp (P : Program) (N : Nat) : Code → Option IC
  | .skip => some .skip
  | .region _ ops dr => if dr then (match drawn P N ops with
    | some l => some (.ops l)
    | Option.none => (invd P N ops).map .inv) else if ops.toList.all (okOper N ops) then some (.ops (ops.toList.map (fop P ops false []))) else Option.none
  | .seq a b => match comp P N a, comp P N b with
    | some x, some y => some (.seq x y)
    | _, _ => Option.none
  | .cond c a b => if inR N c then match comp P N a, comp P N b with
    | some x, some y => some (.cond c x y)
    | _, _ => Option.none else Option.none
  | .block id a => (comp P N a).map (.block id)
  | .loop a => (comp P N a).map .loop
  | .exit id => some (.exit id)
  | .ret => some .ret
  | _ => Option.none

def awp (P : Program) (w0 : World) : IC → Tm → Frag → (Ex → Tm → Frag → Prop) → Prop
  | .skip, t, m, Q => Q .norm t m
  | .ops l, t, m, Q => stepsF P w0 l (fun _ => True) t m (Q .norm)
  | .seq a b, t, m, Q => awp P w0 a t m fun e t' m' => match e with
    | .norm => awp P w0 b t' m' Q
    | e => Q e t' m'
  | .cond c a b, t, m, Q => match evt t c with
    | .bool true => awp P w0 a t m Q
    | .bool false => awp P w0 b t m Q
    | _ => False
  | .block id a, t, m, Q => awp P w0 a t m fun e t' m' => match e with
    | .exit i => if i = id then Q .norm t' m' else Q (.exit i) t' m'
    | e => Q e t' m'
  | .loop a, t, m, Q => ∃ (I : Nat → Tm → Frag → Prop) (k : Nat), I k t m ∧ ∀ k t m, I k t m → awp P w0 a t m fun e t' m' => match e with
    | .norm => ∃ k', k' < k ∧ I k' t' m'
    | e => Q e t' m'
  | .exit id, t, m, Q => Q (.exit id) t m
  | .ret, t, m, Q => Q .ret t m
  | .inv l, t, m, Q => ∃ I : (Nat → Bool) → Tm → Frag → Prop, I (fun _ => false) t m ∧
      (∀ d t m, I d t m → ∀ (i : Nat) (f : FOp) (ps : List Nat), l[i]? = some (f, ps) → d i = false → (∀ p ∈ ps, d p = true) → step0 P w0 f (fun _ => True) t m fun _ t' m' => I (fun j => if j = i then true else d j) t' m') ∧
      (∀ d t m, I d t m → (∀ i, i < l.length → d i = true) → Q .norm t m)

theorem awp_mono {P : Program} {w0 : World} {c : IC} : ∀ {t : Tm} {m : Frag} {Q Q' : Ex → Tm → Frag → Prop}, awp P w0 c t m Q → (∀ e t m, Q e t m → Q' e t m) → awp P w0 c t m Q' := by
  induction c with
  | skip => intro t m Q Q' h hq; exact hq _ _ _ h
  | ops l => intro t m Q Q' h hq; exact stepsF_mono h fun t m => hq .norm t m
  | seq a b iha ihb =>
    intro t m Q Q' h hq
    refine iha h fun e t' m' h' => ?_
    cases e with
    | norm => exact ihb h' hq
    | _ => exact hq _ _ _ h'
  | cond c a b iha ihb =>
    intro t m Q Q' h hq
    simp only [awp] at h ⊢
    split
    · rename_i he; rw [he] at h; exact iha h hq
    · rename_i he; rw [he] at h; exact ihb h hq
    · rename_i h1 h2
      split at h
      · rename_i he; exact absurd he h1
      · rename_i he; exact absurd he h2
      · exact h
  | block id a ih =>
    intro t m Q Q' h hq
    refine ih h fun e t' m' h' => ?_
    cases e with
    | exit i =>
      simp only at h' ⊢
      split
      · rename_i he; rw [if_pos he] at h'; exact hq _ _ _ h'
      · rename_i he; rw [if_neg he] at h'; exact hq _ _ _ h'
    | _ => exact hq _ _ _ h'
  | loop a ih =>
    intro t m Q Q' h hq
    obtain ⟨I, k, h0, hr⟩ := h
    refine ⟨I, k, h0, fun k t m hI => ih (hr k t m hI) fun e t' m' h' => ?_⟩
    cases e with
    | norm => exact h'
    | _ => exact hq _ _ _ h'
  | exit id => intro t m Q Q' h hq; exact hq _ _ _ h
  | ret => intro t m Q Q' h hq; exact hq _ _ _ h
  | inv l => intro t m Q Q' h hq; obtain ⟨I, h0, h1, h2⟩ := h; exact ⟨I, h0, h1, fun d t m hI hd => hq _ _ _ (h2 d t m hI hd)⟩

/-- The machine's post out of the logic's; mS, wS: where it began. -/
def postM (w0 : World) (N : Nat) (mS : Frag) (wS : World) (Q : Ex → Tm → Frag → Prop) : Exit → Act → World → Prop := fun e a w => ∃ x t m, e = Ex.to x ∧ a = AT N t ∧ Q x t m ∧ Fits w0 m w ∧ Keeps mS wS m w

theorem wpOps_of {P : Program} {w0 : World} {N : Nat} {ops : Array Oper} {Q : Exit → Act → World → Prop} {K : Tm → Frag → Prop} {mS : Frag} {wS : World} (hok : ∀ o ∈ ops.toList, okOper N ops o = true)
    (hK : ∀ t m w, K t m → Fits w0 m w → Keeps mS wS m w → Q .normal (AT N t) w) : ∀ (L : List Nat) (os : List Oper) (S : Frag → Prop) (t : Tm) (m : Frag) (w : World), L.length = os.length → (∀ (j i : Nat) (o : Oper), L[j]? = some i → os[j]? = some o → ops[i]? = some o) →
      stepsF P w0 (os.map (fop P ops false [])) S t m K → Fits w0 m w → Keeps mS wS m w → wpOps P ops Q L (AT N t) w := by
  intro L
  induction L with
  | nil =>
    intro os S t m w hl _ h hf hk
    have : os = [] := List.length_eq_zero_iff.1 hl.symm
    subst this
    exact hK _ _ _ h hf hk
  | cons i L ih =>
    intro os S t m w hl hg h hf hk
    cases os with
    | nil => cases hl
    | cons o os =>
      rw [wpOps_cons]
      have ho := hg 0 i o rfl rfl
      refine step0_sound (P := P) (w0 := w0) (N := N) (ext := false) (nw := []) ho (hok o (Array.mem_toList_iff.2 (Array.mem_of_getElem? ho))) h.2 hf fun S' t' m' w' h' _ hf' hk' => ?_
      exact ih os S' t' m' w' (by simpa using hl) (fun j i o h1 h2 => hg (j + 1) i o h1 h2) h' hf' (hk.trans hk')

theorem drawn_sound {P : Program} {w0 : World} {N : Nat} {ops : Array Oper} {id : Nat} {l : List FOp} (hm : P.follows .mixedOrders = true) (hd : drawn P N ops = some l)
    {t : Tm} {m : Frag} {K : Tm → Frag → Prop} (h : stepsF P w0 l (fun _ => True) t m K) {w : World} (hf : Fits w0 m w) {Q : Exit → Act → World → Prop} (hK : ∀ t' m' w', K t' m' → Fits w0 m' w' → Keeps m w m' w' → Q .normal (AT N t') w') :
    (Code.region id ops true).wp P Q (AT N t) w := by
  unfold drawn at hd
  simp only at hd
  split at hd
  · rename_i hok
    cases hd
    simp only [orderOk, Bool.and_eq_true] at hok
    obtain ⟨⟨⟨⟨⟨⟨h1, h2⟩, h3⟩, h4⟩, h5⟩, h6⟩, h7⟩ := hok
    refine wp_region_any hm ?_
    refine any_of_order (P := P) (w0 := w0) (N := N) (K := K) (mS := m) (wS := w) (fun _ => rfl) (fun x j hj => List.mem_map.2 ⟨j, hj, rfl⟩) (fun o ho => List.all_eq_true.1 h1 o ho) h2 (fun i hi => ?_) hK ops.size _ (Array.replicate ops.size false) (fun _ => True) t m _ (by simpa using h7) (by simp) (fun i hi => ?_) (fun i hi => by simpa using List.all_eq_true.1 h5 i hi) (fun i hi hn => ?_) (pairsOk_spec h3) (fun _ _ _ h => h) h (hf.drew _) (Keeps.same rfl)
    · have := List.all_eq_true.1 h6 i (List.mem_range.2 hi)
      simp only [Bool.and_eq_true, Bool.not_eq_true', List.all_eq_true, decide_eq_true_eq] at this
      obtain ⟨ha, hb⟩ := this
      exact ⟨fun hin => (by rw [List.contains_iff_mem.2 hin] at ha; exact absurd ha (by decide)), hb⟩
    · have := List.all_eq_true.1 h4 i (List.mem_range.2 hi)
      have hin := List.contains_iff_mem.1 this
      exact ⟨fun _ => hin, fun _ => by simp [Array.getD_eq_getD_getElem?, hi]⟩
    · have := List.all_eq_true.1 h4 i (List.mem_range.2 hi)
      exact absurd (List.contains_iff_mem.1 this) hn
  · cases hd

theorem least {p : Nat → Prop} (h : ∃ k, p k) : ∃ k, p k ∧ ∀ j, p j → k ≤ j := by
  obtain ⟨k, hk⟩ := h
  induction k using Nat.strongRecOn with
  | _ k ih =>
    by_cases h : ∃ j, j < k ∧ p j
    · obtain ⟨j, hj, hp⟩ := h; exact ih j hj hp
    · exact ⟨k, hk, fun j hj => Nat.le_of_not_lt fun hlt => h ⟨j, hlt, hj⟩⟩

theorem any_of_inv {P : Program} {w0 : World} {N : Nat} {ops : Array Oper} {l : List (FOp × List Nat)} {I : (Nat → Bool) → Tm → Frag → Prop} {Q : Exit → Act → World → Prop} {K : Tm → Frag → Prop} {mS : Frag} {wS : World}
    (hl : invd P N ops = some l)
    (h1 : ∀ d t m, I d t m → ∀ (i : Nat) (f : FOp) (ps : List Nat), l[i]? = some (f, ps) → d i = false → (∀ p ∈ ps, d p = true) → step0 P w0 f (fun _ => True) t m fun _ t' m' => I (fun j => if j = i then true else d j) t' m')
    (h2 : ∀ d t m, I d t m → (∀ i, i < l.length → d i = true) → K t m)
    (hK : ∀ t m w, K t m → Fits w0 m w → Keeps mS wS m w → Q .normal (AT N t) w) :
    ∀ (n : Nat) (L : List Nat) (listed : Array Bool) (d : Nat → Bool) (t : Tm) (m : Frag) (w : World), L.length = n → L.Nodup → listed.size = ops.size → (∀ i, i < ops.size → (listed.getD i true = false ↔ i ∈ L)) →
      (∀ i ∈ L, i < ops.size) → (∀ i, i < ops.size → d i = listed.getD i true) → I d t m → Fits w0 m w → Keeps mS wS m w → wpAny P .any ops Q n listed (AT N t) w := by
  unfold invd at hl
  split at hl
  · rename_i hc
    cases hl
    simp only [Bool.and_eq_true] at hc
    obtain ⟨hok, hp⟩ := hc
    have hget : ∀ i, i < ops.size → ops[i]? = some (ops.getD i default) := fun i hi => by simp [Array.getD_eq_getD_getElem?, hi]
    have hpr : ∀ i, i < ops.size → ∀ p ∈ preds ops i, p < i := fun i hi p hpm => by
      have h := List.all_eq_true.1 (List.all_eq_true.1 hp i (List.mem_range.2 hi)) p hpm
      simpa using h
    have done : ∀ (L : List Nat) (listed : Array Bool) (d : Nat → Bool) (t : Tm) (m : Frag) (w : World), L = [] → (∀ i, i < ops.size → (listed.getD i true = false ↔ i ∈ L)) → (∀ i, i < ops.size → d i = listed.getD i true) → I d t m → Fits w0 m w → Keeps mS wS m w → Q .normal (AT N t) w := by
      intro L listed d t m w hL hll hd hI hf hk
      refine hK _ _ _ (h2 d t m hI fun i hi => ?_) hf hk
      have hi' : i < ops.size := by simpa using hi
      rw [hd i hi']
      cases hb : listed.getD i true with
      | true => rfl
      | false => have := (hll i hi').1 hb; rw [hL] at this; cases this
    have someReady : ∀ (L : List Nat) (listed : Array Bool), listed.size = ops.size → (∀ i, i < ops.size → (listed.getD i true = false ↔ i ∈ L)) → (∀ i ∈ L, i < ops.size) → Region.ready .any ops listed = [] → L = [] := by
      intro L listed hsz hll hlt hr
      cases L with
      | nil => rfl
      | cons x0 L0 =>
        exfalso
        obtain ⟨x, hx, hmin⟩ := least (p := fun k => k ∈ x0 :: L0) ⟨x0, by simp⟩
        have hxs := hlt x hx
        have : x ∈ Region.ready .any ops listed := mem_ready.2 ⟨(hll x hxs).2 hx, _, hget x hxs, fun e he hb => by
          have hmem : e.on ∈ preds ops x := (mem_preds (hget x hxs)).2 ⟨e, he, hb, rfl⟩
          have h3 := hpr x hxs _ hmem
          cases hg : listed.getD e.on true with
          | true =>
            have hlt2 : e.on < listed.size := by omega
            simp only [Array.getD_eq_getD_getElem?, Array.getElem?_eq_getElem hlt2, Option.getD_some] at hg ⊢
            exact hg
          | false =>
            have := hmin _ ((hll e.on (by omega)).1 hg)
            omega⟩
        rw [hr] at this; cases this
    intro n
    induction n with
    | zero =>
      intro L listed d t m w hn hnd hsz hll hlt hd hI hf hk
      have hL : L = [] := List.length_eq_zero_iff.1 hn
      refine ⟨?_, done L listed d t m w hL hll hd hI hf hk⟩
      rw [List.eq_nil_iff_forall_not_mem]
      intro i hi
      obtain ⟨h0, o, ho, _⟩ := mem_ready.1 hi
      have := (hll i (Array.getElem?_eq_some_iff.1 ho).1).1 h0
      rw [hL] at this; cases this
    | succ n ih =>
      intro L listed d t m w hn hnd hsz hll hlt hd hI hf hk
      refine ⟨fun hr => done L listed d t m w (someReady L listed hsz hll hlt hr) hll hd hI hf hk, fun i hi => ?_⟩
      obtain ⟨h0, o, ho, hall⟩ := mem_ready.1 hi
      have hilt := (Array.getElem?_eq_some_iff.1 ho).1
      have hiL := (hll i hilt).1 h0
      have hoo : ops.getD i default = o := by have := hget i hilt; rw [ho] at this; exact (Option.some.inj this).symm
      have hstep := h1 d t m hI i (fop P ops false [] o) (preds ops i) (by rw [← hoo]; simp [hilt]) (by rw [hd i hilt]; exact h0) (fun p hpm => by
        obtain ⟨e, he, hb, rfl⟩ := (mem_preds ho).1 hpm
        have h3 := hpr i hilt _ hpm
        rw [hd _ (by omega)]
        have h4 := hall e he hb
        have hlt2 : e.on < listed.size := by omega
        simp only [Array.getD_eq_getD_getElem?, Array.getElem?_eq_getElem hlt2, Option.getD_some] at h4 ⊢
        exact h4)
      refine step0_sound (P := P) (w0 := w0) (N := N) ho (List.all_eq_true.1 hok _ (Array.mem_toList_iff.2 (Array.mem_of_getElem? ho))) hstep hf fun S' t' m' w' hs hS' hf' hk' => ?_
      refine ih (L.erase i) (listed.setIfInBounds i true) (fun j => if j = i then true else d j) t' m' w' ?_ (hnd.erase i) (by simp [hsz]) (fun j hj => ?_) (fun j hj => hlt j (List.mem_of_mem_erase hj)) (fun j hj => ?_) hs hf' (hk.trans hk')
      · rw [List.length_erase_of_mem hiL]; omega
      · by_cases hji : j = i
        · subst hji
          have : (listed.setIfInBounds j true).getD j true = true := by
            simp [Array.getD_eq_getD_getElem?, Array.getElem?_setIfInBounds, show j < listed.size by omega]
          rw [this]
          simp only [Bool.true_eq_false, false_iff]
          exact fun h => (hnd.mem_erase_iff.1 h).1 rfl
        · have : (listed.setIfInBounds i true).getD j true = listed.getD j true := by
            simp only [Array.getD_eq_getD_getElem?, Array.getElem?_setIfInBounds, if_neg (Ne.symm hji)]
          rw [this, hll j hj, hnd.mem_erase_iff]
          exact ⟨fun h => ⟨hji, h⟩, fun h => h.2⟩
      · by_cases hji : j = i
        · subst hji
          have : (listed.setIfInBounds j true).getD j true = true := by
            simp [Array.getD_eq_getD_getElem?, Array.getElem?_setIfInBounds, show j < listed.size by omega]
          rw [this, if_pos rfl]
        · have : (listed.setIfInBounds i true).getD j true = listed.getD j true := by
            simp only [Array.getD_eq_getD_getElem?, Array.getElem?_setIfInBounds, if_neg (Ne.symm hji)]
          rw [this, if_neg hji, hd j hj]
  · cases hl

theorem invd_sound {P : Program} {w0 : World} {N : Nat} {ops : Array Oper} {id : Nat} {l : List (FOp × List Nat)} (hm : P.follows .mixedOrders = true) (hd : invd P N ops = some l)
    {t : Tm} {m : Frag} {Q' : Ex → Tm → Frag → Prop} (h : awp P w0 (.inv l) t m Q') {w : World} (hf : Fits w0 m w) {Q : Exit → Act → World → Prop} (hK : ∀ t' m' w', Q' .norm t' m' → Fits w0 m' w' → Keeps m w m' w' → Q .normal (AT N t') w') :
    (Code.region id ops true).wp P Q (AT N t) w := by
  obtain ⟨I, h0, h1, h2⟩ := h
  refine wp_region_any hm ?_
  refine any_of_inv (I := I) (K := Q' .norm) (mS := m) (wS := w) hd h1 h2 hK ops.size (List.range ops.size) (Array.replicate ops.size false) (fun _ => false) t m _ (by simp) List.nodup_range (by simp) (fun i hi => ?_) (fun i hi => List.mem_range.1 hi) (fun i hi => ?_) h0 (hf.drew _) (Keeps.same rfl)
  · exact ⟨fun _ => List.mem_range.2 hi, fun _ => by simp [Array.getD_eq_getD_getElem?, hi]⟩
  · simp [Array.getD_eq_getD_getElem?, hi]

theorem postM_trans {w0 : World} {N : Nat} {mS m : Frag} {wS w : World} {Q : Ex → Tm → Frag → Prop} (hk : Keeps mS wS m w) {e : Exit} {a : Act} {w' : World} (h : postM w0 N m w Q e a w') : postM w0 N mS wS Q e a w' := by
  obtain ⟨x, t, m', h1, h2, h3, h4, h5⟩ := h
  exact ⟨x, t, m', h1, h2, h3, h4, hk.trans h5⟩

theorem awp_sound {P : Program} {w0 : World} {N : Nat} (hm : P.follows .mixedOrders = true) (c : Code) : ∀ {ic : IC}, comp P N c = some ic → ∀ {t : Tm} {m : Frag} {Q : Ex → Tm → Frag → Prop}, awp P w0 ic t m Q →
    ∀ {w : World}, Fits w0 m w → c.wp P (postM w0 N m w Q) (AT N t) w := by
  induction c with
  | skip => intro ic hc t m Q h w hf; cases hc; exact wp_skip ⟨.norm, _, _, rfl, rfl, h, hf, Keeps.refl _ _⟩
  | region id ops dr =>
    intro ic hc t m Q h w hf
    simp only [comp] at hc
    cases dr with
    | true =>
      simp only [if_true] at hc
      split at hc
      · rename_i l hl
        cases hc
        exact drawn_sound hm hl h hf fun t m w hk hf hkp => ⟨.norm, t, m, rfl, rfl, hk, hf, hkp⟩
      · simp only [Option.map_eq_some_iff] at hc
        obtain ⟨l, hl, rfl⟩ := hc
        exact invd_sound hm hl h hf fun t m w hk hf hkp => ⟨.norm, t, m, rfl, rfl, hk, hf, hkp⟩
    | false =>
      simp only [Bool.false_eq_true, if_false] at hc
      split at hc
      · rename_i hok
        cases hc
        refine wp_region (wpOps_of (P := P) (w0 := w0) (N := N) (K := Q .norm) (mS := m) (wS := w) (fun o ho => List.all_eq_true.1 hok o ho) (fun t m w hk hf hkp => ⟨.norm, t, m, rfl, rfl, hk, hf, hkp⟩) _ ops.toList (fun _ => True) t m w (by simp) (fun j i o h1 h2 => ?_) h hf (Keeps.refl _ _))
        have hj : j < ops.size := by
          rcases Nat.lt_or_ge j ops.size with h3 | h3
          · exact h3
          · rw [List.getElem?_eq_none (by simpa using h3)] at h1; cases h1
        rw [List.getElem?_range hj] at h1
        cases h1
        simpa using h2
      · cases hc
  | seq a b iha ihb =>
    intro ic hc t m Q h w hf
    simp only [comp] at hc
    split at hc
    · rename_i x y hx hy
      cases hc
      refine wp_seq (wp_mono (iha hx h hf) fun e a' w' ⟨e', t', m', he, ha, hq, hf', hk⟩ => ?_)
      subst he ha
      cases e' with
      | norm => exact wp_mono (ihb hy hq hf') fun _ _ _ hp => postM_trans hk hp
      | exit i => exact ⟨.exit i, t', m', rfl, rfl, hq, hf', hk⟩
      | ret => exact ⟨.ret, t', m', rfl, rfl, hq, hf', hk⟩
    · cases hc
  | cond c a b iha ihb =>
    intro ic hc t m Q h w hf
    simp only [comp] at hc
    split at hc
    · rename_i hr
      split at hc
      · rename_i x y hx hy
        cases hc
        have he : (AT N t).eval c = evt t c := AT_eval fun i e => by subst e; simpa [inR] using hr
        simp only [awp] at h
        split at h
        · rename_i hv; exact wp_cond_true (he.trans hv) (iha hx h hf)
        · rename_i hv; exact wp_cond_false (he.trans hv) (ihb hy h hf)
        · exact h.elim
      · cases hc
    · cases hc
  | block id a ih =>
    intro ic hc t m Q h w hf
    simp only [comp, Option.map_eq_some_iff] at hc
    obtain ⟨x, hx, rfl⟩ := hc
    refine wp_block (wp_mono (ih hx h hf) fun e a' w' ⟨e', t', m', he, ha, hq, hf', hk⟩ => ?_)
    subst he ha
    cases e' with
    | norm => exact ⟨.norm, t', m', rfl, rfl, hq, hf', hk⟩
    | exit i =>
      show if i = id then _ else _
      simp only at hq
      split
      · rename_i e; rw [if_pos e] at hq; exact ⟨.norm, t', m', rfl, rfl, hq, hf', hk⟩
      · rename_i e; rw [if_neg e] at hq; exact ⟨.exit i, t', m', rfl, rfl, hq, hf', hk⟩
    | ret => exact ⟨.ret, t', m', rfl, rfl, hq, hf', hk⟩
  | loop a ih =>
    intro ic hc t m Q h w hf
    simp only [comp, Option.map_eq_some_iff] at hc
    obtain ⟨x, hx, rfl⟩ := hc
    obtain ⟨I, k, h0, hr⟩ := h
    let J : Nat → Act → World → Prop := fun k a w' => ∃ t' m', a = AT N t' ∧ I k t' m' ∧ Fits w0 m' w' ∧ Keeps m w m' w'
    refine wp_loop (fun a w => ∃ k, J k a w) (fun a w => open Classical in if h : ∃ k, J k a w then Classical.choose (least h) else 0) ⟨k, t, m, rfl, h0, hf, Keeps.refl _ _⟩ fun a w' hJ => ?_
    have hmin := (Classical.choose_spec (least hJ)).1
    simp only [dif_pos hJ]
    generalize Classical.choose (least hJ) = k at hmin ⊢
    obtain ⟨t1, m1, rfl, hI, hf1, hk1⟩ := hmin
    refine wp_mono (ih hx (hr k t1 m1 hI) hf1) fun e a' w2 ⟨e', t', m', he, ha, hq, hf', hk'⟩ => ?_
    subst he ha
    cases e' with
    | norm =>
      obtain ⟨k', hlt, hI'⟩ := hq
      have hJ' : ∃ k, J k (AT N t') w2 := ⟨k', t', m', rfl, hI', hf', hk1.trans hk'⟩
      refine ⟨hJ', ?_⟩
      simp only [dif_pos hJ']
      exact Nat.lt_of_le_of_lt ((Classical.choose_spec (least hJ')).2 _ ⟨t', m', rfl, hI', hf', hk1.trans hk'⟩) hlt
    | exit i => exact ⟨.exit i, t', m', rfl, rfl, hq, hf', hk1.trans hk'⟩
    | ret => exact ⟨.ret, t', m', rfl, rfl, hq, hf', hk1.trans hk'⟩
  | exit id => intro ic hc t m Q h w hf; cases hc; exact wp_exit ⟨.exit id, _, _, rfl, rfl, h, hf, Keeps.refl _ _⟩
  | ret => intro ic hc t m Q h w hf; cases hc; exact wp_ret ⟨.ret, _, _, rfl, rfl, h, hf, Keeps.refl _ _⟩
  | _ => intro ic hc; simp [comp] at hc

/-! ### A call -/

def argT (args : Array Value) : Tm := fun i => args.getD i undef

/-- What a function hands back. -/
def resV (P : Program) (w0 : World) (m : Frag) (t : Tm) : ResultVar → Option Value
  | .tmp i => some (t i)
  | .cell a T => match t a with
    | .pointer (some ad) => SQ P w0 m (loadVar T ad)
    | _ => Option.none

def resVs (P : Program) (w0 : World) (m : Frag) (t : Tm) : List ResultVar → Option (List Value)
  | [] => some []
  | r :: l => (resV P w0 m t r).bind fun v => (resVs P w0 m t l).bind fun vs => some (v :: vs)

def resAll (P : Program) (w0 : World) (m : Frag) (t : Tm) (l : List ResultVar) : Option Value := (resVs P w0 m t l).map fun
  | [v] => v
  | vs => .tuple vs.toArray

def resIn (N : Nat) : ResultVar → Bool
  | .tmp i => decide (i < N)
  | .cell a _ => decide (a < N)

instance : LawfulMonad Sem := by
  refine LawfulMonad.mk' Sem ?_ ?_ ?_
  · intro α x
    show Sem.bind x Sem.pure = x
    induction x with
    | pure a => rfl
    | halt h => rfl
    | store m a v k ih => exact congrArg _ ih
    | freeze a n k ih => exact congrArg _ ih
    | setObj r o k ih => exact congrArg _ ih
    | mark m k ih => exact congrArg _ ih
    | load m a k ih => exact congrArg _ (funext ih)
    | new o k ih => exact congrArg _ (funext ih)
    | shape r k ih => exact congrArg _ (funext ih)
    | frozen a k ih => exact congrArg _ (funext ih)
    | getObj r k ih => exact congrArg _ (funext ih)
    | choose q k ih => exact congrArg _ (funext ih)
    | sys c k ih => exact congrArg _ (funext ih)
    | program k ih => exact congrArg _ (funext ih)
  · intro α β x f; rfl
  · intro α β γ x f g
    show Sem.bind (Sem.bind x f) g = Sem.bind x fun a => Sem.bind (f a) g
    induction x with
    | pure a => rfl
    | halt h => rfl
    | store m a v k ih => exact congrArg _ ih
    | freeze a n k ih => exact congrArg _ ih
    | setObj r o k ih => exact congrArg _ ih
    | mark m k ih => exact congrArg _ ih
    | load m a k ih => exact congrArg _ (funext ih)
    | new o k ih => exact congrArg _ (funext ih)
    | shape r k ih => exact congrArg _ (funext ih)
    | frozen a k ih => exact congrArg _ (funext ih)
    | getObj r k ih => exact congrArg _ (funext ih)
    | choose q k ih => exact congrArg _ (funext ih)
    | sys c k ih => exact congrArg _ (funext ih)
    | program k ih => exact congrArg _ (funext ih)

theorem run_bind {α β : Type} {P : Program} (s : Sem α) (f : α → Sem β) : ∀ (w : World), (Sem.bind s f).run P w = match s.run P w with
    | .ok a w' => (f a).run P w'
    | .halt h w' => .halt h w' := by
  induction s with
  | pure a => intro w; rfl
  | load m a k ih =>
    intro w
    simp only [Sem.bind, Sem.run]
    split
    · exact ih _ w
    · split
      · exact ih _ w
      · rfl
  | store m a v k ih =>
    intro w
    simp only [Sem.bind]
    cases v <;> simp only [Sem.run] <;> first | rfl | (split <;> (try split) <;> first | rfl | exact ih _)
  | new o k ih => intro w; simp only [Sem.bind, Sem.run]; exact ih _ _
  | shape r k ih => intro w; simp only [Sem.bind, Sem.run]; exact ih _ _
  | freeze a n k ih => intro w; simp only [Sem.bind, Sem.run]; exact ih _
  | frozen a k ih => intro w; simp only [Sem.bind, Sem.run]; exact ih _ _
  | getObj r k ih =>
    intro w; simp only [Sem.bind, Sem.run]
    split <;> first | rfl | exact ih _ _
  | setObj r o k ih =>
    intro w; simp only [Sem.bind, Sem.run]
    split <;> first | rfl | exact ih _
  | choose q k ih =>
    intro w; simp only [Sem.bind, Sem.run]
    split
    · exact ih _ _
    · exact ih _ _
  | sys c k ih => intro w; simp only [Sem.bind, Sem.run]; exact ih _ _
  | program k ih => intro w; simp only [Sem.bind, Sem.run]; exact ih _ _
  | mark m k ih => intro w; simp only [Sem.bind, Sem.run]; exact ih _
  | halt h => intro w; rfl

def resM (tmps : Array Value) : ResultVar → Sem Value
  | .tmp t => pure (tmps.getD t undef)
  | .cell a t => do loadVar t (← asAddr (tmps.getD a undef))

theorem results_run {P : Program} {w0 w : World} {m : Frag} {N : Nat} {t : Tm} (hf : Fits w0 m w) : ∀ {l : List ResultVar} {vs : List Value}, l.all (resIn N) = true → resVs P w0 m t l = some vs →
    Sem.run P (l.mapM (resM (AT N t).tmps)) w = .ok vs w := by
  intro l
  induction l with
  | nil => intro vs _ h; simp only [resVs, Option.some.injEq] at h; subst h; rfl
  | cons r l ih =>
    intro vs hin h
    simp only [List.all_cons, Bool.and_eq_true] at hin
    simp only [resVs, Option.bind_eq_some_iff, Option.some.injEq] at h
    obtain ⟨v, hv, us, hus, rfl⟩ := h
    rw [List.mapM_cons]
    have h2 := ih hin.2 hus
    have h1 : Sem.run P (resM (AT N t).tmps r) w = .ok v w := by
      cases r with
      | tmp i =>
        simp only [resV, Option.some.injEq] at hv
        subst hv
        have : (AT N t).tmps.getD i undef = t i := by
          rw [Array.getD_eq_getD_getElem?, AT_get N t i (by simpa [resIn] using hin.1)]; rfl
        simp only [resM, this]; rfl
      | cell a T =>
        have : (AT N t).tmps.getD a undef = t a := by
          rw [Array.getD_eq_getD_getElem?, AT_get N t a (by simpa [resIn] using hin.1)]; rfl
        simp only [resM, this]
        simp only [resV] at hv
        split at hv
        · rename_i ad had
          rw [had]
          exact SQ_sound _ hv hf
        · cases hv
    show Sem.run P (Sem.bind _ _) w = _
    rw [run_bind, h1]
    show Sem.run P (Sem.bind _ _) w = _
    rw [run_bind, h2]
    rfl

theorem results_eq (fn : Func) (tmps : Array Value) : results fn tmps = (fn.results.mapM (resM tmps) >>= fun vs => pure (if h : vs.size = 1 then vs[0] else .tuple vs)) := by
  unfold results
  congr 1

theorem results_sound {P : Program} {w0 w : World} {m : Frag} {fn : Func} {N : Nat} {t : Tm} {v : Value} (hin : fn.results.toList.all (resIn N) = true) (h : resAll P w0 m t fn.results.toList = some v) (hf : Fits w0 m w) :
    (results fn (AT N t).tmps).run P w = .ok v w := by
  unfold resAll at h
  rw [Option.map_eq_some_iff] at h
  obtain ⟨vs, hvs, hv⟩ := h
  have h1 := results_run hf hin hvs
  rw [results_eq, Array.mapM_eq_mapM_toList]
  show Sem.run P (Sem.bind (Sem.bind _ _) _) w = _
  rw [run_bind, run_bind, h1]
  show Sem.run P (pure (if h : vs.toArray.size = 1 then vs.toArray[0] else Value.tuple vs.toArray)) w = _
  split at hv
  · subst hv; rfl
  · rename_i hne
    subst hv
    have hs : ¬ vs.toArray.size = 1 := by
      intro hs
      match vs, hs with
      | [x], _ => exact hne x rfl
    rw [dif_neg hs]; rfl

/-- The contract of a function out of its code. -/
theorem acall_of {P : Program} {w0 : World} {f : FuncId} {fn : Func} {c : Code} {ic : IC} {args : Array Value} {m : Frag} {R : Value → Frag → Prop} (hm : P.follows .mixedOrders = true) (hf : P.funcs[f]? = some fn) (hb : fn.body = some c)
    (hc : comp P fn.ntmps c = some ic) (hN : args.size ≤ fn.ntmps) (hin : fn.results.toList.all (resIn fn.ntmps) = true)
    (h : awp P w0 ic (argT args) m fun e t' m' => (match e with | .exit _ => False | _ => True) ∧ ∃ v, resAll P w0 m' t' fn.results.toList = some v ∧ R v m') : ACall P w0 f args m R := by
  intro w hw
  refine calls_of_wp hf hb ?_
  have ha : ({ tmps := args ++ Array.replicate (fn.ntmps - args.size) undef, defers := [] } : Act) = AT fn.ntmps (argT args) := by
    unfold AT
    congr 1
    apply Array.ext_getElem?
    intro i
    rw [Array.getElem?_ofFn, Array.getElem?_append]
    by_cases h1 : i < args.size
    · have h2 : i < fn.ntmps := by omega
      simp [h1, h2, argT, Array.getD_eq_getD_getElem?]
    · by_cases h2 : i < fn.ntmps
      · have h3 : i - args.size < fn.ntmps - args.size := by omega
        simp [h1, h2, h3, argT, Array.getD_eq_getD_getElem?, Array.getElem?_eq_none (Nat.not_lt.1 h1), Array.getElem?_replicate]
      · have h3 : ¬ i - args.size < fn.ntmps - args.size := by omega
        simp [h1, h2, h3, Array.getElem?_replicate]
  rw [ha]
  refine wp_mono (awp_sound hm c hc h hw) fun e a' w' ⟨x, t', m', he, ha', ⟨hx, v, hv, hR⟩, hf', hk⟩ => ?_
  subst he ha'
  have hr := results_sound hin hv hf'
  cases x with
  | norm => exact ⟨rfl, v, hr, v, m', rfl, hR, hf', hk⟩
  | ret => exact ⟨rfl, v, hr, v, m', rfl, hR, hf', hk⟩
  | exit i => exact hx.elim

end Go.Proofs.YtemaflbbcihilaaDoor.Fl

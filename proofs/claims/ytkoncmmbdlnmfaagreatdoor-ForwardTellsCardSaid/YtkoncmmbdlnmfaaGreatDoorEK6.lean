/- Several texts joined into one (a claim has a limit of files). -/
import Derived.Test.YtkoncmmbdlnmfaaGreatDoorEK4
import Derived.Maps.RangeWalk
import Derived.StringKeys
/- A region that fills a map literal in whatever order: what the map holds is good pairs alone. -/
namespace Go.Proofs.YtkoncmmbdlnmfaaGreatDoor
open Go Go.Maps Go.RowKit Go.Lib
set_option linter.unusedSimpArgs false
set_option linter.unusedVariables false
section
variable {P : Program} {ops : Array Oper} {Q : Exit → Act → World → Prop} {md : Region.Mode}

theorem listed_count {listed : Array Bool} {i : Nat} (h : listed.getD i true = false) : (listed.setIfInBounds i true).toList.count false + 1 = listed.toList.count false := by
  have hlt : i < listed.size := by
    rcases Nat.lt_or_ge i listed.size with h' | h'
    · exact h'
    · simp [Array.getElem?_eq_none h'] at h
  have hi : listed.toList[i]'(by simpa using hlt) = false := by
    simp [hlt] at h
    simpa using h
  rw [Array.toList_setIfInBounds, List.count_set (by simpa using hlt), hi]
  have hm : false ∈ listed.toList := by rw [← hi]; exact List.getElem_mem _
  have := List.count_pos_iff.2 hm
  have e1 : (false == false) = true := rfl
  have e2 : (true == false) = false := rfl
  rw [e1, e2]
  simp only [if_true, Bool.false_eq_true, if_false]
  omega
theorem wpAny_inv (J : Array Bool → Act → World → Prop)
    (hJ : ∀ listed a w i, J listed a w → i ∈ Region.ready md ops listed → wpOp P ops Q i (fun a' w' => J (listed.setIfInBounds i true) a' w') a w)
    (hQ : ∀ listed a w, J listed a w → Region.ready md ops listed = [] → Q .normal a w) :
    ∀ (fuel : Nat) (listed : Array Bool) (a : Act) (w : World), listed.toList.count false ≤ fuel → J listed a w → wpAny P md ops Q fuel listed a w
  | 0, listed, a, w, hc, h => by
    have h0 : Region.ready md ops listed = [] := by
      refine List.eq_nil_iff_forall_not_mem.2 fun i hi => ?_
      have := listed_count (mem_ready.1 hi).1
      omega
    exact ⟨h0, hQ _ _ _ h h0⟩
  | fuel + 1, listed, a, w, hc, h => ⟨fun h0 => hQ _ _ _ h h0, fun i hi => wpOp_mono (fun a' w' h' => wpAny_inv J hJ hQ fuel _ a' w' (by have := listed_count (mem_ready.1 hi).1; omega) h') (hJ listed a w i h hi)⟩
def backB (ops : Array Oper) : Bool := (List.range ops.size).all fun k => match ops[k]? with
  | some o => o.after.all fun e => decide (e.on < k)
  | none => true
theorem all_listed (hb : backB ops = true) {listed : Array Bool} (hs : listed.size = ops.size) (h : Region.ready md ops listed = []) : ∀ n k, k < n → k < ops.size → listed.getD k false = true
  | 0, k, hk, _ => by omega
  | n + 1, k, hk, hlt => by
    by_cases hkn : k < n
    · exact all_listed hb hs h n k hkn hlt
    obtain rfl : k = n := by omega
    have hls : k < listed.size := by omega
    cases hv : listed.getD k false with
    | true => rfl
    | false =>
      exfalso
      have ho : ops[k]? = some ops[k] := Array.getElem?_eq_getElem hlt
      have hmem : k ∈ Region.ready md ops listed := by
        refine mem_ready.2 ⟨by simp [hls] at hv ⊢; exact hv, ops[k], ho, fun e he hbd => ?_⟩
        have h1 := List.all_eq_true.1 hb k (List.mem_range.2 hlt)
        rw [ho] at h1
        have h2 := Array.all_eq_true_iff_forall_mem.1 h1 e he
        have h3 : e.on < k := by simpa using h2
        exact all_listed hb hs h k e.on h3 (by omega)
      rw [h] at hmem
      cases hmem
/-- Whatever order is picked: the last operation waits for all others; J holds up to it, F behind it. -/
theorem wpAny_lastop {a : Act} {w : World} (m : Nat) (hsz : ops.size = m + 1) (hw : ((List.range m).all fun i => waits md ops m i) = true) (hb : backB ops = true)
    (J : Array Bool → Act → World → Prop) (F : Act → World → Prop) (h0 : J (Array.replicate ops.size false) a w)
    (hJ : ∀ listed a w i, i < m → listed.size = m + 1 → J listed a w → i ∈ Region.ready md ops listed → wpOp P ops Q i (fun a' w' => J (listed.setIfInBounds i true) a' w') a w)
    (hF : ∀ listed a w, listed.size = m + 1 → (∀ k, k < m → listed.getD k false = true) → J listed a w → wpOp P ops Q m (fun a' w' => F a' w') a w)
    (hQ : ∀ a w, F a w → Q .normal a w) : wpAny P md ops Q ops.size (Array.replicate ops.size false) a w := by
  refine wpAny_inv (fun listed a w => listed.size = m + 1 ∧ Closed md ops listed ∧ ((listed.getD m true = false ∧ J listed a w) ∨ ((∀ k, k < m + 1 → listed.getD k true = true) ∧ F a w))) ?_ ?_ _ _ _ _ ?_ ?_
  · rintro listed a w i ⟨hs, hc, h⟩ hi
    obtain ⟨hun, o, ho, hall⟩ := mem_ready.1 hi
    have hlt : i < m + 1 := by rw [← hsz]; exact (Array.getElem?_eq_some_iff.1 ho).1
    rcases h with ⟨hm, h⟩ | ⟨hA, -⟩
    · by_cases him : i = m
      · subst him
        have hall : ∀ k, k < i → listed.getD k false = true := fun k hk => waits_spec hc (List.all_eq_true.1 hw k (List.mem_range.2 hk)) hi
        refine wpOp_mono (fun a' w' h' => ⟨by simpa using hs, hc.set hi, .inr ⟨fun k hk => ?_, h'⟩⟩) (hF listed a w hs hall h)
        by_cases hki : i = k
        · subst hki
          have : i < listed.size := by omega
          simp [this]
        · rw [getD_set_ne true hki]
          have h1 := hall k (by omega)
          have h2 : k < listed.size := by omega
          simp [h2] at h1 ⊢
          exact h1
      · refine wpOp_mono (fun a' w' h' => ⟨by simpa using hs, hc.set hi, .inl ⟨by rw [getD_set_ne true him]; exact hm, h'⟩⟩) (hJ listed a w i (by omega) hs h hi)
    · rw [hA i hlt] at hun
      cases hun
  · rintro listed a w ⟨hs, hc, h⟩ hr
    rcases h with ⟨hm, h⟩ | ⟨-, h⟩
    · have := all_listed hb (by rw [hs, hsz]) hr (m + 1) m (by omega) (by omega)
      have hl : m < listed.size := by omega
      simp [hl] at hm this
      rw [hm] at this
      cases this
    · exact hQ a w h
  · simp
  · refine ⟨by simp [hsz], ?_, .inl ⟨by simp [hsz], h0⟩⟩
    intro k o hk
    exfalso
    by_cases hlt : k < ops.size
    · simp [hlt] at hk
    · have : (Array.replicate ops.size false)[k]? = none := Array.getElem?_eq_none (by simp; omega)
      simp only [Array.getD_eq_getD_getElem?, this] at hk
      cases hk
end
theorem getD_set (listed : Array Bool) (i k : Nat) (hi : i < listed.size) : (listed.setIfInBounds i true).getD k false = (decide (i = k) || listed.getD k false) := by
  by_cases h : i = k
  · subst h; simp [hi]
  · rw [getD_set_ne false h]; simp [h]
/-! the map: good pairs alone -/
def GoodD (g : List UInt8 → Lit → Prop) (D : DataW Unit) : Prop := ∀ (s : List UInt8) (y : Lit), (∀ zd, D.atKey (.string s) zd = .lit y) → g s y
def MapIn (P : Program) (k e : TypeId) (g : List UInt8 → Lit → Prop) (W : World) (B n : Nat) : Prop := ∃ D : DataW Unit, W.ownsMap P k (plainElem P e) B n D ∧ GoodD g D
theorem MapIn.made {P : Program} {k e : TypeId} {g : List UInt8 → Lit → Prop} (W : World) : MapIn P k e g (W.alloc (.map #[] 0)) W.heap.size 0 := by
  refine ⟨_, World.ownsMap_made W P k _, fun s y h => ?_⟩
  have h1 := h (.lit (.bool true))
  have h2 := h (.lit (.bool false))
  rw [show (DataW.map [] : DataW Unit).atKey (.string s) (.lit (.bool true)) = .lit (.bool true) from rfl] at h1
  rw [show (DataW.map [] : DataW Unit).atKey (.string s) (.lit (.bool false)) = .lit (.bool false) from rfl] at h2
  rw [← h1] at h2
  cases h2
theorem MapIn.ins {P : Program} {t k e : TypeId} {g : List UInt8 → Lit → Prop} {W : World} {B n : Nat} (h : MapIn P k e g W B n) (hk : P.underlying k = some .string) (ht : P.underlying t = some (.map k e)) (hn : n < 1000) {lo : Nat} (hlo : lo ≤ B)
    (s : ByteArray) (hs : s.size ≤ 1000000) (v : Value) (y : Lit) (hv : plainElem (H := Unit) P e v = some (.lit y, [])) (hg : g s.data.toList y) :
    ∃ W', (Instr.mapUpdate t (.map (some B)) (.string s) v).run P W = .ok () W' ∧ MapIn P k e g W' B (n + 1) ∧ Below lo W W' := by
  obtain ⟨D, ho, hG⟩ := h
  have hkey : keyOf P k (.string s) = some (.string s.data.toList) := WideMaps.keyOf_string_mk hk (by unfold maxLen; omega)
  obtain ⟨W', hrun, ho', hgr⟩ := ho.update (string_keyed hk) ht (by unfold maxLen; omega) hkey hv
  refine ⟨W', hrun, ⟨_, ho', fun s' y' h' => ?_⟩, ?_⟩
  · by_cases e : s' = s.data.toList
    · subst e
      have h1 := h' (.lit y)
      rw [atKey_put_same ho.isMap ((string_keyed hk).key hkey)] at h1
      cases h1
      exact hg
    · refine hG s' y' fun zd => ?_
      have := h' zd
      rwa [atKey_put_other (by intro h; cases h; exact e rfl)] at this
  · have hlt := ho.lt
    exact (Below.refl lo W).grown hgr (by omega) (fun k hk => by cases hk; exact hlo)
theorem MapIn.below {P : Program} {k e : TypeId} {g : List UInt8 → Lit → Prop} {w W : World} {B n : Nat} (h : MapIn P k e g w B n) (hb : Below w.heap.size w W) : MapIn P k e g W B n := by
  obtain ⟨D, ho, hG⟩ := h
  have hlt := ho.lt
  obtain ⟨es, clock, h1, F, h2, h3⟩ := ho
  exact ⟨D, ⟨es, clock, (hb.block B hlt).trans h1, F, h2, h3⟩, hG⟩
theorem step_insert {P : Program} {ops : Array Oper} {Q : Exit → Act → World → Prop} {o : Oper} {a : Act} {w w' : World} {K : Act → World → Prop} {E : Prop} (hg : o.guard = none) (t : TypeId) (m x v : Operand) (hop : o.op = Op.insert t m x v)
    {mv xv vv : Value} (hm : a.eval m = mv) (hx : a.eval x = xv) (hv : a.eval v = vv) (hrun : (Instr.mapUpdate t mv xv vv).run P w = .ok () w') (hK : K (a.put o.dst undef) w') :
    if Region.wanted o (yielded ops a.tmps) = true then Oper.wp P o a w K Q else E := by
  have hw : Region.wanted o (yielded ops a.tmps) = true := by simp [Region.wanted, hg]
  rw [if_pos hw]
  unfold Oper.wp
  simp [execOp, hop, hm, hx, hv, hrun, Result.andThen]
  exact hK
def pk (b : Bool) (v : Value) : Value := bif b then v else undef
end Go.Proofs.YtkoncmmbdlnmfaaGreatDoor

/- A region that draws its order, each of whose operations gives one value whatever order is picked: no branching over the orders. -/
namespace Go.Proofs.YtkoncmmbdlnmfaaGreatDoor
open Go Go.RowKit Go.Lib
set_option linter.unusedSimpArgs false
set_option linter.unusedVariables false
section
variable {P : Program} {ops : Array Oper} {Q : Exit → Act → World → Prop} {md : Region.Mode}

def afterB (md : Region.Mode) (ops : Array Oper) (i j : Nat) : Bool := match ops[i]? with
  | some o => o.after.any fun e => Region.binds md e && e.on == j
  | none => false
def dstOf (ops : Array Oper) (i : Nat) : Option Tmp := (ops[i]?).bind (·.dst)
/-- each slot is written once, and lies in the frame. -/
def dstsOk (ops : Array Oper) (n : Nat) : Bool := ((List.range ops.size).all fun i => match dstOf ops i with
  | some d => decide (d < n) && (List.range ops.size).all fun j => j == i || !(dstOf ops j == some d)
  | none => true)
structure Held (ops : Array Oper) (V : Nat → Value) (a0 : Act) (L : Array Bool) (a : Act) : Prop where
  dfr : a.defers = a0.defers
  siz : a.tmps.size = a0.tmps.size
  old : ∀ d, (∀ i, dstOf ops i = some d → L.getD i false = false) → a.tmps[d]? = a0.tmps[d]?
  new : ∀ i d, dstOf ops i = some d → L.getD i false = true → a.tmps[d]? = some (V i)
theorem Held.at {V : Nat → Value} {a0 : Act} {L : Array Bool} {a : Act} (h : Held ops V a0 L a) (i d : Nat) (v : Value) (hd : dstOf ops i = some d) (hl : L.getD i false = true) (hv : V i = v) : a.tmps.getD d undef = v := by
  have := h.new i d hd hl
  rw [Array.getD_eq_getD_getElem?, this, hv]
  rfl
/-- no operation of the region writes it. -/
def freeB (ops : Array Oper) (d : Nat) : Bool := (List.range ops.size).all fun i => !(dstOf ops i == some d)
theorem dst_lt {i d : Nat} (h : dstOf ops i = some d) : i < ops.size := by
  unfold dstOf at h
  by_cases hlt : i < ops.size
  · exact hlt
  · rw [Array.getElem?_eq_none (by omega)] at h
    cases h
theorem Held.base {V : Nat → Value} {a0 : Act} {L : Array Bool} {a : Act} (h : Held ops V a0 L a) (d : Nat) (v : Value) (hd : freeB ops d = true) (hv : a0.tmps.getD d undef = v) : a.tmps.getD d undef = v := by
  have := h.old d (fun i hi => by
    have h1 := List.all_eq_true.1 hd i (List.mem_range.2 (dst_lt hi))
    rw [hi] at h1
    simp at h1)
  rw [Array.getD_eq_getD_getElem?, this, ← Array.getD_eq_getD_getElem?, hv]
def wantsB (V : Nat → Value) (o : Oper) : Bool := match o.guard with
  | none => true
  | some (j, b) => match V j with
    | .bool c => c == b
    | _ => false
def guardB (md : Region.Mode) (ops : Array Oper) (V : Nat → Value) (i : Nat) (o : Oper) : Bool := match o.guard with
  | none => true
  | some (j, b) => (match V j with | .bool _ => true | _ => false) && (dstOf ops j).isSome && afterB md ops i j
theorem wants_of {V : Nat → Value} {a0 : Act} {L : Array Bool} {a : Act} (h : Held ops V a0 L a) {i : Nat} {o : Oper} (hg : guardB md ops V i o = true) (hL : ∀ j, afterB md ops i j = true → L.getD j false = true) : Region.wanted o (yielded ops a.tmps) = wantsB V o := by
  unfold guardB at hg
  unfold Region.wanted wantsB
  cases hgo : o.guard with
  | none => rfl
  | some p =>
    obtain ⟨j, b⟩ := p
    rw [hgo] at hg
    simp only [Bool.and_eq_true] at hg
    obtain ⟨⟨h1, h2⟩, h3⟩ := hg
    obtain ⟨d, hd⟩ := Option.isSome_iff_exists.1 h2
    have hn := h.new j d hd (hL j h3)
    have hy : yielded ops a.tmps j = match V j with | .bool c => some c | _ => none := by
      unfold yielded
      unfold dstOf at hd
      rw [hd]
      simp only [Option.bind_some, hn]
      cases V j <;> rfl
    simp only [hy]
    cases V j <;> simp_all
/-- what is asked of operation i. -/
def OpDet (P : Program) (ops : Array Oper) (Q : Exit → Act → World → Prop) (md : Region.Mode) (V : Nat → Value) (a0 : Act) (R : Array Bool → World → Prop) (i : Nat) : Prop :=
  ∃ o, ops[i]? = some o ∧ guardB md ops V i o = true ∧ ∀ (L : Array Bool) (a : Act) (w : World), i < L.size → Held ops V a0 L a → (∀ j, afterB md ops i j = true → L.getD j false = true) → (∀ k, waits md ops k i = true → L.getD k false = false) → R L w →
    if wantsB V o = true then ∀ K : Act → World → Prop, Shut (∀ w', R (L.setIfInBounds i true) w' → K (a.put o.dst (V i)) w') → o.wp P a w K Q
    else V i = undef ∧ R (L.setIfInBounds i true) w
theorem set_no {L : Array Bool} {i k : Nat} (hi : i < L.size) (h : (L.setIfInBounds i true).getD k false = false) : i ≠ k ∧ L.getD k false = false := by
  rw [getD_set _ _ _ hi, Bool.or_eq_false_iff, decide_eq_false_iff_not] at h
  exact h
theorem set_yes {L : Array Bool} {i k : Nat} (hi : i < L.size) (h : (L.setIfInBounds i true).getD k false = true) (hne : i ≠ k) : L.getD k false = true := by
  rw [getD_set _ _ _ hi, Bool.or_eq_true, decide_eq_true_eq] at h
  exact h.resolve_left hne
theorem Held.put {V : Nat → Value} {a0 : Act} {L : Array Bool} {a : Act} (h : Held ops V a0 L a) (hok : dstsOk ops a0.tmps.size = true) {i : Nat} {o : Oper} (ho : ops[i]? = some o) (hi : i < L.size) : Held ops V a0 (L.setIfInBounds i true) (a.put o.dst (V i)) := by
  have hd : dstOf ops i = o.dst := by unfold dstOf; rw [ho]; rfl
  have hlt : i < ops.size := (Array.getElem?_eq_some_iff.1 ho).1
  cases hdo : o.dst with
  | none =>
    refine ⟨h.dfr, h.siz, fun d hall => h.old d (fun j hj => ?_), fun j d hj hl => ?_⟩
    · exact (set_no hi (hall j hj)).2
    · by_cases hij : i = j
      · subst hij; rw [hd, hdo] at hj; cases hj
      · exact h.new j d hj (set_yes hi hl hij)
  | some d0 =>
    have h1 := List.all_eq_true.1 hok i (List.mem_range.2 hlt)
    rw [hd, hdo] at h1
    simp only [Bool.and_eq_true, decide_eq_true_eq] at h1
    obtain ⟨hdn, huniq⟩ := h1
    have huniq' : ∀ j, dstOf ops j = some d0 → j = i := fun j hj => by
      have := List.all_eq_true.1 huniq j (List.mem_range.2 (dst_lt hj))
      rw [hj] at this
      simpa using this
    refine ⟨h.dfr, by simp [Act.put, h.siz], fun d hall => ?_, fun j d hj hl => ?_⟩
    · have hne : d0 ≠ d := by
        rintro rfl
        exact (set_no hi (hall i (by rw [hd, hdo]))).1 rfl
      show (a.tmps.setIfInBounds d0 (V i))[d]? = _
      rw [Array.getElem?_setIfInBounds_ne hne]
      exact h.old d (fun j hj => (set_no hi (hall j hj)).2)
    · show (a.tmps.setIfInBounds d0 (V i))[d]? = _
      by_cases hij : i = j
      · subst hij
        rw [hd, hdo] at hj
        injection hj with hj
        subst hj
        rw [Array.getElem?_setIfInBounds_self_of_lt (by rw [h.siz]; exact hdn)]
      · have hne : d0 ≠ d := by
          rintro rfl
          exact hij (huniq' j hj).symm
        rw [Array.getElem?_setIfInBounds_ne hne]
        exact h.new j d hj (set_yes hi hl hij)
/-- the state behind all of them. -/
def endTmps (ops : Array Oper) (V : Nat → Value) (t : Array Value) : Array Value := (List.range ops.size).foldl (fun t i => match dstOf ops i with | some d => t.setIfInBounds d (V i) | none => t) t
theorem fold_other (V : Nat → Value) (d : Nat) : ∀ (l : List Nat) (t : Array Value), (∀ i ∈ l, dstOf ops i ≠ some d) → (l.foldl (fun t i => match dstOf ops i with | some d => t.setIfInBounds d (V i) | none => t) t)[d]? = t[d]?
  | [], t, _ => rfl
  | i :: l, t, h => by
    rw [List.foldl_cons, fold_other V d l _ (fun j hj => h j (List.mem_cons_of_mem _ hj))]
    have := h i List.mem_cons_self
    cases hd : dstOf ops i with
    | none => rfl
    | some d' =>
      have hne : d' ≠ d := fun e => this (by rw [hd, e])
      simp only []
      rw [Array.getElem?_setIfInBounds_ne hne]
theorem fold_size (V : Nat → Value) : ∀ (l : List Nat) (t : Array Value), (l.foldl (fun t i => match dstOf ops i with | some d => t.setIfInBounds d (V i) | none => t) t).size = t.size
  | [], t => rfl
  | i :: l, t => by
    rw [List.foldl_cons, fold_size V l]
    cases dstOf ops i <;> simp
theorem fold_at (V : Nat → Value) (i d : Nat) (hd : dstOf ops i = some d) : ∀ (l : List Nat) (t : Array Value), d < t.size → (∀ j ∈ l, dstOf ops j = some d → j = i) → i ∈ l → (l.foldl (fun t i => match dstOf ops i with | some d => t.setIfInBounds d (V i) | none => t) t)[d]? = some (V i)
  | [], t, _, _, h => by cases h
  | j :: l, t, hlt, hu, h => by
    rw [List.foldl_cons]
    by_cases hil : i ∈ l
    · refine fold_at V i d hd l _ ?_ (fun k hk => hu k (List.mem_cons_of_mem _ hk)) hil
      cases dstOf ops j <;> simp [hlt]
    · have hji : j = i := by
        rcases List.mem_cons.1 h with h | h
        · exact h.symm
        · exact absurd h hil
      subst hji
      rw [fold_other V d l _ (fun k hk e => hil (by rw [← hu k (List.mem_cons_of_mem _ hk) e]; exact hk)), hd]
      simp only []
      rw [Array.getElem?_setIfInBounds_self_of_lt hlt]
theorem Held.done {V : Nat → Value} {a0 : Act} {L : Array Bool} {a : Act} (h : Held ops V a0 L a) (hok : dstsOk ops a0.tmps.size = true) (hall : ∀ k, k < ops.size → L.getD k false = true) : a = { tmps := endTmps ops V a0.tmps, defers := a0.defers } := by
  obtain ⟨t, df⟩ := a
  have h1 := h.dfr
  simp only at h1
  subst h1
  congr 1
  refine Array.ext_getElem? fun d => ?_
  by_cases hex : ∃ i, dstOf ops i = some d
  · obtain ⟨i, hi⟩ := hex
    have hlt := dst_lt hi
    have hk := List.all_eq_true.1 hok i (List.mem_range.2 hlt)
    rw [hi] at hk
    simp only [Bool.and_eq_true, decide_eq_true_eq] at hk
    have e1 := h.new i d hi (hall i hlt)
    simp only at e1
    rw [e1]
    exact (fold_at V i d hi (List.range ops.size) a0.tmps hk.1 (fun j _ hj => by
      have := List.all_eq_true.1 hk.2 j (List.mem_range.2 (dst_lt hj))
      rw [hj] at this
      simpa using this) (List.mem_range.2 hlt)).symm
  · have e1 := h.old d (fun i hi => absurd ⟨i, hi⟩ hex)
    simp only at e1
    rw [e1]
    exact (fold_other V d (List.range ops.size) a0.tmps (fun i _ hi => hex ⟨i, hi⟩)).symm
/-- the slots that it writes. -/
def dstList (ops : Array Oper) : List (Nat × Nat) := (List.range ops.size).filterMap fun i => (dstOf ops i).map fun d => (i, d)
theorem end_list (V : Nat → Value) (t : Array Value) : endTmps ops V t = (dstList ops).foldl (fun t p => t.setIfInBounds p.2 (V p.1)) t := by
  unfold endTmps dstList
  rw [List.foldl_filterMap]
  congr 1
  funext t i
  cases dstOf ops i <;> rfl
def AllBelow (p : Nat → Prop) : Nat → Prop
  | 0 => True
  | n + 1 => AllBelow p n ∧ p n
theorem all_below {p : Nat → Prop} : ∀ {n i : Nat}, AllBelow p n → i < n → p i
  | n + 1, i, h, hi => by
    by_cases e : i = n
    · rw [e]; exact h.2
    · exact all_below h.1 (by omega)
/-- Whatever order is picked: each operation gives its value, R holds all along. -/
theorem wp_region_det {id : Nat} {a : Act} {w : World} (hm : P.follows .mixedOrders = true) (n : Nat) (hn : ops.size = n) (V : Nat → Value) (R : Array Bool → World → Prop) (hok : dstsOk ops a.tmps.size = true) (hb : backB ops = true)
    (h0 : R (Array.replicate n false) w.drew) (hop : AllBelow (OpDet P ops Q .any V a R) n)
    (ds : List (Nat × Nat)) (hds : dstList ops = ds)
    (hfin : ∀ L w', (∀ k, k < n → L.getD k false = true) → R L w' → Q .normal { tmps := ds.foldl (fun t p => t.setIfInBounds p.2 (V p.1)) a.tmps, defers := a.defers } w') : (Code.region id ops true).wp P Q a w := by
  refine wp_region_any hm (wpAny_inv (fun listed a' w' => listed.size = n ∧ Closed .any ops listed ∧ Held ops V a listed a' ∧ R listed w') ?_ ?_ _ _ _ _ ?_ ?_)
  · rintro L a' w' i ⟨hs, hc, hh, hR⟩ hi
    obtain ⟨hun, o, ho, hall⟩ := mem_ready.1 hi
    have hlt : i < n := by rw [← hn]; exact (Array.getElem?_eq_some_iff.1 ho).1
    obtain ⟨o', ho', hg, hstep⟩ := all_below hop hlt
    rw [ho] at ho'
    obtain rfl := Option.some.inj ho'
    have hL : ∀ j, afterB .any ops i j = true → L.getD j false = true := fun j hj => by
      unfold afterB at hj
      rw [ho] at hj
      obtain ⟨e, he, h2⟩ := Array.any_eq_true'.1 hj
      rw [Bool.and_eq_true] at h2
      have := hall e he h2.1
      rw [eq_of_beq h2.2] at this
      exact this
    have hW : ∀ k, waits .any ops k i = true → L.getD k false = false := fun k hk => by
      cases hv : L.getD k false with
      | false => rfl
      | true =>
        exfalso
        refine listed_not hun (waits_listed hc _ k hk (fun o ho => hc k o hv ho))
    have hst := hstep L a' w' (by omega) hh hL hW hR
    have hw := wants_of hh hg hL
    refine wpOp_step ho (fun K hK => ?_)
    rw [hw]
    have hput := hh.put hok ho (show i < L.size by omega)
    cases hwb : wantsB V o with
    | true =>
      rw [hwb, if_pos rfl] at hst
      rw [if_pos rfl]
      exact hst K (fun w'' hR' => hK _ _ ⟨by simpa using hs, hc.set hi, hput, hR'⟩)
    | false =>
      rw [hwb, if_neg (by simp)] at hst
      rw [if_neg (by simp)]
      have hput' := hput
      rw [hst.1] at hput'
      exact hK _ _ ⟨by simpa using hs, hc.set hi, hput', hst.2⟩
  · rintro L a' w' ⟨hs, hc, hh, hR⟩ hr
    have hall : ∀ k, k < n → L.getD k false = true := fun k hk => all_listed hb (by rw [hs, hn]) hr (k + 1) k (by omega) (by omega)
    have e := hh.done hok (by rw [hn]; exact hall)
    rw [e, end_list, hds]
    exact hfin L w' hall hR
  · simp
  · refine ⟨by simp [hn], ?_, ⟨rfl, rfl, fun d _ => rfl, fun i d hd hl => ?_⟩, ?_⟩
    · intro k o hk
      exfalso
      by_cases hlt : k < ops.size
      · simp [hlt] at hk
      · have : (Array.replicate ops.size false)[k]? = none := Array.getElem?_eq_none (by simp; omega)
        simp only [Array.getD_eq_getD_getElem?, this] at hk
        cases hk
    · exfalso
      have hlt := dst_lt hd
      simp [hlt] at hl
    · rw [hn]; exact h0
theorem step_pure {o : Oper} {a : Act} {w : World} {K : Act → World → Prop} (v : Value) (h : (execOp a.eval o).run P w = .ok (.value v) w) (hK : K (a.put o.dst v) w) : o.wp P a w K Q := by
  unfold Oper.wp
  rw [h]
  exact hK
theorem eval_tmp {a : Act} {t : Nat} {v : Value} (h : a.tmps.getD t undef = v) : a.eval (.tmp t) = v := h
end
def sel2 {α : Type} (b : Bool) (x y : α) : α := if b = true then x else y
theorem selt {α : Type} {b : Bool} (h : b = true) (x y : α) : sel2 b x y = x := by unfold sel2; rw [if_pos h]
theorem self_ {α : Type} {b : Bool} (h : b = false) (x y : α) : sel2 b x y = y := by unfold sel2; rw [h, if_neg (by simp)]
end Go.Proofs.YtkoncmmbdlnmfaaGreatDoor

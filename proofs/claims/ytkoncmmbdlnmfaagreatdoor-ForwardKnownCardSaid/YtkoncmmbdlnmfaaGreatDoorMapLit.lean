/- A region that fills a map literal in whatever order: what the map holds is good pairs alone. -/
import Derived.Test.YtkoncmmbdlnmfaaGreatDoorEK4
import Derived.Maps.RangeWalk
import Derived.StringKeys
namespace Go.Proofs.YtkoncmmbdlnmfaaGreatDoor
open Go Go.Maps Go.RowKit Go.Lib
set_option linter.unusedSimpArgs false
set_option linter.unusedVariables false
section
variable {P : Program} {ops : Array Oper} {Q : Exit → Act → World → Prop} {md : Region.Mode}

theorem listed_count {listed : Array Bool} {i : Nat} (h : listed.getD i true = false) : (listed.setIfInBounds i true).toList.count false + 1 = listed.toList.count false := by
  have hlt : i < listed.size := by
    rcases Nat.lt_or_ge i listed.size with h' | h'
    · exact h'
    · simp [Array.getElem?_eq_none h'] at h
  have hi : listed.toList[i]'(by simpa using hlt) = false := by
    simp [hlt] at h
    simpa using h
  rw [Array.toList_setIfInBounds, List.count_set (by simpa using hlt), hi]
  have hm : false ∈ listed.toList := by rw [← hi]; exact List.getElem_mem _
  have := List.count_pos_iff.2 hm
  have e1 : (false == false) = true := rfl
  have e2 : (true == false) = false := rfl
  rw [e1, e2]
  simp only [if_true, Bool.false_eq_true, if_false]
  omega
theorem wpAny_inv (J : Array Bool → Act → World → Prop)
    (hJ : ∀ listed a w i, J listed a w → i ∈ Region.ready md ops listed → wpOp P ops Q i (fun a' w' => J (listed.setIfInBounds i true) a' w') a w)
    (hQ : ∀ listed a w, J listed a w → Region.ready md ops listed = [] → Q .normal a w) :
    ∀ (fuel : Nat) (listed : Array Bool) (a : Act) (w : World), listed.toList.count false ≤ fuel → J listed a w → wpAny P md ops Q fuel listed a w
  | 0, listed, a, w, hc, h => by
    have h0 : Region.ready md ops listed = [] := by
      refine List.eq_nil_iff_forall_not_mem.2 fun i hi => ?_
      have := listed_count (mem_ready.1 hi).1
      omega
    exact ⟨h0, hQ _ _ _ h h0⟩
  | fuel + 1, listed, a, w, hc, h => ⟨fun h0 => hQ _ _ _ h h0, fun i hi => wpOp_mono (fun a' w' h' => wpAny_inv J hJ hQ fuel _ a' w' (by have := listed_count (mem_ready.1 hi).1; omega) h') (hJ listed a w i h hi)⟩
def backB (ops : Array Oper) : Bool := (List.range ops.size).all fun k => match ops[k]? with
  | some o => o.after.all fun e => decide (e.on < k)
  | none => true
theorem all_listed (hb : backB ops = true) {listed : Array Bool} (hs : listed.size = ops.size) (h : Region.ready md ops listed = []) : ∀ n k, k < n → k < ops.size → listed.getD k false = true
  | 0, k, hk, _ => by omega
  | n + 1, k, hk, hlt => by
    by_cases hkn : k < n
    · exact all_listed hb hs h n k hkn hlt
    obtain rfl : k = n := by omega
    have hls : k < listed.size := by omega
    cases hv : listed.getD k false with
    | true => rfl
    | false =>
      exfalso
      have ho : ops[k]? = some ops[k] := Array.getElem?_eq_getElem hlt
      have hmem : k ∈ Region.ready md ops listed := by
        refine mem_ready.2 ⟨by simp [hls] at hv ⊢; exact hv, ops[k], ho, fun e he hbd => ?_⟩
        have h1 := List.all_eq_true.1 hb k (List.mem_range.2 hlt)
        rw [ho] at h1
        have h2 := Array.all_eq_true_iff_forall_mem.1 h1 e he
        have h3 : e.on < k := by simpa using h2
        exact all_listed hb hs h k e.on h3 (by omega)
      rw [h] at hmem
      cases hmem
/-- Whatever order is picked: the last operation waits for all others; J holds up to it, F behind it. -/
theorem wpAny_lastop {a : Act} {w : World} (m : Nat) (hsz : ops.size = m + 1) (hw : ((List.range m).all fun i => waits md ops m i) = true) (hb : backB ops = true)
    (J : Array Bool → Act → World → Prop) (F : Act → World → Prop) (h0 : J (Array.replicate ops.size false) a w)
    (hJ : ∀ listed a w i, i < m → listed.size = m + 1 → J listed a w → i ∈ Region.ready md ops listed → wpOp P ops Q i (fun a' w' => J (listed.setIfInBounds i true) a' w') a w)
    (hF : ∀ listed a w, listed.size = m + 1 → (∀ k, k < m → listed.getD k false = true) → J listed a w → wpOp P ops Q m (fun a' w' => F a' w') a w)
    (hQ : ∀ a w, F a w → Q .normal a w) : wpAny P md ops Q ops.size (Array.replicate ops.size false) a w := by
  refine wpAny_inv (fun listed a w => listed.size = m + 1 ∧ Closed md ops listed ∧ ((listed.getD m true = false ∧ J listed a w) ∨ ((∀ k, k < m + 1 → listed.getD k true = true) ∧ F a w))) ?_ ?_ _ _ _ _ ?_ ?_
  · rintro listed a w i ⟨hs, hc, h⟩ hi
    obtain ⟨hun, o, ho, hall⟩ := mem_ready.1 hi
    have hlt : i < m + 1 := by rw [← hsz]; exact (Array.getElem?_eq_some_iff.1 ho).1
    rcases h with ⟨hm, h⟩ | ⟨hA, -⟩
    · by_cases him : i = m
      · subst him
        have hall : ∀ k, k < i → listed.getD k false = true := fun k hk => waits_spec hc (List.all_eq_true.1 hw k (List.mem_range.2 hk)) hi
        refine wpOp_mono (fun a' w' h' => ⟨by simpa using hs, hc.set hi, .inr ⟨fun k hk => ?_, h'⟩⟩) (hF listed a w hs hall h)
        by_cases hki : i = k
        · subst hki
          have : i < listed.size := by omega
          simp [this]
        · rw [getD_set_ne true hki]
          have h1 := hall k (by omega)
          have h2 : k < listed.size := by omega
          simp [h2] at h1 ⊢
          exact h1
      · refine wpOp_mono (fun a' w' h' => ⟨by simpa using hs, hc.set hi, .inl ⟨by rw [getD_set_ne true him]; exact hm, h'⟩⟩) (hJ listed a w i (by omega) hs h hi)
    · rw [hA i hlt] at hun
      cases hun
  · rintro listed a w ⟨hs, hc, h⟩ hr
    rcases h with ⟨hm, h⟩ | ⟨-, h⟩
    · have := all_listed hb (by rw [hs, hsz]) hr (m + 1) m (by omega) (by omega)
      have hl : m < listed.size := by omega
      simp [hl] at hm this
      rw [hm] at this
      cases this
    · exact hQ a w h
  · simp
  · refine ⟨by simp [hsz], ?_, .inl ⟨by simp [hsz], h0⟩⟩
    intro k o hk
    exfalso
    by_cases hlt : k < ops.size
    · simp [hlt] at hk
    · have : (Array.replicate ops.size false)[k]? = none := Array.getElem?_eq_none (by simp; omega)
      simp only [Array.getD_eq_getD_getElem?, this] at hk
      cases hk
end
theorem getD_set (listed : Array Bool) (i k : Nat) (hi : i < listed.size) : (listed.setIfInBounds i true).getD k false = (decide (i = k) || listed.getD k false) := by
  by_cases h : i = k
  · subst h; simp [hi]
  · rw [getD_set_ne false h]; simp [h]
/-! the map: good pairs alone -/
def GoodD (g : List UInt8 → Lit → Prop) (D : DataW Unit) : Prop := ∀ (s : List UInt8) (y : Lit), (∀ zd, D.atKey (.string s) zd = .lit y) → g s y
def MapIn (P : Program) (k e : TypeId) (g : List UInt8 → Lit → Prop) (W : World) (B n : Nat) : Prop := ∃ D : DataW Unit, W.ownsMap P k (plainElem P e) B n D ∧ GoodD g D
theorem MapIn.made {P : Program} {k e : TypeId} {g : List UInt8 → Lit → Prop} (W : World) : MapIn P k e g (W.alloc (.map #[] 0)) W.heap.size 0 := by
  refine ⟨_, World.ownsMap_made W P k _, fun s y h => ?_⟩
  have h1 := h (.lit (.bool true))
  have h2 := h (.lit (.bool false))
  rw [show (DataW.map [] : DataW Unit).atKey (.string s) (.lit (.bool true)) = .lit (.bool true) from rfl] at h1
  rw [show (DataW.map [] : DataW Unit).atKey (.string s) (.lit (.bool false)) = .lit (.bool false) from rfl] at h2
  rw [← h1] at h2
  cases h2
theorem MapIn.ins {P : Program} {t k e : TypeId} {g : List UInt8 → Lit → Prop} {W : World} {B n : Nat} (h : MapIn P k e g W B n) (hk : P.underlying k = some .string) (ht : P.underlying t = some (.map k e)) (hn : n < 1000) {lo : Nat} (hlo : lo ≤ B)
    (s : ByteArray) (hs : s.size ≤ 1000000) (v : Value) (y : Lit) (hv : plainElem (H := Unit) P e v = some (.lit y, [])) (hg : g s.data.toList y) :
    ∃ W', (Instr.mapUpdate t (.map (some B)) (.string s) v).run P W = .ok () W' ∧ MapIn P k e g W' B (n + 1) ∧ Below lo W W' := by
  obtain ⟨D, ho, hG⟩ := h
  have hkey : keyOf P k (.string s) = some (.string s.data.toList) := WideMaps.keyOf_string_mk hk (by unfold maxLen; omega)
  obtain ⟨W', hrun, ho', hgr⟩ := ho.update (string_keyed hk) ht (by unfold maxLen; omega) hkey hv
  refine ⟨W', hrun, ⟨_, ho', fun s' y' h' => ?_⟩, ?_⟩
  · by_cases e : s' = s.data.toList
    · subst e
      have h1 := h' (.lit y)
      rw [atKey_put_same ho.isMap ((string_keyed hk).key hkey)] at h1
      cases h1
      exact hg
    · refine hG s' y' fun zd => ?_
      have := h' zd
      rwa [atKey_put_other (by intro h; cases h; exact e rfl)] at this
  · have hlt := ho.lt
    exact (Below.refl lo W).grown hgr (by omega) (fun k hk => by cases hk; exact hlo)
theorem MapIn.below {P : Program} {k e : TypeId} {g : List UInt8 → Lit → Prop} {w W : World} {B n : Nat} (h : MapIn P k e g w B n) (hb : Below w.heap.size w W) : MapIn P k e g W B n := by
  obtain ⟨D, ho, hG⟩ := h
  have hlt := ho.lt
  obtain ⟨es, clock, h1, F, h2, h3⟩ := ho
  exact ⟨D, ⟨es, clock, (hb.block B hlt).trans h1, F, h2, h3⟩, hG⟩
theorem step_insert {P : Program} {ops : Array Oper} {Q : Exit → Act → World → Prop} {o : Oper} {a : Act} {w w' : World} {K : Act → World → Prop} {E : Prop} (hg : o.guard = none) (t : TypeId) (m x v : Operand) (hop : o.op = Op.insert t m x v)
    {mv xv vv : Value} (hm : a.eval m = mv) (hx : a.eval x = xv) (hv : a.eval v = vv) (hrun : (Instr.mapUpdate t mv xv vv).run P w = .ok () w') (hK : K (a.put o.dst undef) w') :
    if Region.wanted o (yielded ops a.tmps) = true then Oper.wp P o a w K Q else E := by
  have hw : Region.wanted o (yielded ops a.tmps) = true := by simp [Region.wanted, hg]
  rw [if_pos hw]
  unfold Oper.wp
  simp [execOp, hop, hm, hx, hv, hrun, Result.andThen]
  exact hK
def pk (b : Bool) (v : Value) : Value := bif b then v else undef
end Go.Proofs.YtkoncmmbdlnmfaaGreatDoor

/- Several texts joined into one (a claim has a limit of files). -/
import Derived.Test.YtkoncmmbdlnmfaaGreatDoorLinL
import Derived.Test.YtkoncmmbdlnmfaaGreatDoorLinA
import Derived.Deep.RegionHeld3
/- slices.Contains over rows of targets. -/
namespace Go.Proofs.YtkoncmmbdlnmfaaGreatDoor
open Go.RowKit Go.Lib
set_option linter.unusedSimpArgs false
set_option linter.unusedVariables false
set_option linter.unnecessarySimpa false
set_option maxRecDepth 100000

def IdxRel (l : List TI) (x : TI) (w : World) (g : Nat) (v8 : Value) (W : World) : Prop :=
  ∃ i : Nat, v8 = .int .i64 (i : Int) ∧ i ≤ l.length ∧ g = l.length - i ∧ Below w.heap.size w W ∧ ∀ (j : Nat) (a : TI), j < i → l[j]? = some a → a ≠ x
theorem Four4.alive {w : World} (x y z u : Value) (t : TypeId) {W : World} (hb : Below (w.alloc (.cells #[x, y, z, u] t)).heap.size (w.alloc (.cells #[x, y, z, u] t)) W) : Four4 w.heap.size x y z u W := (Four4.made w x y z u t).below hb
set_option maxHeartbeats 8000000 in
theorem Index_tg (l : List TI) (v : Value) (x : TI) (w : World) (hrow : GRow 4 tiC w v l) (hl : l.length ≤ 1000000) :
    Calls Tryz.prog 41 #[v, tiV x] w fun e w' => ∃ i : Int, e = .returned (.int .i64 i) ∧ decide (0 ≤ i) = l.contains x ∧ Below w.heap.size w w' := by
  obtain ⟨xk, ⟨xa, xb⟩, xn⟩ := x
  show Calls Tryz.prog 41 #[v, .agg #[.int .i64 xk, .string ⟨xa.toArray⟩, .string ⟨xb.toArray⟩, .string ⟨xn.toArray⟩]] w _
  have HB0 := Lib.hid (alloc_below w (.cells #[.int .i64 xk, .string ⟨xa.toArray⟩, .string ⟨xb.toArray⟩, .string ⟨xn.toArray⟩] 28))
  have HF := Lib.hid (Four4.made w (.int .i64 xk) (.string ⟨xa.toArray⟩) (.string ⟨xb.toArray⟩) (.string ⟨xn.toArray⟩) 28)
  have HROW := Lib.hid (hrow.below HB0.out)
  obtain ⟨p, cap, rfl, -⟩ := hrow
  obtain ⟨M, hM⟩ : ∃ M, l.contains (xk, (xa, xb), xn) = M := ⟨_, rfl⟩
  rw [hM]
  have HM := Lib.hid hM
  clear hM
  generalize hw1 : w.alloc (.cells #[.int .i64 xk, .string ⟨xa.toArray⟩, .string ⟨xb.toArray⟩, .string ⟨xn.toArray⟩] 28) = w1 at HB0 HF HROW
  go_enter Tryz.func41, Tryz.ntmps41
  go_wp2_with fail
  go_loopg [8] l.length (fun g v8 W => IdxRel l (xk, (xa, xb), xn) w1 g v8 W)
  case atStart => exact ⟨0, rfl, Nat.zero_le _, rfl, Below.refl _ _, fun j a h => by omega⟩
  case round =>
    obtain ⟨i, rfl, hi, hg, hb, hall⟩ := hrel
    have HG := Lib.hid hg
    have HB := Lib.hid hb
    have HALL := Lib.hid hall
    clear hg hb hall
    by_cases hlt : i < l.length
    · have hi0 : (0 : Int) ≤ (i : Int) := by omega
      have hi1 : (i : Int) < (l.length : Int) := by omega
      have hwk : IntKind.i64.wrap ((i : Int) + 1) = (i : Int) + 1 := by rw [IntKind.wrap_i64]; omega
      have hx := List.getElem?_eq_getElem hlt
      obtain ⟨T, hT⟩ : ∃ T, l[i] = T := ⟨_, rfl⟩
      rw [hT] at hx
      have HMEM := Lib.hid (show T ∈ l by rw [← hT]; exact List.getElem_mem hlt)
      have HK := Lib.hid hx
      obtain ⟨p', cap', he, h⟩ := HROW.out.below HB.out
      obtain rfl : cap = cap' := by injection he
      obtain rfl : p = p' := by injection he
      obtain ⟨b, o, hpb, hc⟩ := grow_at h hlt
      subst hpb
      clear he h
      obtain ⟨tk, ⟨ta, tb⟩, tn⟩ := T
      have d0 := hc i _ hx 0 (.int .i64 tk) rfl
      have d1 := hc i _ hx 1 (.string ⟨ta.toArray⟩) rfl
      have d2 := hc i _ hx 2 (.string ⟨tb.toArray⟩) rfl
      have d3 := hc i _ hx 3 (.string ⟨tn.toArray⟩) rfl
      rw [Nat.add_zero] at d0
      clear hc hx hT
      obtain ⟨⟨-, e0, e1, e2, e3⟩, -⟩ := HF.out.below HB.out
      by_cases q1 : tk = xk
      · by_cases q2 : ta = xa
        · by_cases q3 : tb = xb
          · by_cases q4 : tn = xn
            · subst q1 q2 q3 q4
              have hc1 := HM.out
              have hc2 : l.contains (tk, (ta, tb), tn) = true := by
                rw [List.contains_eq_mem, decide_eq_true_eq]
                exact HMEM.out
              obtain rfl : M = true := hc1.symm.trans hc2
              clear hc1 hc2
              go_wp2_with fail
              go_region
              go_wp2
              go_ret
              exact ⟨_, rfl, by first | exact decide_eq_true hi0 | exact hi0, HB0.out.trans ((HB.out.trans ((drew_below wr).mono HB.out.size)).mono HB0.out.size)⟩
            · have HNE := Lib.hid (show ((tk, (ta, tb), tn) : TI) ≠ (xk, (xa, xb), xn) from fun e => q4 (by simp only [Prod.mk.injEq] at e; exact e.2.2))
              subst q1 q2 q3
              have q4b : (xn == tn) = false := by rw [beq_eq_false_iff_ne]; exact fun e => q4 e.symm
              have q4c : ¬ xn = tn := fun e => q4 e.symm
              go_wp2_with fail
              go_region
              go_wp2_with fail
              go_roundg (l.length - (i + 1))
              case rel =>
                refine ⟨i + 1, by go_num, by omega, rfl, HB.out.trans ((drew_below wr).mono HB.out.size), fun i' a' hi' ha' => ?_⟩
                by_cases hik : i' < i
                · exact HALL.out i' a' hik ha'
                · obtain rfl : i' = i := by omega
                  rw [HK.out] at ha'
                  cases ha'
                  exact HNE.out
              case measure => have := HG.out; omega
          · have HNE := Lib.hid (show ((tk, (ta, tb), tn) : TI) ≠ (xk, (xa, xb), xn) from fun e => q3 (by simp only [Prod.mk.injEq] at e; exact e.2.1.2))
            subst q1 q2
            have q4b : (xb == tb) = false := by rw [beq_eq_false_iff_ne]; exact fun e => q3 e.symm
            have q4c : ¬ xb = tb := fun e => q3 e.symm
            go_wp2_with fail
            go_region
            go_wp2_with fail
            go_roundg (l.length - (i + 1))
            case rel =>
              refine ⟨i + 1, by go_num, by omega, rfl, HB.out.trans ((drew_below wr).mono HB.out.size), fun i' a' hi' ha' => ?_⟩
              by_cases hik : i' < i
              · exact HALL.out i' a' hik ha'
              · obtain rfl : i' = i := by omega
                rw [HK.out] at ha'
                cases ha'
                exact HNE.out
            case measure => have := HG.out; omega
        · have HNE := Lib.hid (show ((tk, (ta, tb), tn) : TI) ≠ (xk, (xa, xb), xn) from fun e => q2 (by simp only [Prod.mk.injEq] at e; exact e.2.1.1))
          subst q1
          have q4b : (xa == ta) = false := by rw [beq_eq_false_iff_ne]; exact fun e => q2 e.symm
          have q4c : ¬ xa = ta := fun e => q2 e.symm
          go_wp2_with fail
          go_region
          go_wp2_with fail
          go_roundg (l.length - (i + 1))
          case rel =>
            refine ⟨i + 1, by go_num, by omega, rfl, HB.out.trans ((drew_below wr).mono HB.out.size), fun i' a' hi' ha' => ?_⟩
            by_cases hik : i' < i
            · exact HALL.out i' a' hik ha'
            · obtain rfl : i' = i := by omega
              rw [HK.out] at ha'
              cases ha'
              exact HNE.out
          case measure => have := HG.out; omega
      · have HNE := Lib.hid (show ((tk, (ta, tb), tn) : TI) ≠ (xk, (xa, xb), xn) from fun e => q1 (by simp only [Prod.mk.injEq] at e; exact e.1))
        have q4b : (xk == tk) = false := by rw [beq_eq_false_iff_ne]; exact fun e => q1 e.symm
        have q4c : ¬ xk = tk := fun e => q1 e.symm
        go_wp2_with fail
        go_region
        go_wp2_with fail
        go_roundg (l.length - (i + 1))
        case rel =>
          refine ⟨i + 1, by go_num, by omega, rfl, HB.out.trans ((drew_below wr).mono HB.out.size), fun i' a' hi' ha' => ?_⟩
          by_cases hik : i' < i
          · exact HALL.out i' a' hik ha'
          · obtain rfl : i' = i := by omega
            rw [HK.out] at ha'
            cases ha'
            exact HNE.out
        case measure => have := HG.out; omega
    · have hge : ¬ (i : Int) < (l.length : Int) := by omega
      obtain rfl : M = false := by
        refine HM.out.symm.trans ?_
        rw [List.contains_eq_mem, decide_eq_false_iff_not]
        intro hm
        obtain ⟨j, hj⟩ := List.getElem?_of_mem hm
        have := (List.getElem?_eq_some_iff.1 hj).1
        exact HALL.out j _ (by omega) hj rfl
      go_wp2
      go_ret
      exact ⟨-1, rfl, by first | rfl | decide, HB0.out.trans (HB.out.mono HB0.out.size)⟩
set_option maxHeartbeats 2000000 in
theorem Contains_tg (l : List TI) (v : Value) (x : TI) (w : World) (hrow : GRow 4 tiC w v l) (hl : l.length ≤ 1000000) :
    Calls Tryz.prog 12 #[v, tiV x] w fun e w' => e = .returned (.bool (l.contains x)) ∧ Below w.heap.size w w' := by
  have HI := Lib.hid (fun W (h : GRow 4 tiC W v l) => Index_tg l v x W h hl)
  obtain ⟨xk, ⟨xa, xb⟩, xn⟩ := x
  show Calls Tryz.prog 12 #[v, .agg #[.int .i64 xk, .string ⟨xa.toArray⟩, .string ⟨xb.toArray⟩, .string ⟨xn.toArray⟩]] w _
  have HB0 := Lib.hid (alloc_below w (.cells #[.int .i64 xk, .string ⟨xa.toArray⟩, .string ⟨xb.toArray⟩, .string ⟨xn.toArray⟩] 28))
  have HF := Lib.hid (Four4.made w (.int .i64 xk) (.string ⟨xa.toArray⟩) (.string ⟨xb.toArray⟩) (.string ⟨xn.toArray⟩) 28)
  have HROW := Lib.hid (hrow.below HB0.out)
  generalize l.contains (xk, (xa, xb), xn) = M at HI ⊢
  simp only [tiV, tiC] at HI
  clear hrow
  obtain ⟨⟨-, e0, e1, e2, e3⟩, -⟩ := HF.out
  go_enter Tryz.func12, Tryz.ntmps12
  go_wp2_with fail
  refine (HI.out _ HROW.out).mono ?_
  rintro e w2 ⟨i, rfl, hi, hb2⟩
  go_wp2
  go_ret
  subst hi
  exact ⟨rfl, HB0.out.trans (hb2.mono HB0.out.size)⟩
end Go.Proofs.YtkoncmmbdlnmfaaGreatDoor

/- A region that draws its order and ends in a store to a cell that it loads: a condition on the world that is asked up to that store alone. -/
namespace Go.Proofs.YtkoncmmbdlnmfaaGreatDoor
open Go
section
variable {P : Program} {ops : Array Oper} {Q : Exit → Act → World → Prop} {md : Region.Mode} {S : World → Prop} {m : Nat}

/-- Whatever order is picked from here on, and S holds behind every operation but number m. -/
def wpAnyM (P : Program) (md : Region.Mode) (ops : Array Oper) (Q : Exit → Act → World → Prop) (S : World → Prop) (m : Nat) : Nat → Array Bool → Act → World → Prop
  | 0, listed, a, w => Region.ready md ops listed = [] ∧ Q .normal a w
  | fuel + 1, listed, a, w =>
    (Region.ready md ops listed = [] → Q .normal a w) ∧
    ∀ i ∈ Region.ready md ops listed, wpOp P ops Q i (fun a' w' => (i ≠ m → S w') ∧ wpAnyM P md ops Q S m fuel (listed.setIfInBounds i true) a' w') a w
theorem wpAny_of_marked : ∀ (fuel : Nat) (listed : Array Bool) (a : Act) (w : World), wpAnyM P md ops Q S m fuel listed a w → wpAny P md ops Q fuel listed a w
  | 0, _, _, _, h => h
  | fuel + 1, _, _, _, h => ⟨h.1, fun i hi => wpOp_mono (fun a' w' h' => wpAny_of_marked fuel _ a' w' h'.2) (h.2 i hi)⟩
/-- operation m waits for operation i, at once or by others. -/
def waitsF (md : Region.Mode) (ops : Array Oper) : Nat → Nat → Nat → Bool
  | 0, _, _ => false
  | f + 1, m, i => match ops[m]? with
    | some o => o.after.any fun e => Region.binds md e && (e.on == i || waitsF md ops f e.on i)
    | none => false
def waits (md : Region.Mode) (ops : Array Oper) (m i : Nat) : Bool := waitsF md ops ops.size m i
/-- whatever is listed, those that it waits for are. -/
def Closed (md : Region.Mode) (ops : Array Oper) (listed : Array Bool) : Prop := ∀ k o, listed.getD k false = true → ops[k]? = some o → ∀ e ∈ o.after, Region.binds md e = true → listed.getD e.on false = true
def closedB (md : Region.Mode) (ops : Array Oper) (listed : Array Bool) : Bool := (List.range ops.size).all fun k => !listed.getD k false || match ops[k]? with
  | some o => o.after.all fun e => !Region.binds md e || listed.getD e.on false
  | none => true
theorem closed_of {listed : Array Bool} (h : closedB md ops listed = true) : Closed md ops listed := by
  intro k o hk ho e he hb
  have hlt : k < ops.size := (Array.getElem?_eq_some_iff.1 ho).1
  have := List.all_eq_true.1 h k (List.mem_range.2 hlt)
  rw [hk, ho] at this
  simp only [Bool.not_true, Bool.false_or] at this
  have := Array.all_eq_true_iff_forall_mem.1 this e he
  rw [hb] at this
  simpa using this
theorem Closed.set {listed : Array Bool} (h : Closed md ops listed) {j : Nat} (hj : j ∈ Region.ready md ops listed) : Closed md ops (listed.setIfInBounds j true) := by
  intro k o hk ho e he hb
  refine getD_set_true ?_
  by_cases e1 : j = k
  · subst e1
    obtain ⟨_, o', ho', hall⟩ := mem_ready.1 hj
    rw [ho] at ho'
    obtain rfl := Option.some.inj ho'
    exact hall e he hb
  · rw [getD_set_ne false e1] at hk
    exact h k o hk ho e he hb
theorem waits_listed {listed : Array Bool} (hc : Closed md ops listed) {i : Nat} : ∀ (f m : Nat), waitsF md ops f m i = true → (∀ o, ops[m]? = some o → ∀ e ∈ o.after, Region.binds md e = true → listed.getD e.on false = true) → listed.getD i false = true
  | 0, _, h, _ => by cases h
  | f + 1, m, h, hp => by
    unfold waitsF at h
    split at h
    · rename_i o ho
      obtain ⟨e, he, h2⟩ := Array.any_eq_true'.1 h
      rw [Bool.and_eq_true] at h2
      have h3 := hp o ho e he h2.1
      rcases (Bool.or_eq_true _ _).mp h2.2 with h4 | h4
      · rw [eq_of_beq h4] at h3; exact h3
      · exact waits_listed hc f e.on h4 (fun o ho => hc e.on o h3 ho)
    · cases h
theorem waits_spec {i : Nat} {listed : Array Bool} (hc : Closed md ops listed) (h : waits md ops m i = true) (hm : m ∈ Region.ready md ops listed) : listed.getD i false = true := by
  obtain ⟨_, o, ho, hall⟩ := mem_ready.1 hm
  exact waits_listed hc _ m h (fun o' ho' => by rw [ho] at ho'; obtain rfl := Option.some.inj ho'; exact hall)
theorem listed_not {i : Nat} {listed : Array Bool} (h0 : listed.getD i true = false) (h1 : listed.getD i false = true) : False := by
  rcases Nat.lt_or_ge i listed.size with h' | h'
  · simp [h'] at h0 h1; rw [h0] at h1; cases h1
  · simp [Array.getElem?_eq_none h'] at h1
theorem wpAnyM_first {i : Nat} {oi : Oper} {v : Value} (hi : ops[i]? = some oi) (hsel : ∀ (j : Nat) (o : Oper) cs b, ops[j]? = some o → o.op ≠ .select cs b)
    (hQ : ∀ c a w, Q (.panic c) (a.put oi.dst v) w → Q (.panic c) a w) (hmi : waits md ops m i = true) :
    ∀ (fuel : Nat) (listed : Array Bool) (a : Act) (w : World), Closed md ops listed →
      (∀ j oj, ops[j]? = some oj → j ≠ i → listed.getD j true = false → (∀ e ∈ oj.after, Region.binds md e = true → e.on ≠ i) → oi.apart ops oj = true) →
      i ∈ Region.ready md ops listed → YieldsIf P ops S oi v a → S w →
      wpAnyM P md ops Q S m fuel (listed.setIfInBounds i true) (a.put oi.dst v) w → wpAnyM P md ops Q S m (fuel + 1) listed a w := by
  intro fuel
  induction fuel with
  | zero =>
    intro listed a w _ _ hr hy hS H
    refine ⟨fun h => (by rw [h] at hr; cases hr), fun j hj => ?_⟩
    by_cases hji : j = i
    · subst hji; exact hy.wpOp hi hS ⟨fun _ => hS, H⟩
    · have := ready_mono hj hji
      rw [H.1] at this
      cases this
  | succ fuel ih =>
    intro listed a w hc hfree hr hy hS H
    refine ⟨fun h => (by rw [h] at hr; cases hr), fun j hj => ?_⟩
    by_cases hji : j = i
    · subst hji; exact hy.wpOp hi hS ⟨fun _ => hS, H⟩
    · have hjm : j ≠ m := fun e => by subst e; exact listed_not (mem_ready.1 hr).1 (waits_spec hc hmi hj)
      have h1 := H.2 j (ready_mono hj hji)
      obtain ⟨hjun, oj, hoj, hall⟩ := mem_ready.1 hj
      have hnot : ∀ e ∈ oj.after, Region.binds md e = true → e.on ≠ i := fun e he hb heq => by
        have h1 := hall e he hb
        rw [heq] at h1
        exact listed_not (mem_ready.1 hr).1 h1
      have h2 := wpOp_putIf hoj (hfree j oj hoj hji hjun hnot) (fun cs b => hsel i oi cs b hi) (fun cs b => hsel j oj cs b hoj) hQ hy h1
      have hfree' : ∀ k ok, ops[k]? = some ok → k ≠ i → (listed.setIfInBounds j true).getD k true = false →
          (∀ e ∈ ok.after, Region.binds md e = true → e.on ≠ i) → oi.apart ops ok = true := fun k ok hk hki hun hno => by
        refine hfree k ok hk hki ?_ hno
        by_cases hjk : j = k
        · subst hjk; exact hjun
        · rw [getD_set_ne true hjk] at hun; exact hun
      refine wpOp_mono (fun a' w' h3 => ⟨h3.2.1, ih (listed.setIfInBounds j true) a' w' (hc.set hj) hfree' (ready_mono hr (Ne.symm hji)) h3.1 (h3.2.1 hjm) ?_⟩) h2
      rw [Array.setIfInBounds_comm _ _ hji]
      exact h3.2.2
theorem wpAnyM_take {i : Nat} {oi : Oper} {v : Value} {fuel : Nat} {listed : Array Bool} {a : Act} {w : World} (hi : ops[i]? = some oi)
    (hs : Region.noSelect ops = true) (hf : Region.free md ops listed i = true) (hr : (Region.ready md ops listed).contains i = true)
    (hQ : ∀ c a w, Q (.panic c) (a.put oi.dst v) w → Q (.panic c) a w) (hm : waits md ops m i = true) (hc : closedB md ops listed = true) (hy : YieldsIf P ops S oi v a) (hS : S w)
    (h : wpAnyM P md ops Q S m fuel (listed.setIfInBounds i true) (a.put oi.dst v) w) : wpAnyM P md ops Q S m (fuel + 1) listed a w :=
  wpAnyM_first hi (Region.noSelect_spec hs) hQ hm fuel listed a w (closed_of hc) (Region.free_spec hi hf) (by simpa using hr) hy hS h
/-- one operation alone may come up. -/
theorem wpAnyM_one {i : Nat} {o : Oper} {fuel : Nat} {listed : Array Bool} {a : Act} {w : World} (ho : ops[i]? = some o) (hr : Region.ready md ops listed = [i])
    (h : ∀ K' : Act → World → Prop, Shut (∀ a w, (i ≠ m → S w) → ((i ≠ m → S w) → wpAnyM P md ops Q S m fuel (listed.setIfInBounds i true) a w) → K' a w) → if Region.wanted o (yielded ops a.tmps) = true then Oper.wp P o a w K' Q else K' (a.put o.dst undef) w) :
    wpAnyM P md ops Q S m (fuel + 1) listed a w :=
  ⟨fun h0 => (by rw [hr] at h0; cases h0), fun j hj => by
    rw [hr] at hj
    obtain rfl : j = i := by simpa using hj
    exact wpOp_step ho (fun K' hK => h K' (fun a w hS hW => hK a w ⟨hS, hW hS⟩))⟩
theorem wpAnyM_done {listed : Array Bool} {a : Act} {w : World} (hr : Region.ready md ops listed = []) (h : Q .normal a w) :
    ∀ fuel, wpAnyM P md ops Q S m fuel listed a w
  | 0 => ⟨hr, h⟩
  | _ + 1 => ⟨fun _ => h, by rw [hr]; simp⟩
theorem wp_region_marked {id : Nat} {a : Act} {w : World} (m : Nat) (hm : P.follows .mixedOrders = true) (hS : S w.drew)
    (h : S w.drew → wpAnyM P .any ops Q S m ops.size (Array.replicate ops.size false) a w.drew) : (Code.region id ops true).wp P Q a w :=
  wp_region_any hm (wpAny_of_marked _ _ _ _ (h hS))
end
end Go.Proofs.YtkoncmmbdlnmfaaGreatDoor

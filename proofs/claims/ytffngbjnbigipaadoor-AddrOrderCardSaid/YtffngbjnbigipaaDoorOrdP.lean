/- PROVED: AddrOrder returns true for every three addresses, and they read behind the call as they read before. CONDITIONS: those of the row and no others: the listed package-level variables read as listed (the card ties that to the program's text). -/
import Derived.Test.YtffngbjnbigipaaDoorOrdW
import Derived.Test.YtffngbjnbigipaaDoorLaid
import Derived.Test.YtffngbjnbigipaaDoorCards
import Derived.Test.YtffngbjnbigipaaDoorTie
import Derived.SevenTiedAt
namespace Go.Proofs.YtffngbjnbigipaaDoor
open Go.ChangeShapes Go.WideShapes Go.ChangeAt Go.RowKit Go.Lib
open Go.ChangeMaps (open_string shut_string)
set_option maxRecDepth 100000

theorem cell_str {W : World} {base : Nat} {v : Value} (h : Cell.okWide Tryd.prog W .any base 9 v) : ∃ s : ByteArray, v = .string s ∧ s.size ≤ 9223372036854775807 := by
  have hm : IntKind.i64.max = 9223372036854775807 := rfl
  simp only [Cell.okWide, Tryd.underlying9] at h
  cases v <;> simp_all [Cell.ok, Tryd.underlying9]
  omega
/-- three addresses that come in: six texts. -/
theorem six_open {W : World} {base : Nat} {v : Value} (h : Value.okWide Tryd.prog W .any base 36 v) : ∃ X0 Y0 X1 Y1 X2 Y2 : ByteArray, v = .agg #[.string X0, .string Y0, .string X1, .string Y1, .string X2, .string Y2] ∧
    X0.size ≤ 9223372036854775807 ∧ Y0.size ≤ 9223372036854775807 ∧ X1.size ≤ 9223372036854775807 ∧ Y1.size ≤ 9223372036854775807 ∧ X2.size ≤ 9223372036854775807 ∧ Y2.size ≤ 9223372036854775807 := by
  simp only [Value.okWide, Tryd.underlying36] at h
  obtain ⟨cs, rfl, hsz, ts, hts, _, hall⟩ := h
  have hc6 : Tryd.prog.cellsOf 36 = 6 := by kernel_rfl
  have ht6 : Tryd.prog.cellTypes Tryd.prog.depth 36 = some [9, 9, 9, 9, 9, 9] := by kernel_rfl
  rw [hc6] at hsz
  obtain rfl := Option.some.inj (ht6.symm.trans hts)
  have hi : ∀ i (h : i < 6), ∃ s : ByteArray, cs[i]? = some (.string s) ∧ s.size ≤ 9223372036854775807 := by
    intro i hi
    have hlt : i < cs.size := by omega
    obtain ⟨u, hu, hk⟩ := hall i cs[i] (Array.getElem?_eq_getElem hlt)
    have hu9 : u = 9 := by
      have : i = 0 ∨ i = 1 ∨ i = 2 ∨ i = 3 ∨ i = 4 ∨ i = 5 := by omega
      rcases this with rfl | rfl | rfl | rfl | rfl | rfl <;> simpa using hu.symm
    subst hu9
    obtain ⟨s, hs, hz⟩ := cell_str hk
    exact ⟨s, by rw [Array.getElem?_eq_getElem hlt, hs], hz⟩
  obtain ⟨s0, e0, z0⟩ := hi 0 (by decide)
  obtain ⟨s1, e1, z1⟩ := hi 1 (by decide)
  obtain ⟨s2, e2, z2⟩ := hi 2 (by decide)
  obtain ⟨s3, e3, z3⟩ := hi 3 (by decide)
  obtain ⟨s4, e4, z4⟩ := hi 4 (by decide)
  obtain ⟨s5, e5, z5⟩ := hi 5 (by decide)
  refine ⟨s0, s1, s2, s3, s4, s5, ?_, z0, z1, z2, z3, z4, z5⟩
  congr 1
  apply Array.ext_getElem?
  intro i
  by_cases h : i < 6
  · have : i = 0 ∨ i = 1 ∨ i = 2 ∨ i = 3 ∨ i = 4 ∨ i = 5 := by omega
    rcases this with rfl | rfl | rfl | rfl | rfl | rfl
    · exact e0
    · exact e1
    · exact e2
    · exact e3
    · exact e4
    · exact e5
  · rw [Array.getElem?_eq_none (by omega), Array.getElem?_eq_none (by simp; omega)]
theorem addrOrder_lifted (os : Os) (started : os.Started) (H : Type) (enc : TypeId × Value → H) :
    ReturnsInHanded {} Tryd.checked os 4 .any (fun w args => (Rows.addrOrderSpec.pre enc Tryd.prog Tryd.f4 [] false w args ∧ laidMetH Tryd.prog Rows.addrOrderRow.laid w) ∧ sizedMet enc Tryd.prog Tryd.f4 (OpenSpec.ofChange Rows.addrOrderSpec) false w args)
      (Rows.addrOrderSpec.post enc Tryd.prog Tryd.f4 false true false false) := by
  refine returnsInHanded_of_calls (C := Tryd.checked) ownK started (by kernel_rfl)
    (ChangeSpec.witness_shaped (enc := enc) (C := Tryd.checked) (os := os) (X := fun w _ => laidMetH Tryd.prog Rows.addrOrderRow.laid w) false (laidWorld os) #[.agg #[.string ⟨#[]⟩, .string ⟨#[]⟩, .string ⟨#[]⟩, .string ⟨#[]⟩, .string ⟨#[]⟩, .string ⟨#[]⟩]] 8 rfl (World.shaped_of_RefB (by kernel_rfl) (by kernel_rfl)) (by kernel_rfl) (by kernel_rfl) (by kernel_rfl) (laid_met os _)) ?_
  intro w tape i _ hsh _ hok hpre _
  obtain ⟨_, _, _, fn', hfn', _, _, _, _, hval0⟩ := hok
  obtain rfl : fn' = Tryd.f4 := Option.some.inj (hfn'.symm.trans Tryd.func4)
  obtain ⟨⟨⟨ds, gs, before, hw0, _⟩, hx⟩, hz⟩ := hpre
  have hW : DataW.Whole enc Tryd.prog Tryd.f4.params.toList _ false (w.forCall tape i) i.args.toList ds gs before := DataW.Whole.of_heap (w' := w.forCall tape i) (by rfl) hw0
  have hL : laidMetH Tryd.prog Rows.addrOrderRow.laid (w.forCall tape i) := hx.of_heap (by rfl)
  have hsz := hz.weights hw0
  have hE : Env (w.forCall tape i) := env_of hL hsh
  suffices hmain : Calls Tryd.prog 4 i.args (w.forCall tape i) fun e W' => ∃ v, e = .returned v ∧ Rows.addrOrderSpec.post enc Tryd.prog Tryd.f4 false true false false (w.forCall tape i) i.args v W' from
    hmain.mono fun e W' ⟨v, he, hp⟩ => by
      subst he
      exact ChangeSpec.post_blind hp
  have hval : ∀ (j : Nat) t v, Tryd.f4.params[j]? = some t → i.args[j]? = some v → Value.okWide Tryd.prog (w.forCall tape i) .any w.heap.size t v := hval0
  generalize w.forCall tape i = W at hW hval hE ⊢
  generalize i.args = args at hW hval hsz ⊢
  have hW' := hW
  obtain ⟨p, q, hA0, hV, rfl, hfz, hnd⟩ := hW
  have hA : DataW.TrodAll enc Tryd.prog W 0 (fun _ => true) true Tryd.f4.params.toList args.toList ds p := hA0
  rw [Tryd.params4] at hA hval
  obtain ⟨v0, d0, rfl, rfl, h0⟩ := trodAll_one hA
  obtain ⟨rfl, rfl⟩ := trodVars_none hV
  obtain ⟨X0, Y0, X1, Y1, X2, Y2, rfl, z0, z1, z2, z3, z4, z5⟩ := six_open (hval 0 36 v0 rfl rfl)
  have hlt : ∀ x ∈ p, x.block < W.heap.size := by
    intro x hx
    exact hW'.lt x (by simp [hx])
  clear hA0 hval0
  simp only [List.append_nil] at hW'
  refine (order_any X0 Y0 X1 Y1 X2 Y2 z0 z1 z2 z3 z4 z5 W hE).mono fun e W' ⟨he, bel⟩ => ?_
  subst he
  exact ⟨_, rfl, _, _, _, [], _, [], hW', trodAll_mk1 (shut_bool Tryd.underlying4 _), trodAll_mk1 (Below.trod laidOutK (by kernel_rfl) (by decide +kernel) h0 bel hlt), rfl, bel.frame _, fun h => by cases h⟩

theorem addrOrder_holds : Rows.AddrOrderSaid :=
  OpenClaim.holds_of_wide 4 Tryd.f4 rfl rfl rfl rfl rfl rfl rfl ⟨rfl, rfl, rfl, rfl, rfl⟩ rfl rfl rfl rfl rfl (by kernel_rfl) Tryd.func4 (by kernel_rfl)
    (of_decide_eq_true (by kernel_rfl)) (by unfold Func.isWrapper; first | (rw [if_pos (by decide +kernel)]; kernel_rfl) | (rw [if_neg (by decide +kernel)]; exact ⟨rfl, rfl⟩))
    (fun os started H enc _ => addrOrder_lifted os started H enc)

theorem AddrOrder_card : Rows.AddrOrderCardSaid :=
  Claim7.holds_tied_plain_at .later [] [.data, .data, .data, .data, .data, .pinned] true (true, "9a97f6ce9ace6f467325ff305d530a68d7c4b3563974800b2e6ee84e2ac5bb7a") false
    addrOrder_holds (fun _ h => by cases h) (by kernel_rfl) (fun _ h => by cases h) addrOrder_row_tie rfl ⟨rfl, rfl⟩ (by kernel_rfl) rfl
    (fun f fn hf hfn => by
      obtain rfl : f = 4 := Option.some.inj ((show Tryd.prog.funcNamed "postrider/postriderlaw05.AddrOrder" = some 4 by kernel_rfl).symm.trans hf) |>.symm
      obtain rfl : fn = Tryd.f4 := (Option.some.inj (Tryd.func4.symm.trans hfn)).symm
      exact ⟨by kernel_rfl, fun j t ht => by
        rw [Tryd.params4] at ht
        have hm : t ∈ [36] := by simpa using Array.mem_of_getElem? ht
        have hall : ([36].all fun u => !Tryd.prog.wantsStandIn u) = true := by kernel_rfl
        exact (show Tryd.prog.wantsStandIn t = false by simpa using List.all_eq_true.1 hall t hm)⟩)
    (by kernel_rfl)
#print axioms AddrOrder_card
end Go.Proofs.YtffngbjnbigipaaDoor

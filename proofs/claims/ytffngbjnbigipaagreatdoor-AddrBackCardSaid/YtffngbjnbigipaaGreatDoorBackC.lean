/- PROVED: AddrBack returns true for every two addresses and every text, and they read behind the call as it read before. CONDITIONS: those of the row and no others: the listed package-level variables read as listed (the card ties that to the program's text). -/
import Derived.Test.YtffngbjnbigipaaGreatDoorBackW
import Derived.Test.YtffngbjnbigipaaGreatDoorLaidT
import Derived.Test.YtffngbjnbigipaaGreatDoorCards
import Derived.Test.YtffngbjnbigipaaGreatDoorTie
import Derived.SevenTiedAt
namespace Go.Proofs.YtffngbjnbigipaaGreatDoor
open Go.ChangeShapes Go.WideShapes Go.ChangeAt Go.RowKit Go.Lib
open Go.ChangeMaps (open_string shut_string)
set_option maxRecDepth 100000

theorem cell_str {W : World} {base : Nat} {v : Value} (h : Cell.okWide Tryz.prog W .any base 9 v) : ∃ s : ByteArray, v = .string s ∧ s.size ≤ 9223372036854775807 := by
  have hm : IntKind.i64.max = 9223372036854775807 := rfl
  simp only [Cell.okWide, Tryz.underlying9] at h
  cases v <;> simp_all [Cell.ok, Tryz.underlying9]
  omega
/-- an address that comes in: two texts. -/
theorem two_open {W : World} {base : Nat} {v : Value} (h : Value.okWide Tryz.prog W .any base 30 v) : ∃ X0 Y0 : ByteArray, v = .agg #[.string X0, .string Y0] ∧ X0.size ≤ 9223372036854775807 ∧ Y0.size ≤ 9223372036854775807 := by
  simp only [Value.okWide, Tryz.underlying30] at h
  obtain ⟨cs, rfl, hsz, ts, hts, _, hall⟩ := h
  have hc6 : Tryz.prog.cellsOf 30 = 2 := by kernel_rfl
  have ht6 : Tryz.prog.cellTypes Tryz.prog.depth 30 = some [9, 9] := by kernel_rfl
  rw [hc6] at hsz
  obtain rfl := Option.some.inj (ht6.symm.trans hts)
  have hi : ∀ i (h : i < 2), ∃ s : ByteArray, cs[i]? = some (.string s) ∧ s.size ≤ 9223372036854775807 := by
    intro i hi
    have hlt : i < cs.size := by omega
    obtain ⟨u, hu, hk⟩ := hall i cs[i] (Array.getElem?_eq_getElem hlt)
    have hu9 : u = 9 := by
      have : i = 0 ∨ i = 1 := by omega
      rcases this with rfl | rfl <;> simpa using hu.symm
    subst hu9
    obtain ⟨s, hs, hz⟩ := cell_str hk
    exact ⟨s, by rw [Array.getElem?_eq_getElem hlt, hs], hz⟩
  obtain ⟨s0, e0, z0⟩ := hi 0 (by decide)
  obtain ⟨s1, e1, z1⟩ := hi 1 (by decide)
  refine ⟨s0, s1, ?_, z0, z1⟩
  congr 1
  apply Array.ext_getElem?
  intro i
  by_cases h : i < 2
  · have : i = 0 ∨ i = 1 := by omega
    rcases this with rfl | rfl
    · exact e0
    · exact e1
  · rw [Array.getElem?_eq_none (by omega), Array.getElem?_eq_none (by simp; omega)]
theorem addrBack_lifted (os : Os) (started : os.Started) (H : Type) (enc : TypeId × Value → H) :
    ReturnsInHanded {} Tryz.checked os 10 .any (fun w args => (Rows.addrBackSpec.pre enc Tryz.prog Tryz.f10 [] false w args ∧ laidMetH Tryz.prog Rows.addrBackRow.laid w) ∧ sizedMet enc Tryz.prog Tryz.f10 (OpenSpec.ofChange Rows.addrBackSpec) false w args)
      (Rows.addrBackSpec.post enc Tryz.prog Tryz.f10 false true false false) := by
  refine returnsInHanded_of_calls (C := Tryz.checked) ownK started (by kernel_rfl)
    (ChangeSpec.witness_shaped (enc := enc) (C := Tryz.checked) (os := os) (X := fun w _ => laidMetH Tryz.prog Rows.addrBackRow.laid w) false (laidWorldT os) #[.agg #[.string ⟨#[]⟩, .string ⟨#[]⟩], .agg #[.string ⟨#[]⟩, .string ⟨#[]⟩], .string ⟨#[]⟩] 8 rfl (World.shaped_of_RefB (by kernel_rfl) (by kernel_rfl)) (by kernel_rfl) (by kernel_rfl) (by kernel_rfl) (laid_metT os _)) ?_
  intro w tape i _ hsh _ hok hpre _
  obtain ⟨_, _, _, fn', hfn', _, _, _, _, hval0⟩ := hok
  obtain rfl : fn' = Tryz.f10 := Option.some.inj (hfn'.symm.trans Tryz.func10)
  obtain ⟨⟨⟨ds, gs, before, hw0, _⟩, hx⟩, hz⟩ := hpre
  have hW : DataW.Whole enc Tryz.prog Tryz.f10.params.toList _ false (w.forCall tape i) i.args.toList ds gs before := DataW.Whole.of_heap (w' := w.forCall tape i) (by rfl) hw0
  have hL : laidMetH Tryz.prog Rows.addrBackRow.laid (w.forCall tape i) := hx.of_heap (by rfl)
  have hsz := hz.weights hw0
  have hE : Env (w.forCall tape i) := env_ofT hL hsh
  suffices hmain : Calls Tryz.prog 10 i.args (w.forCall tape i) fun e W' => ∃ v, e = .returned v ∧ Rows.addrBackSpec.post enc Tryz.prog Tryz.f10 false true false false (w.forCall tape i) i.args v W' from
    hmain.mono fun e W' ⟨v, he, hp⟩ => by
      subst he
      exact ChangeSpec.post_blind hp
  have hval : ∀ (j : Nat) t v, Tryz.f10.params[j]? = some t → i.args[j]? = some v → Value.okWide Tryz.prog (w.forCall tape i) .any w.heap.size t v := hval0
  generalize w.forCall tape i = W at hW hval hE ⊢
  generalize i.args = args at hW hval hsz ⊢
  have hW' := hW
  obtain ⟨p, q, hA0, hV, rfl, hfz, hnd⟩ := hW
  have hA : DataW.TrodAll enc Tryz.prog W 0 (fun _ => true) true Tryz.f10.params.toList args.toList ds p := hA0
  rw [Tryz.params10] at hA hval
  obtain ⟨v0, v1, v2, d0, d1, d2, p0, p1, p2, rfl, rfl, rfl, h0, h1, h2⟩ := trodAll_three hA
  obtain ⟨rfl, rfl⟩ := trodVars_none hV
  obtain ⟨X1, Y1, rfl, z1, z2⟩ := two_open (hval 0 30 v0 rfl rfl)
  obtain ⟨X2, Y2, rfl, z3, z4⟩ := two_open (hval 1 30 v1 rfl rfl)
  obtain ⟨s0, rfl, rfl, rfl, hs0⟩ := open_string Tryz.underlying9 (hval 2 9 v2 rfl rfl) h2
  have hlt1 : ∀ x ∈ p0, x.block < W.heap.size := by
    intro x hx
    exact hW'.lt x (by simp [hx])
  have hlt2 : ∀ x ∈ p1, x.block < W.heap.size := by
    intro x hx
    exact hW'.lt x (by simp [hx])
  clear hA0 hval0
  simp only [List.append_nil] at hW'
  refine (back_any X1 Y1 X2 Y2 s0 z1 z2 z3 z4 hs0 W hE).mono fun e W' ⟨he, bel⟩ => ?_
  subst he
  exact ⟨_, rfl, _, _, _, [], _, [], hW', trodAll_mk1 (shut_bool Tryz.underlying4 _), trodAll_mk3 (Below.trod laidOutK (by kernel_rfl) (by decide +kernel) h0 bel hlt1) (Below.trod laidOutK (by kernel_rfl) (by decide +kernel) h1 bel hlt2) (shut_string Tryz.underlying9 hs0), rfl, bel.frame _, fun h => by cases h⟩

theorem addrBack_holds : Rows.AddrBackSaid :=
  OpenClaim.holds_of_wide 10 Tryz.f10 rfl rfl rfl rfl rfl rfl rfl ⟨rfl, rfl, rfl, rfl, rfl⟩ rfl rfl rfl rfl rfl (by kernel_rfl) Tryz.func10 (by kernel_rfl)
    (of_decide_eq_true (by kernel_rfl)) (by unfold Func.isWrapper; first | (rw [if_pos (by decide +kernel)]; kernel_rfl) | (rw [if_neg (by decide +kernel)]; exact ⟨rfl, rfl⟩))
    (fun os started H enc _ => addrBack_lifted os started H enc)

theorem AddrBack_card : Rows.AddrBackCardSaid :=
  Claim7.holds_tied_plain_at .later [] [.data, .data, .data, .data, .data, .data, .data, .pinned, .pinned] true (true, "336dd88d317992637c557e8348d3e7ed0396774635fc71b6e363a451789e8b68") false
    addrBack_holds (fun _ h => by cases h) (by kernel_rfl) (fun _ h => by cases h) addrBack_row_tie rfl ⟨rfl, rfl⟩ (by kernel_rfl) rfl
    (fun f fn hf hfn => by
      obtain rfl : f = 10 := Option.some.inj ((show Tryz.prog.funcNamed "postrider/postriderlaw05.AddrBack" = some 10 by kernel_rfl).symm.trans hf) |>.symm
      obtain rfl : fn = Tryz.f10 := (Option.some.inj (Tryz.func10.symm.trans hfn)).symm
      exact ⟨by kernel_rfl, fun j t ht => by
        rw [Tryz.params10] at ht
        have hm : t ∈ ([30, 30, 9] : List TypeId) := by simpa using Array.mem_of_getElem? ht
        have hall : ([30, 30, 9].all fun u => !Tryz.prog.wantsStandIn u) = true := by kernel_rfl
        exact (show Tryz.prog.wantsStandIn t = false by simpa using List.all_eq_true.1 hall t hm)⟩)
    (by kernel_rfl)
#print axioms AddrBack_card
end Go.Proofs.YtffngbjnbigipaaGreatDoor

/- PROVED: ListMoves returns true for every text and every row of addresses, and they read behind the call as they read before. CONDITIONS: those of the row and no others: the listed package-level variables read as listed (the card ties that to the program's text). -/
import Derived.Test.YtffngbjnbigipaaGreatDoorMoveW
import Derived.Test.YtffngbjnbigipaaGreatDoorLaid
import Derived.Test.YtffngbjnbigipaaGreatDoorCards
import Derived.Test.YtffngbjnbigipaaGreatDoorTie
import Derived.SevenTiedAt
import Derived.Deep.SlicePairs
namespace Go.Proofs.YtffngbjnbigipaaGreatDoor
open Go.ChangeShapes Go.WideShapes Go.ChangeAt Go.RowKit Go.Lib
open Go.ChangeMaps (open_string shut_string)
set_option maxRecDepth 100000

/-- a row of addresses that comes in. -/
theorem in_row {H : Type} {enc : TypeId × Value → H} {W : World} {base : Nat} {v : Value} {d : DataW H} {ps : List MemPlace} (hv : Value.okWide Tryz.prog W .any base 48 v)
    (h : DataW.Trod enc Tryz.prog W 0 (fun _ => true) true 48 v d ps) : ∃ m X Y, InRow W v m X Y ∧ m ≤ 9223372036854775807 ∧ ∃ p cap, v = .slice p m cap ∧ m ≤ cap ∧ (p = none → m = 0) := by
  simp only [Value.okWide, Tryz.underlying48] at hv
  obtain ⟨fuel, h⟩ := h
  cases v with
  | slice p len cap =>
    cases p with
    | none =>
      simp only [Cell.okWide, Cell.ok, Tryz.underlying48] at hv
      have h0 : len = 0 := by
        rcases Nat.eq_zero_or_pos len with h0 | h0
        · exact h0
        · exfalso
          split at hv <;> simp_all
      subst h0
      exact ⟨0, fun _ => ⟨#[]⟩, fun _ => ⟨#[]⟩, ⟨none, cap, rfl, .inl rfl⟩, Nat.zero_le _, none, cap, rfl, Nat.zero_le _, fun _ => rfl⟩
    | some a =>
      simp only [Cell.okWide, Cell.ok, Tryz.underlying48] at hv
      obtain ⟨hlc, hcm, hhas⟩ := hv
      have hsp : a.spot = none := hhas.2.1
      obtain ⟨b, o, sp⟩ := a
      simp only at hsp
      subst hsp
      have hmx : IntKind.i64.max = 9223372036854775807 := rfl
      have h' : DataW.trod enc Tryz.prog W 0 (fun _ => true) true fuel 48 [.slice (some ⟨b, o, none⟩) len cap] = some (d, ps) := h
      rcases Go.Deep.open_slice_pairs Tryz.underlying48 Tryz.underlying30 (by kernel_rfl) rfl rfl (by kernel_rfl) (by kernel_rfl) h' with ⟨hc, hx⟩ | ⟨a, len', cap', m, k, V0, V1, D0, D1, P0, P1, hc, _, hl, hmm, hmx', hx, hall⟩
      · cases hc
      · simp only [List.cons.injEq, Value.slice.injEq, Option.some.injEq, and_true] at hc
        obtain ⟨rfl, rfl, rfl⟩ := hc
        have hlm : len ≤ m := by rw [hmx']; simp; omega
        refine ⟨len, fun i => match V0 i with | .string s => s | _ => ⟨#[]⟩, fun i => match V1 i with | .string s => s | _ => ⟨#[]⟩, ⟨_, cap, rfl, .inr ⟨b, o, rfl, fun i hi => ?_⟩⟩, by omega, some ⟨b, o, none⟩, cap, rfl, hlc, fun e => by cases e⟩
        obtain ⟨c0, c1, t0, t1⟩ := hall i (by omega)
        obtain ⟨x, e0, _, z0⟩ := DataW.trod_string Tryz.underlying9 t0
        obtain ⟨y, e1, _, z1⟩ := DataW.trod_string Tryz.underlying9 t1
        simp only [List.cons.injEq, and_true] at e0 e1
        have hadd : ∀ j, (⟨b, o, none⟩ : Addr).add j = ⟨b, o + j, none⟩ := fun j => by unfold Addr.add; split <;> simp_all
        rw [hadd] at c0 c1
        refine ⟨?_, ?_, ?_, ?_⟩
        · rw [c0]; simp only [e0]
        · rw [Nat.add_assoc, c1]; simp only [e1]
        · simp only [e0]; exact z0
        · simp only [e1]; exact z1
  | _ => simp [Cell.okWide, Cell.ok, Tryz.underlying48] at hv
theorem tabs_of {W : World} (hL : laidMetH Tryz.prog [("math/bits.deBruijn32tab", Rows.laid_math_bits_deBruijn32tab), ("math/bits.deBruijn64tab", Rows.laid_math_bits_deBruijn64tab), ("internal/strconv.uint64pow10", Rows.laid_internal_strconv_uint64pow10), ("unicode/utf8.acceptRanges", Rows.laid_unicode_utf8_acceptRanges), ("postrider/text.atext", Rows.laid_postrider_text_atext), ("unicode/utf8.first", Rows.laid_unicode_utf8_first)] W) : Lib.Utf8Tabs 4 5 W := by
  rw [MakeChecks.laidMetH_plain _ _ _ (by kernel_rfl)] at hL
  have e1 : (Rows.laid_unicode_utf8_first : DataW Unit) = firstData := by kernel_rfl
  have e2 : (Rows.laid_unicode_utf8_acceptRanges : DataW Unit) = acceptData := by kernel_rfl
  have h1 := laidMet.reads hL (.tail _ (.tail _ (.tail _ (.tail _ (.tail _ (.head _))))))
  have h2 := laidMet.reads hL (.tail _ (.tail _ (.tail _ (.head _))))
  rw [e1] at h1
  rw [e2] at h2
  exact utf8Tabs_of_reads Tryz.lays260 ⟨by kernel_rfl, by kernel_rfl, by kernel_rfl, by kernel_rfl, by kernel_rfl, by kernel_rfl, by kernel_rfl⟩ h1 h2
theorem listMoves_lifted (os : Os) (started : os.Started) (H : Type) (enc : TypeId × Value → H) :
    ReturnsInHanded {} Tryz.checked os 8 .any (fun w args => (Rows.listMovesSpec.pre enc Tryz.prog Tryz.f8 [] false w args ∧ laidMetH Tryz.prog Rows.listMovesRow.laid w) ∧ sizedMet enc Tryz.prog Tryz.f8 (OpenSpec.ofChange Rows.listMovesSpec) false w args)
      (Rows.listMovesSpec.post enc Tryz.prog Tryz.f8 false true false false) := by
  refine returnsInHanded_of_calls (C := Tryz.checked) ownK started (by kernel_rfl)
    (ChangeSpec.witness_shaped (enc := enc) (C := Tryz.checked) (os := os) (X := fun w _ => laidMetH Tryz.prog Rows.listMovesRow.laid w) false (laidWorld os) #[.string ⟨#[]⟩, .slice none 0 0] 8 rfl (World.shaped_of_RefB (by kernel_rfl) (by kernel_rfl)) (by kernel_rfl) (by kernel_rfl) (by kernel_rfl) (laid_met os _)) ?_
  intro w tape i _ hsh _ hok hpre _
  obtain ⟨_, _, _, fn', hfn', _, _, _, _, hval0⟩ := hok
  obtain rfl : fn' = Tryz.f8 := Option.some.inj (hfn'.symm.trans Tryz.func8)
  obtain ⟨⟨⟨ds, gs, before, hw0, _⟩, hx⟩, hz⟩ := hpre
  have hW : DataW.Whole enc Tryz.prog Tryz.f8.params.toList _ false (w.forCall tape i) i.args.toList ds gs before := DataW.Whole.of_heap (w' := w.forCall tape i) (by rfl) hw0
  have hL : laidMetH Tryz.prog Rows.listMovesRow.laid (w.forCall tape i) := hx.of_heap (by rfl)
  have hsz := hz.weights hw0
  have hE : Env (w.forCall tape i) := env_of hL hsh
  have hT : Lib.Utf8Tabs 4 5 (w.forCall tape i) := tabs_of hL
  suffices hmain : Calls Tryz.prog 8 i.args (w.forCall tape i) fun e W' => ∃ v, e = .returned v ∧ Rows.listMovesSpec.post enc Tryz.prog Tryz.f8 false true false false (w.forCall tape i) i.args v W' from
    hmain.mono fun e W' ⟨v, he, hp⟩ => by
      subst he
      exact ChangeSpec.post_blind hp
  have hval : ∀ (j : Nat) t v, Tryz.f8.params[j]? = some t → i.args[j]? = some v → Value.okWide Tryz.prog (w.forCall tape i) .any w.heap.size t v := hval0
  generalize w.forCall tape i = W at hW hval hE hT ⊢
  generalize i.args = args at hW hval hsz ⊢
  have hW' := hW
  obtain ⟨p, q, hA0, hV, rfl, hfz, hnd⟩ := hW
  have hA : DataW.TrodAll enc Tryz.prog W 0 (fun _ => true) true Tryz.f8.params.toList args.toList ds p := hA0
  rw [Tryz.params8] at hA hval
  obtain ⟨v0, v1, d0, d1, p0, p1, rfl, rfl, rfl, h0, h1⟩ := trodAll_two hA
  obtain ⟨rfl, rfl⟩ := trodVars_none hV
  have hsz' : (DataW.weightsEach Tryz.prog ([9, 48] ++ []) ([d0, d1] ++ [])).all (· ≤ reachBytes) = true := hsz
  obtain ⟨s0, rfl, rfl, rfl, hs0⟩ := open_string Tryz.underlying9 (hval 0 9 v0 rfl rfl) h0
  have hss0 := sized_string hsz' (j := 0) rfl rfl
  obtain ⟨m, X, Y, hin, hm, hcap⟩ := in_row (hval 1 48 v1 rfl rfl) h1
  have hlt : ∀ x ∈ p1, x.block < W.heap.size := by
    intro x hx
    exact hW'.lt x (by simp [hx])
  clear hA0 hval0
  simp only [List.append_nil] at hW'
  refine (moves_any s0 (by simpa [reachBytes] using hss0) v1 m X Y W hin hm hcap hE hT).mono fun e W' ⟨he, bel⟩ => ?_
  subst he
  exact ⟨_, rfl, _, _, _, [], _, [], hW', trodAll_mk1 (shut_bool Tryz.underlying4 _), trodAll_mk2 (shut_string Tryz.underlying9 hs0) (Below.trod laidOutK (by kernel_rfl) (by decide +kernel) h1 bel hlt), rfl, bel.frame _, fun h => by cases h⟩

theorem listMoves_holds : Rows.ListMovesSaid :=
  OpenClaim.holds_of_wide 8 Tryz.f8 rfl rfl rfl rfl rfl rfl rfl ⟨rfl, rfl, rfl, rfl, rfl⟩ rfl rfl rfl rfl rfl (by kernel_rfl) Tryz.func8 (by kernel_rfl)
    (of_decide_eq_true (by kernel_rfl)) (by unfold Func.isWrapper; first | (rw [if_pos (by decide +kernel)]; kernel_rfl) | (rw [if_neg (by decide +kernel)]; exact ⟨rfl, rfl⟩))
    (fun os started H enc _ => listMoves_lifted os started H enc)

theorem ListMoves_card : Rows.ListMovesCardSaid :=
  Claim7.holds_tied_plain_at .later [] [.data, .data, .data, .data, .data, .pinned] true (true, "336dd88d317992637c557e8348d3e7ed0396774635fc71b6e363a451789e8b68") false
    listMoves_holds (fun _ h => by cases h) (by kernel_rfl) (fun _ h => by cases h) listMoves_row_tie rfl ⟨rfl, rfl⟩ (by kernel_rfl) rfl
    (fun f fn hf hfn => by
      obtain rfl : f = 8 := Option.some.inj ((show Tryz.prog.funcNamed "postrider/postriderlaw08.ListMoves" = some 8 by kernel_rfl).symm.trans hf) |>.symm
      obtain rfl : fn = Tryz.f8 := (Option.some.inj (Tryz.func8.symm.trans hfn)).symm
      exact ⟨by kernel_rfl, fun j t ht => by
        rw [Tryz.params8] at ht
        have hm : t ∈ ([9, 48] : List TypeId) := by simpa using Array.mem_of_getElem? ht
        have hall : ([9, 48].all fun u => !Tryz.prog.wantsStandIn u) = true := by kernel_rfl
        exact (show Tryz.prog.wantsStandIn t = false by simpa using List.all_eq_true.1 hall t hm)⟩)
    (by kernel_rfl)
#print axioms ListMoves_card
end Go.Proofs.YtffngbjnbigipaaGreatDoor

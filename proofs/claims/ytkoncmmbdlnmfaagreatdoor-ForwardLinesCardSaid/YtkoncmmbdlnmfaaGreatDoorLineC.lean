/- PROVED: ForwardLines returns true for every row of targets and every text, and it reads behind the call as it read before. CONDITIONS: those of the row and no others: the listed package-level variables read as listed (the card ties that to the program's text). -/
import Derived.Test.YtkoncmmbdlnmfaaGreatDoorLineW
import Derived.Test.YtkoncmmbdlnmfaaGreatDoorEK8
import Derived.Test.YtkoncmmbdlnmfaaGreatDoorLaid
import Derived.Test.YtkoncmmbdlnmfaaGreatDoorCards
import Derived.Test.YtkoncmmbdlnmfaaGreatDoorTie
import Derived.SevenTiedAt
namespace Go.Proofs.YtkoncmmbdlnmfaaGreatDoor
open Go.ChangeShapes Go.WideShapes Go.ChangeAt Go.RowKit Go.Lib
open Go.ChangeMaps (open_string shut_string)
set_option maxRecDepth 100000

theorem forwardLines_lifted (os : Os) (started : os.Started) (H : Type) (enc : TypeId × Value → H) :
    ReturnsInHanded {} Tryz.checked os 7 .any (fun w args => (Rows.forwardLinesSpec.pre enc Tryz.prog Tryz.f7 [] false w args ∧ laidMetH Tryz.prog Rows.forwardLinesRow.laid w) ∧ sizedMet enc Tryz.prog Tryz.f7 (OpenSpec.ofChange Rows.forwardLinesSpec) false w args)
      (Rows.forwardLinesSpec.post enc Tryz.prog Tryz.f7 false true false false) := by
  refine returnsInHanded_of_calls (C := Tryz.checked) ownK started (by kernel_rfl)
    (ChangeSpec.witness_shaped (enc := enc) (C := Tryz.checked) (os := os) (X := fun w _ => laidMetH Tryz.prog Rows.forwardLinesRow.laid w) false (laidWorld os) #[.slice none 0 0, .string ⟨#[]⟩] 8 rfl (World.shaped_of_RefB (by kernel_rfl) (by kernel_rfl)) (by kernel_rfl) (by kernel_rfl) (by kernel_rfl) (laid_met os _)) ?_
  intro w tape i _ hsh _ hok hpre _
  obtain ⟨_, _, _, fn', hfn', _, _, _, _, hval0⟩ := hok
  obtain rfl : fn' = Tryz.f7 := Option.some.inj (hfn'.symm.trans Tryz.func7)
  obtain ⟨⟨⟨ds, gs, before, hw0, _⟩, hx⟩, hz⟩ := hpre
  have hW : DataW.Whole enc Tryz.prog Tryz.f7.params.toList _ false (w.forCall tape i) i.args.toList ds gs before := DataW.Whole.of_heap (w' := w.forCall tape i) (by rfl) hw0
  have hL : laidMetH Tryz.prog Rows.forwardLinesRow.laid (w.forCall tape i) := hx.of_heap (by rfl)
  have hsz := hz.weights hw0
  have hE : Env (w.forCall tape i) ∧ Begs (w.forCall tape i) := env_of hL hsh
  suffices hmain : Calls Tryz.prog 7 i.args (w.forCall tape i) fun e W' => ∃ v, e = .returned v ∧ Rows.forwardLinesSpec.post enc Tryz.prog Tryz.f7 false true false false (w.forCall tape i) i.args v W' from
    hmain.mono fun e W' ⟨v, he, hp⟩ => by
      subst he
      exact ChangeSpec.post_blind hp
  have hval : ∀ (j : Nat) t v, Tryz.f7.params[j]? = some t → i.args[j]? = some v → Value.okWide Tryz.prog (w.forCall tape i) .any w.heap.size t v := hval0
  generalize w.forCall tape i = W at hW hval hE ⊢
  generalize i.args = args at hW hval hsz ⊢
  have hW' := hW
  obtain ⟨p, q, hA0, hV, rfl, hfz, hnd⟩ := hW
  have hA : DataW.TrodAll enc Tryz.prog W 0 (fun _ => true) true Tryz.f7.params.toList args.toList ds p := hA0
  rw [Tryz.params7] at hA hval
  obtain ⟨v0, v1, d0, d1, p0, p1, rfl, rfl, rfl, h0, h1⟩ := trodAll_two hA
  obtain ⟨rfl, rfl⟩ := trodVars_none hV
  have hsz' : (DataW.weightsEach Tryz.prog ([22, 9] ++ []) ([d0, d1] ++ [])).all (· ≤ reachBytes) = true := hsz
  obtain ⟨l0, hin0⟩ := in_rowT (hval 0 22 v0 rfl rfl) h0
  have hlt0 : ∀ x ∈ p0, x.block < W.heap.size := by
    intro x hx
    exact hW'.lt x (by simp [hx])
  obtain ⟨s1, rfl, rfl, rfl, hs1⟩ := open_string Tryz.underlying9 (hval 1 9 v1 rfl rfl) h1
  have hss1 := sized_string hsz' (j := 1) rfl rfl
  clear hA0 hval0
  simp only [List.append_nil] at hW'
  refine (lines_any l0 v0 s1 W hin0 (by simpa [reachBytes] using hss1) hE).mono fun e W' ⟨he, bel⟩ => ?_
  subst he
  exact ⟨_, rfl, _, _, _, [], _, [], hW', trodAll_mk1 (shut_bool Tryz.underlying4 _), trodAll_mk2 (Below.trod laidOutK (by kernel_rfl) (by decide +kernel) h0 bel hlt0) (shut_string Tryz.underlying9 hs1), rfl, bel.frame _, fun h => by cases h⟩

theorem forwardLines_holds : Rows.ForwardLinesSaid :=
  OpenClaim.holds_of_wide 7 Tryz.f7 rfl rfl rfl rfl rfl rfl rfl ⟨rfl, rfl, rfl, rfl, rfl⟩ rfl rfl rfl rfl rfl (by kernel_rfl) Tryz.func7 (by kernel_rfl)
    (of_decide_eq_true (by kernel_rfl)) (by unfold Func.isWrapper; first | (rw [if_pos (by decide +kernel)]; kernel_rfl) | (rw [if_neg (by decide +kernel)]; exact ⟨rfl, rfl⟩))
    (fun os started H enc _ => forwardLines_lifted os started H enc)

theorem ForwardLines_card : Rows.ForwardLinesCardSaid :=
  Claim7.holds_tied_plain_at .later [] [.data, .data, .data, .data, .data, .data, .pinned, .pinned] true (true, "3956fe898f352c580e658605e068fe1b622b229b143f2754cb9f018496599cf6") false
    forwardLines_holds (fun _ h => by cases h) (by kernel_rfl) (fun _ h => by cases h) forwardLines_row_tie rfl ⟨rfl, rfl⟩ (by kernel_rfl) rfl
    (fun f fn hf hfn => by
      obtain rfl : f = 7 := Option.some.inj ((show Tryz.prog.funcNamed "postrider/postriderlaw16.ForwardLines" = some 7 by kernel_rfl).symm.trans hf) |>.symm
      obtain rfl : fn = Tryz.f7 := (Option.some.inj (Tryz.func7.symm.trans hfn)).symm
      exact ⟨by kernel_rfl, fun j t ht => by
        rw [Tryz.params7] at ht
        have hm : t ∈ ([22, 9] : List TypeId) := by simpa using Array.mem_of_getElem? ht
        have hall : ([22, 9].all fun u => !Tryz.prog.wantsStandIn u) = true := by kernel_rfl
        exact (show Tryz.prog.wantsStandIn t = false by simpa using List.all_eq_true.1 hall t hm)⟩)
    (by kernel_rfl)
#print axioms ForwardLines_card
end Go.Proofs.YtkoncmmbdlnmfaaGreatDoor

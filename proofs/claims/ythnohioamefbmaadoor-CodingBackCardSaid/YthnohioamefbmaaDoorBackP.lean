/- PROVED: CodingBack returns true for every slice of bytes and every string, and both read behind the call as they read before. CONDITIONS: those of the row and no others: the package's table, unicode.CaseRanges and unicode/utf8's two tables read as listed (the card ties that to the program's text). -/
import Derived.Test.YthnohioamefbmaaDoorBackW
import Derived.Test.YthnohioamefbmaaDoorLaidB
import Derived.Test.YthnohioamefbmaaDoorCards
import Derived.Test.YthnohioamefbmaaDoorTie
import Derived.SevenTiedAt
namespace Go.Proofs.YthnohioamefbmaaDoor
open Go.ChangeShapes Go.WideShapes Go.ChangeAt Go.RowKit Go.Lib
open Go.ChangeMaps (open_string shut_string)
set_option maxRecDepth 100000

theorem back_lifted (os : Os) (started : os.Started) (H : Type) (enc : TypeId × Value → H) :
    ReturnsInHanded {} Tryd.checked os 6 .any (fun w args => (Rows.codingBackSpec.pre enc Tryd.prog Tryd.f6 [] false w args ∧ laidMetH Tryd.prog Rows.codingBackRow.laid w) ∧ sizedMet enc Tryd.prog Tryd.f6 (OpenSpec.ofChange Rows.codingBackSpec) false w args)
      (Rows.codingBackSpec.post enc Tryd.prog Tryd.f6 false true false false) := by
  refine returnsInHanded_of_change_and (C := Tryd.checked) (X := fun w _ => laidMetH Tryd.prog Rows.codingBackRow.laid w) (fun _ _ _ hh h => h.of_heap hh) ownK started (by kernel_rfl) Tryd.func6
    (ChangeSpec.witness_shaped (enc := enc) (C := Tryd.checked) (os := os) (X := fun w _ => laidMetH Tryd.prog Rows.codingBackRow.laid w) false (laidWorld4 os) #[.slice none 0 0, .string ⟨#[]⟩] 8 rfl (World.shaped_of_RefB (by kernel_rfl) (by kernel_rfl)) (by kernel_rfl) (by kernel_rfl) (by kernel_rfl) (laid_met4 os _)) ?_
  intro W base args ds gs before hval0 hW _ hsz hL _
  have hval : ∀ (j : Nat) t v, Tryd.f6.params[j]? = some t → args[j]? = some v → Value.okWide Tryd.prog W .any base t v := hval0
  have hW' := hW
  obtain ⟨p, q, hA0, hV, rfl, hfz, hnd⟩ := hW
  have hA : DataW.TrodAll enc Tryd.prog W 0 (fun _ => true) true Tryd.f6.params.toList args.toList ds p := hA0
  rw [Tryd.params6] at hA hval
  obtain ⟨v0, v1, d0, d1, p0, p1, rfl, rfl, rfl, h0, h1⟩ := trodAll_two hA
  obtain ⟨rfl, rfl⟩ := trodVars_none hV
  have hsz' : (DataW.weightsEach Tryd.prog ([22, 9] ++ []) ([d0, d1] ++ [])).all (· ≤ reachBytes) = true := hsz
  obtain ⟨s, rfl, rfl, rfl, hs⟩ := open_string Tryd.underlying9 (hval 1 9 v1 rfl rfl) h1
  obtain ⟨pp, n, cap, l, rfl, hnc, hcap, hlf, hB⟩ := bytes_in (okWide_slice Tryd.underlying22 (hval 0 22 v0 rfl rfl)) hsz' (j := 0) rfl rfl h0
  have hss := sized_string hsz' (j := 1) rfl rfl
  have hlt : ∀ x ∈ p0, x.block < W.heap.size := by
    intro x hx
    exact hW'.lt x (by simp [hx])
  clear hA0 hval0
  simp only [List.append_nil] at hW'
  refine (back_any _ s W (tabs_of4 hL) n cap pp rfl l hlf (by simpa [reachBytes] using hss) (by omega) hnc hcap hB).mono fun e W' ⟨he, bel⟩ => ?_
  subst he
  exact ⟨_, rfl, _, _, _, [], _, [], hW', trodAll_mk1 (shut_bool Tryd.underlying4 _), trodAll_mk2 (Below.trod laidOutK (by kernel_rfl) (by decide +kernel) h0 bel hlt) (shut_string Tryd.underlying9 hs), rfl, bel.frame _, fun h => by cases h⟩

theorem back_holds : Rows.CodingBackSaid :=
  OpenClaim.holds_of_wide 6 Tryd.f6 rfl rfl rfl rfl rfl rfl rfl ⟨rfl, rfl, rfl, rfl, rfl⟩ rfl rfl rfl rfl rfl (by kernel_rfl) Tryd.func6 (by kernel_rfl)
    (of_decide_eq_true (by kernel_rfl)) (by unfold Func.isWrapper; first | (rw [if_pos (by decide +kernel)]; kernel_rfl) | (rw [if_neg (by decide +kernel)]; exact ⟨rfl, rfl⟩))
    (fun os started H enc _ => back_lifted os started H enc)

theorem CodingBack_card : Rows.CodingBackCardSaid :=
  Claim7.holds_tied_plain_at .later [] [.data, .wider, .pinned, .pinned] true (true, "acbca4278cc8b370bb75927a1f881a2edc661bb6b874d6f47f5efb5c78d18825") false
    back_holds (fun _ h => by cases h) (by kernel_rfl) (fun _ h => by cases h) codingBack_row_tie rfl ⟨rfl, rfl⟩ (by kernel_rfl) rfl
    (fun f fn hf hfn => by
      obtain rfl : f = 6 := Option.some.inj ((show Tryd.prog.funcNamed "postrider/postriderlaw11.CodingBack" = some 6 by kernel_rfl).symm.trans hf) |>.symm
      obtain rfl : fn = Tryd.f6 := (Option.some.inj (Tryd.func6.symm.trans hfn)).symm
      exact ⟨by kernel_rfl, fun j t ht => by
        rw [Tryd.params6] at ht
        have hm : t ∈ [22, 9] := by simpa using Array.mem_of_getElem? ht
        have hall : ([22, 9].all fun u => !Tryd.prog.wantsStandIn u) = true := by kernel_rfl
        exact (show Tryd.prog.wantsStandIn t = false by simpa using List.all_eq_true.1 hall t hm)⟩)
    (by kernel_rfl)
end Go.Proofs.YthnohioamefbmaaDoor

/- PROVED: CodingJoins returns true for all two slices of bytes and every uint16, and all read behind the call as they read before. CONDITIONS: those of the row and no others: the package's table and unicode/utf8's two tables read as listed (the card ties that to the program's text). -/
import Derived.Test.YthnohioamefbmaaDoorJoinsW
import Derived.Test.YthnohioamefbmaaDoorLaid
import Derived.Test.YthnohioamefbmaaDoorCards
import Derived.Test.YthnohioamefbmaaDoorTie
import Derived.SevenTiedAt
namespace Go.Proofs.YthnohioamefbmaaDoor
open Go.ChangeShapes Go.WideShapes Go.ChangeAt Go.RowKit Go.Lib
open Go.ChangeMaps (open_string shut_string)
set_option maxRecDepth 100000

theorem nil_cap {H : Type} {enc : TypeId × Value → H} {W : World} {p : Option Addr} {n cap : Nat} {d : DataW H} {ps : List MemPlace} (h : DataW.Trod enc Tryd.prog W 0 (fun _ => true) true 22 (.slice p n cap) d ps) : p = none → cap = 0 := by
  rintro rfl
  obtain ⟨fuel, hf⟩ := h
  rcases open_ints Tryd.underlying22 Tryd.underlying5 cells5 hf with ⟨hcs, _⟩ | ⟨x, l, cp, zs, hcs, _⟩
  · simp [Value.cells] at hcs
    exact hcs.2
  · simp [Value.cells] at hcs

theorem joins_lifted (os : Os) (started : os.Started) (H : Type) (enc : TypeId × Value → H) :
    ReturnsInHanded {} Tryd.checked os 5 .any (fun w args => (Rows.codingJoinsSpec.pre enc Tryd.prog Tryd.f5 [] false w args ∧ laidMetH Tryd.prog Rows.codingJoinsRow.laid w) ∧ sizedMet enc Tryd.prog Tryd.f5 (OpenSpec.ofChange Rows.codingJoinsSpec) false w args)
      (Rows.codingJoinsSpec.post enc Tryd.prog Tryd.f5 false true false false) := by
  refine returnsInHanded_of_change_and (C := Tryd.checked) (X := fun w _ => laidMetH Tryd.prog Rows.codingJoinsRow.laid w) (fun _ _ _ hh h => h.of_heap hh) ownK started (by kernel_rfl) Tryd.func5
    (ChangeSpec.witness_shaped (enc := enc) (C := Tryd.checked) (os := os) (X := fun w _ => laidMetH Tryd.prog Rows.codingJoinsRow.laid w) false (laidWorld os) #[.slice none 0 0, .slice none 0 0, .int .u16 0] 8 rfl (World.shaped_of_RefB (by kernel_rfl) (by kernel_rfl)) (by kernel_rfl) (by kernel_rfl) (by kernel_rfl) (laid_met os _)) ?_
  intro W base args ds gs before hval0 hW _ hsz hL _
  have hval : ∀ (j : Nat) t v, Tryd.f5.params[j]? = some t → args[j]? = some v → Value.okWide Tryd.prog W .any base t v := hval0
  have hW' := hW
  obtain ⟨p, q, hA0, hV, rfl, hfz, hnd⟩ := hW
  have hA : DataW.TrodAll enc Tryd.prog W 0 (fun _ => true) true Tryd.f5.params.toList args.toList ds p := hA0
  rw [Tryd.params5] at hA hval
  obtain ⟨v0, v1, v2, d0, d1, d2, p0, p1, p2, rfl, rfl, rfl, h0, h1, h2⟩ := trodAll_three hA
  obtain ⟨rfl, rfl⟩ := trodVars_none hV
  have hsz' : (DataW.weightsEach Tryd.prog ([22, 22, 42] ++ []) ([d0, d1, d2] ++ [])).all (· ≤ reachBytes) = true := hsz
  obtain ⟨k, rfl, rfl, rfl, wk⟩ := open_int Tryd.underlying42 (hval 2 42 v2 rfl rfl) h2
  obtain ⟨pp, n, cap, l, rfl, hnc, hcap, hlf, hB⟩ := bytes_in (okWide_slice Tryd.underlying22 (hval 0 22 v0 rfl rfl)) hsz' (j := 0) rfl rfl h0
  obtain ⟨pp1, n1, cap1, l1, rfl, hnc1, hcap1, hlf1, hB1⟩ := bytes_in (okWide_slice Tryd.underlying22 (hval 1 22 v1 rfl rfl)) hsz' (j := 1) rfl rfl h1
  have hnl := nil_cap h0
  have hnl1 := nil_cap h1
  have hmin : IntKind.u16.min = 0 := rfl
  have hmax : IntKind.u16.max = 65535 := rfl
  have wk2 := wk
  simp only [Lit.wf, hmin, hmax, Bool.and_eq_true, decide_eq_true_eq] at wk2
  have hlt : ∀ x ∈ p0, x.block < W.heap.size := by
    intro x hx
    exact hW'.lt x (by simp [hx])
  have hlt1 : ∀ x ∈ p1, x.block < W.heap.size := by
    intro x hx
    exact hW'.lt x (by simp [hx])
  clear hA0 hval0
  simp only [List.append_nil] at hW'
  have hk : (k.toNat : Int) = k := Int.toNat_of_nonneg wk2.1
  have hJ := joins_any W (tabs_of hL) n cap pp l hlf hB hnc hcap hnl n1 cap1 pp1 l1 hlf1 hB1 hnc1 hcap1 hnl1 k.toNat (by omega)
  rw [hk] at hJ
  refine hJ.mono fun e W' ⟨he, bel⟩ => ?_
  subst he
  exact ⟨_, rfl, _, _, _, [], _, [], hW', trodAll_mk1 (shut_bool Tryd.underlying4 _), trodAll_mk3 (Below.trod laidOutK (by kernel_rfl) (by decide +kernel) h0 bel hlt) (Below.trod laidOutK (by kernel_rfl) (by decide +kernel) h1 bel hlt1) (shut_int Tryd.underlying42 wk), rfl, bel.frame _, fun h => by cases h⟩

theorem joins_holds : Rows.CodingJoinsSaid :=
  OpenClaim.holds_of_wide 5 Tryd.f5 rfl rfl rfl rfl rfl rfl rfl ⟨rfl, rfl, rfl, rfl, rfl⟩ rfl rfl rfl rfl rfl (by kernel_rfl) Tryd.func5 (by kernel_rfl)
    (of_decide_eq_true (by kernel_rfl)) (by unfold Func.isWrapper; first | (rw [if_pos (by decide +kernel)]; kernel_rfl) | (rw [if_neg (by decide +kernel)]; exact ⟨rfl, rfl⟩))
    (fun os started H enc _ => joins_lifted os started H enc)

theorem CodingJoins_card : Rows.CodingJoinsCardSaid :=
  Claim7.holds_tied_plain_at .later [] [.data, .wider, .pinned] true (true, "acbca4278cc8b370bb75927a1f881a2edc661bb6b874d6f47f5efb5c78d18825") false
    joins_holds (fun _ h => by cases h) (by kernel_rfl) (fun _ h => by cases h) codingJoins_row_tie rfl ⟨rfl, rfl⟩ (by kernel_rfl) rfl
    (fun f fn hf hfn => by
      obtain rfl : f = 5 := Option.some.inj ((show Tryd.prog.funcNamed "postrider/postriderlaw11.CodingJoins" = some 5 by kernel_rfl).symm.trans hf) |>.symm
      obtain rfl : fn = Tryd.f5 := (Option.some.inj (Tryd.func5.symm.trans hfn)).symm
      exact ⟨by kernel_rfl, fun j t ht => by
        rw [Tryd.params5] at ht
        have hm : t ∈ [22, 22, 42] := by simpa using Array.mem_of_getElem? ht
        have hall : ([22, 22, 42].all fun u => !Tryd.prog.wantsStandIn u) = true := by kernel_rfl
        exact (show Tryd.prog.wantsStandIn t = false by simpa using List.all_eq_true.1 hall t hm)⟩)
    (by kernel_rfl)
end Go.Proofs.YthnohioamefbmaaDoor

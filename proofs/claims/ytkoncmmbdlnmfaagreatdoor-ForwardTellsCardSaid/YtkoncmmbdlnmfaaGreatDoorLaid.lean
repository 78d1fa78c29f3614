/- What the listed variables give the walks, and a world in which they read so. -/
import Derived.Test.YtkoncmmbdlnmfaaGreatDoorEK1
import Derived.Test.YtkoncmmbdlnmfaaGreatDoorRows
import Derived.ProofKit
import Derived.LaidMore
import Derived.SizedLaws
import Derived.Lib.LaidU8
import Derived.Lib.LaidTab
import Derived.Stop.Joined
import Derived.WalkSmall
import Derived.Great.CaseRows
import Derived.Lib.LaidIn
namespace Go.Proofs.YtkoncmmbdlnmfaaGreatDoor
open Go.ChangeShapes Go.WideShapes Go.ChangeAt Go.RowKit Go.Lib Go.Great
open Go.ChangeMaps (open_string shut_string)
set_option maxRecDepth 100000
set_option linter.unusedSimpArgs false

theorem ownK : ownKnob Tryz.prog.godebug = none := by kernel_rfl
theorem laidOutK : laidOutB Tryz.prog = true := by kernel_rfl
/-- a listed array of numbers reads as its table. -/
theorem tab_reads {P : Program} {W : World} {name : String} {k : IntKind} {zs : List Int} {g : Nat} {t e : TypeId} {n : Nat}
    (hg : P.globalNamed name = some g) (hty : (P.globals[g]?).map (·.type) = some t) (ht : P.underlying t = some (.array n e)) (he : P.underlying e = some (.int k)) (hce : P.cellsOf e = 1) (hct : P.cellsOf t = n)
    (h : VarReads P W name (tabData k zs)) : TabIs P W name k zs := by
  obtain ⟨g', t', cs, fuel, p, hg', hty', hvar, hd⟩ := h
  obtain rfl := Option.some.inj (hg.symm.trans hg')
  obtain rfl := Option.some.inj (hty.symm.trans hty')
  unfold TabIs
  rw [hvar, ← cells_of_tab ht he hce hct hd]
theorem pow_data : (Rows.laid_internal_strconv_uint64pow10 : DataW Unit) = tabData .u64 Lib.pow10Tab := by kernel_rfl
theorem atext_data : (Rows.laid_postrider_text_atext : DataW Unit) = tabData .u32 [0, 2751442170, 3355443198, 2147483647] := by kernel_rfl
/-- a listed array of texts holds them. -/
theorem cells_of_texts {H : Type} {enc : TypeId × Value → H} {P : Program} {w : World} {base : Nat} {sp : Nat → Bool} {held : Bool} {fuel : Nat} {t e : TypeId} {n : Nat} {cs : List Value} {zs : List (List UInt8)} {p : List MemPlace}
    (ht : P.underlying t = some (.array n e)) (he : P.underlying e = some .string) (hce : P.cellsOf e = 1) (hct : P.cellsOf t = n)
    (h : DataW.trod enc P w base sp held fuel t cs = some (.agg (zs.map fun z => .lit (.string z)), p)) : cs = zs.map fun z => Value.string ⟨z.toArray⟩ := by
  cases fuel with
  | zero => simp [DataW.trod] at h
  | succ fuel =>
    simp only [DataW.trod, ht, hce, hct, Nat.mul_one] at h
    split at h
    · rename_i hl
      obtain ⟨xs, hm, hx⟩ := Option.map_eq_some_iff.1 h
      have hxs : xs.map (·.1) = zs.map fun z => (DataW.lit (.string z) : DataW H) := by
        have := congrArg Prod.fst hx
        simpa using this
      have hxl : xs.length = n := by simpa using mapM_length hm
      have hzl : zs.length = n := by
        have := congrArg List.length hxs
        simp at this
        omega
      apply List.ext_getElem?
      intro i
      by_cases hi : i < n
      · obtain ⟨b, hb, hf⟩ := mapM_at hm i i (by simp [hi])
        obtain ⟨z, hc, rfl, _⟩ := DataW.trod_string he hf
        have h1 : cs[i]? = some (.string z) := by
          have := congrArg (·[0]?) hc
          simpa [List.getElem?_take, List.getElem?_drop] using this
        have h2 : (xs.map (·.1))[i]? = some (DataW.lit (.string z.data.toList) : DataW H) := by simp [hb]
        rw [hxs] at h2
        simp only [List.getElem?_map, Option.map_eq_some_iff, DataW.lit.injEq, Lit.string.injEq] at h2
        obtain ⟨z', hz', rfl⟩ := h2
        simp [h1, hz']
      · rw [List.getElem?_eq_none (by omega), List.getElem?_eq_none (by rw [List.length_map]; omega)]
    · cases h
theorem begins_data : (Rows.laid_postrider_alias_begins : DataW Unit) = .agg (([[], [], [], [92], [47], [58, 105, 110, 99, 108, 117, 100, 101, 58], [58, 102, 97, 105, 108, 58], [58, 100, 114, 111, 112, 58]] : List (List UInt8)).map fun z => .lit (.string z)) := by kernel_rfl
/-- the variable 'begins' reads as listed: its cells. -/
theorem begs_of {W : World} (h : VarReads Tryz.prog W "postrider/alias.begins" Rows.laid_postrider_alias_begins) : Begs W := by
  obtain ⟨g', t', cs, fuel, p, hg', hty', hvar, hd⟩ := h
  have hg : Tryz.prog.globalNamed "postrider/alias.begins" = some 0 := by kernel_rfl
  have hty : (Tryz.prog.globals[0]?).map (·.type) = some 88 := by kernel_rfl
  obtain rfl := Option.some.inj (hg.symm.trans hg')
  obtain rfl := Option.some.inj (hty.symm.trans hty')
  rw [begins_data] at hd
  have hcs := cells_of_texts Tryz.underlying88 Tryz.underlying9 (by kernel_rfl) (by kernel_rfl) hd
  have hcs' : cs = #[.string ⟨#[]⟩, .string ⟨#[]⟩, .string ⟨#[]⟩, .string ⟨#[92]⟩, .string ⟨#[47]⟩, .string ⟨#[58, 105, 110, 99, 108, 117, 100, 101, 58]⟩, .string ⟨#[58, 102, 97, 105, 108, 58]⟩, .string ⟨#[58, 100, 114, 111, 112, 58]⟩] := by
    apply Array.toList_inj.1
    rw [hcs]
    rfl
  subst hcs'
  simp only [World.var?, hg, Option.bind_some] at hvar
  have hh : ∃ e fz, W.heap[0]? = some (.cells #[.string ⟨#[]⟩, .string ⟨#[]⟩, .string ⟨#[]⟩, .string ⟨#[92]⟩, .string ⟨#[47]⟩, .string ⟨#[58, 105, 110, 99, 108, 117, 100, 101, 58]⟩, .string ⟨#[58, 102, 97, 105, 108, 58]⟩, .string ⟨#[58, 100, 114, 111, 112, 58]⟩] e fz) := by
    split at hvar
    · rename_i cs' e fz hh
      injection hvar with hvar
      subst hvar
      exact ⟨_, _, hh⟩
    · cases hvar
  obtain ⟨e, fz, hh⟩ := hh
  exact ⟨by simp [World.cell?, hh], by simp [World.cell?, hh], by simp [World.cell?, hh], by simp [World.cell?, hh], by simp [World.cell?, hh]⟩
theorem env_of {W : World} (hL : laidMetH Tryz.prog [("math/bits.deBruijn32tab", Rows.laid_math_bits_deBruijn32tab), ("math/bits.deBruijn64tab", Rows.laid_math_bits_deBruijn64tab), ("internal/strconv.uint64pow10", Rows.laid_internal_strconv_uint64pow10), ("unicode/utf8.acceptRanges", Rows.laid_unicode_utf8_acceptRanges), ("postrider/text.atext", Rows.laid_postrider_text_atext), ("postrider/alias.begins", Rows.laid_postrider_alias_begins), ("unicode.CaseRanges", Rows.laid_unicode_CaseRanges), ("unicode/utf8.first", Rows.laid_unicode_utf8_first)] W) (hsh : W.ShapedOpen Tryz.prog) : Env W ∧ Begs W := by
  rw [MakeChecks.laidMetH_plain _ _ _ (by kernel_rfl)] at hL
  have h1 := laidMet.reads hL (.tail _ (.tail _ (.head _)))
  have h2 := laidMet.reads hL (.tail _ (.tail _ (.tail _ (.tail _ (.head _)))))
  have h3 := laidMet.reads hL (.tail _ (.tail _ (.tail _ (.tail _ (.tail _ (.head _))))))
  rw [pow_data] at h1
  rw [atext_data] at h2
  have t1 := tab_reads (g := 6) (t := 286) (e := 250) (n := 20) (by kernel_rfl) (by kernel_rfl) Tryz.underlying286 Tryz.underlying250 (by kernel_rfl) (by kernel_rfl) h1
  have t2 := tab_reads (g := 5) (t := 260) (e := 236) (n := 4) (by kernel_rfl) (by kernel_rfl) Tryz.underlying260 Tryz.underlying236 (by kernel_rfl) (by kernel_rfl) h2
  have hn : Tryz.prog.globalNamed "postrider/text.atext" = some 5 := by kernel_rfl
  exact ⟨⟨⟨TabIs.cell t2 hn 0 (by decide), TabIs.cell t2 hn 1 (by decide), TabIs.cell t2 hn 2 (by decide), TabIs.cell t2 hn 3 (by decide)⟩,
    Go.Proofs.cell_of_shapedOpen_int (zero := #[.int .i64 0]) (t := 3) hsh (of_decide_eq_true (by kernel_rfl)) (by kernel_rfl) rfl (by kernel_rfl) (by kernel_rfl) Tryz.underlying3, t1⟩, begs_of h3⟩
theorem caseTypes : CTypes Tryz.prog 228 277 275 236 21 := ⟨Tryz.underlying228, Tryz.underlying277, Tryz.underlying275, Tryz.underlying236, Tryz.underlying21, by kernel_rfl, by kernel_rfl, by kernel_rfl, by kernel_rfl⟩
noncomputable abbrev blocks0 : Nat := (World.settled Tryz.prog default).heap.size
/-- THE WITNESS: the settled world, a block more for the rows of unicode.CaseRanges, the listed variables as they read. -/
noncomputable def laidWorld (os : Os) : World :=
  let N := (World.settled Tryz.prog os).heap.size
  let w0 := World.holding Tryz.prog os ⟨#[.cells (caseT.flatMap Go.Lib.cells5).toArray 277], #[], []⟩
  let put (h : Array Obj) (g : Nat) (cs : Array Value) : Array Obj := h.modify g fun
    | .cells _ t frozen => .cells cs t frozen
    | o => o
  let h1 := put w0.heap 5 #[.int .u32 0, .int .u32 2751442170, .int .u32 3355443198, .int .u32 2147483647]
  let h2 := put h1 3 (Lib.firstTab.map fun z => Value.int .u8 z).toArray
  let h3 := put h2 4 ((List.range 16).flatMap fun i => [Value.int .u8 (Lib.accLo i), Value.int .u8 (Lib.accHi i)]).toArray
  let h4 := put h3 6 (Lib.pow10Tab.map fun z => Value.int .u64 z).toArray
  let h5 := put h4 7 (([0, 1, 28, 2, 29, 14, 24, 3, 30, 22, 20, 15, 25, 17, 4, 8, 31, 27, 13, 23, 21, 19, 16, 7, 26, 12, 18, 6, 11, 5, 10, 9] : List Int).map fun z => Value.int .u8 z).toArray
  let h6 := put h5 8 (([0, 1, 56, 2, 57, 49, 28, 3, 61, 58, 42, 50, 38, 29, 17, 4, 62, 47, 59, 36, 45, 43, 51, 22, 53, 39, 33, 30, 24, 18, 12, 5, 63, 55, 48, 27, 60, 41, 37, 16, 46, 35, 44, 21, 52, 32, 23, 11, 54, 26, 40, 15, 34, 20, 31, 10, 25, 14, 19, 9, 13, 8, 7, 6] : List Int).map fun z => Value.int .u8 z).toArray
  let h7 := put h6 2 #[.slice (some ⟨N, 0, none⟩) caseT.length caseT.length]
  let h8 := put h7 0 #[.string ⟨#[]⟩, .string ⟨#[]⟩, .string ⟨#[]⟩, .string ⟨#[92]⟩, .string ⟨#[47]⟩, .string ⟨#[58, 105, 110, 99, 108, 117, 100, 101, 58]⟩, .string ⟨#[58, 102, 97, 105, 108, 58]⟩, .string ⟨#[58, 100, 114, 111, 112, 58]⟩]
  { w0 with heap := h8 }
theorem pieceA (os : Os) (args : Array Value) : LaidIn Tryz.prog ((laidWorld os).forCall (fun _ _ => 0) ⟨#[], args, []⟩).memory [("math/bits.deBruijn32tab", Rows.laid_math_bits_deBruijn32tab), ("math/bits.deBruijn64tab", Rows.laid_math_bits_deBruijn64tab), ("internal/strconv.uint64pow10", Rows.laid_internal_strconv_uint64pow10), ("unicode/utf8.acceptRanges", Rows.laid_unicode_utf8_acceptRanges), ("postrider/text.atext", Rows.laid_postrider_text_atext), ("postrider/alias.begins", Rows.laid_postrider_alias_begins)] [7, 8, 6, 4, 5, 0] :=
  LaidIn.of_run [7, 8, 6, 4, 5, 0] 8 (by kernel_rfl) (by kernel_rfl) (by kernel_rfl) (by kernel_rfl)
theorem pieceC (os : Os) (args : Array Value) : LaidIn Tryz.prog ((laidWorld os).forCall (fun _ _ => 0) ⟨#[], args, []⟩).memory [("unicode/utf8.first", Rows.laid_unicode_utf8_first)] [3] :=
  LaidIn.of_run [3] 8 (by kernel_rfl) (by kernel_rfl) (by kernel_rfl) (by kernel_rfl)
theorem pieceB (os : Os) (args : Array Value) : LaidIn Tryz.prog ((laidWorld os).forCall (fun _ _ => 0) ⟨#[], args, []⟩).memory [("unicode.CaseRanges", .slice (caseT.map rowData) [])] [2, blocks0] :=
  laidIn_case caseTypes (name := "unicode.CaseRanges") (g := 2) (B := blocks0) (tg := 228) (tb := 277) caseT (by kernel_rfl) (by kernel_rfl) (Nat.le_of_ble_eq_true (by kernel_rfl)) (by kernel_rfl) (by kernel_rfl) (by kernel_rfl) (of_decide_eq_true (by kernel_rfl))
theorem case_datum : Rows.laid_unicode_CaseRanges = .slice (caseT.map rowData) [] := by kernel_rfl
theorem laid_met (os : Os) (args : Array Value) : laidMetH Tryz.prog [("math/bits.deBruijn32tab", Rows.laid_math_bits_deBruijn32tab), ("math/bits.deBruijn64tab", Rows.laid_math_bits_deBruijn64tab), ("internal/strconv.uint64pow10", Rows.laid_internal_strconv_uint64pow10), ("unicode/utf8.acceptRanges", Rows.laid_unicode_utf8_acceptRanges), ("postrider/text.atext", Rows.laid_postrider_text_atext), ("postrider/alias.begins", Rows.laid_postrider_alias_begins), ("unicode.CaseRanges", Rows.laid_unicode_CaseRanges), ("unicode/utf8.first", Rows.laid_unicode_utf8_first)] ((laidWorld os).forCall (fun _ _ => 0) ⟨#[], args, []⟩).memory := by
  rw [MakeChecks.laidMetH_plain _ _ _ (by kernel_rfl), case_datum]
  exact ((pieceA os args).append ((pieceB os args).append (pieceC os args) (by kernel_rfl)) (by kernel_rfl)).met
end Go.Proofs.YtkoncmmbdlnmfaaGreatDoor

/- What the listed variables give the walks, and a world in which they read so. -/
import Derived.Test.YthnohioamefbmaaDoorKinds
import Derived.Test.YthnohioamefbmaaDoorBytes
import Derived.Test.YthnohioamefbmaaDoorRows
import Derived.ProofKit
import Derived.LaidMore
import Derived.SizedLaws
import Derived.Lib.LaidU8
import Derived.Stop.Joined
import Derived.WalkSmall
namespace Go.Proofs.YthnohioamefbmaaDoor
open Go.ChangeShapes Go.WideShapes Go.ChangeAt Go.RowKit Go.Lib
open Go.ChangeMaps (open_string shut_string)
set_option maxRecDepth 100000
set_option linter.unusedSimpArgs false

theorem ownK : ownKnob Tryd.prog.godebug = none := by kernel_rfl
theorem laidOutK : laidOutB Tryd.prog = true := by kernel_rfl
theorem gKinds : Tryd.prog.globalNamed "postrider/coding.kinds" = some 0 := by kernel_rfl
theorem tKinds : (Tryd.prog.globals[0]?).map (·.type) = some 53 := by kernel_rfl
theorem cells52 : Tryd.prog.cellsOf 52 = 3 := by kernel_rfl
theorem cells9 : Tryd.prog.cellsOf 9 = 1 := by kernel_rfl
theorem cells3 : Tryd.prog.cellsOf 3 = 1 := by kernel_rfl
theorem cells5 : Tryd.prog.cellsOf 5 = 1 := by kernel_rfl
theorem bytes5 : Tryd.prog.bytesOf 5 = 1 := by kernel_rfl

def kindData (s : ByteArray) (a b : Int) : DataW Unit := .agg [.lit (.string s.data.toList), .lit (.int .i64 a), .lit (.int .i64 b)]
def kindsData : DataW Unit := .agg [kindData L32 5 1, kindData L64 6 4, kindData L16 4 1]

theorem kind_open {W : World} {fuel : Nat} {cs : List Value} {s : ByteArray} {a b : Int} {q : List MemPlace} (h : DataW.trod (fun _ => ()) Tryd.prog W 0 (fun _ => true) false fuel 52 cs = some (kindData s a b, q)) :
    cs[0]? = some (.string s) ∧ cs[1]? = some (.int .i64 a) ∧ cs[2]? = some (.int .i64 b) := by
  obtain ⟨xs, n, rfl, hx, hl, hxl, hall⟩ := DataW.trod_struct Tryd.underlying52 h
  have h0 := hall 0 _ rfl
  have h1 := hall 1 _ rfl
  have h2 := hall 2 _ rfl
  simp only [Prod.mk.injEq, kindData, DataW.agg.injEq] at hx
  match xs, hxl, hx with
  | [x0, x1, x2], _, hx =>
    simp only [List.map_cons, List.map_nil, List.cons.injEq] at hx
    obtain ⟨⟨e0, e1, e2, _⟩, _⟩ := hx
    obtain ⟨s', c0, r0, _⟩ := DataW.trod_string Tryd.underlying9 h0
    obtain ⟨a', c1, r1, _⟩ := DataW.trod_int Tryd.underlying3 h1
    obtain ⟨b', c2, r2, _⟩ := DataW.trod_int Tryd.underlying3 h2
    subst r0 r1 r2
    simp only [DataW.lit.injEq, Lit.int.injEq, Lit.string.injEq, true_and] at e0 e1 e2
    subst e1 e2
    have hs : s' = s := by
      cases s'; cases s
      simpa using e0.symm
    subst hs
    refine ⟨?_, ?_, ?_⟩
    · have := congrArg (·[0]?) c0
      simpa [List.getElem?_take, cells9] using this
    · have := congrArg (·[0]?) c1
      simpa [List.getElem?_take, List.getElem?_drop, cells3] using this
    · have := congrArg (·[0]?) c2
      simpa [List.getElem?_take, List.getElem?_drop, cells3] using this

theorem kinds_open {W : World} (h : VarReads Tryd.prog W "postrider/coding.kinds" kindsData) : ∀ i, i < 3 → ∀ s a b, ([kindData L32 5 1, kindData L64 6 4, kindData L16 4 1])[i]? = some (kindData s a b) →
    W.cell? ⟨0, 3 * i, none⟩ = some (.string s) ∧ W.cell? ⟨0, 3 * i + 1, none⟩ = some (.int .i64 a) ∧ W.cell? ⟨0, 3 * i + 2, none⟩ = some (.int .i64 b) := by
  intro i hi s a b hk
  obtain ⟨g, t, cs, fuel, p, hg, hty, hvar, hd⟩ := h
  obtain rfl := Option.some.inj (gKinds.symm.trans hg)
  obtain rfl := Option.some.inj (tKinds.symm.trans hty)
  obtain ⟨f', d, q, hdi, he⟩ := array_elem Tryd.underlying53 hd i hi
  rw [hk] at hdi
  cases hdi
  obtain ⟨k0, k1, k2⟩ := kind_open he
  rw [cells52] at k0 k1 k2
  have hc := World.var?_cell hg hvar
  simp only [List.getElem?_take, List.getElem?_drop] at k0 k1 k2
  refine ⟨?_, ?_, ?_⟩
  · rw [hc, ← Array.getElem?_toList]; simpa [Nat.mul_comm] using k0
  · rw [hc, ← Array.getElem?_toList]; simpa [Nat.mul_comm] using k1
  · rw [hc, ← Array.getElem?_toList]; simpa [Nat.mul_comm] using k2

theorem tabs_of_laid {W : World} {l : List (String × DataW Unit)} (h : laidMet Tryd.prog l W) (h0 : ("postrider/coding.kinds", Rows.laid_postrider_coding_kinds) ∈ l) (h1 : ("unicode/utf8.first", Rows.laid_unicode_utf8_first) ∈ l) (h2 : ("unicode/utf8.acceptRanges", Rows.laid_unicode_utf8_acceptRanges) ∈ l) (hs : 4 ≤ W.heap.size) : Tabs W := by
  have hk := kinds_open (show VarReads Tryd.prog W "postrider/coding.kinds" kindsData from laidMet.reads h h0)
  have k0 := hk 0 (by omega) L32 5 1 rfl
  have k1 := hk 1 (by omega) L64 6 4 rfl
  have k2 := hk 2 (by omega) L16 4 1 rfl
  exact ⟨hs, k0.1, k0.2.1, k0.2.2, k1.1, k1.2.1, k1.2.2, k2.1, k2.2.1, k2.2.2,
    utf8Tabs_of_reads Tryd.lays260 ⟨by kernel_rfl, by kernel_rfl, by kernel_rfl, by kernel_rfl, by kernel_rfl, by kernel_rfl, by kernel_rfl⟩ (laidMet.reads h h1) (laidMet.reads h h2)⟩

/-- THE WITNESS: the settled world, the listed variables as they read. -/
noncomputable def laidWorld (os : Os) : World :=
  let w0 := World.holding Tryd.prog os ⟨#[], #[], []⟩
  let put (h : Array Obj) (g : Nat) (cs : Array Value) : Array Obj := h.modify g fun
    | .cells _ t frozen => .cells cs t frozen
    | o => o
  let h1 := put w0.heap 0 #[.string L32, .int .i64 5, .int .i64 1, .string L64, .int .i64 6, .int .i64 4, .string L16, .int .i64 4, .int .i64 1]
  let h2 := put h1 2 (Lib.firstTab.map fun z => Value.int .u8 z).toArray
  let h3 := put h2 3 ((List.range 16).flatMap fun i => [Value.int .u8 (Lib.accLo i), Value.int .u8 (Lib.accHi i)]).toArray
  { w0 with heap := h3 }
theorem laid_met (os : Os) (args : Array Value) : laidMetH Tryd.prog [("unicode/utf8.acceptRanges", Rows.laid_unicode_utf8_acceptRanges), ("postrider/coding.kinds", Rows.laid_postrider_coding_kinds), ("unicode/utf8.first", Rows.laid_unicode_utf8_first)] ((laidWorld os).forCall (fun _ _ => 0) ⟨#[], args, []⟩).memory := by
  rw [MakeChecks.laidMetH_plain _ _ _ (by kernel_rfl)]
  exact laidMet_of_run' 8 (by kernel_rfl) (by kernel_rfl)
theorem heap_four {W : World} {o : Nat} {v : Value} (h : W.cell? ⟨3, o, none⟩ = some v) : 4 ≤ W.heap.size := by
  by_cases hs : 4 ≤ W.heap.size
  · exact hs
  · have e : W.heap[3]? = none := by simp; omega
    simp [World.cell?, e] at h

/-- bytes that come in: what the row's own reading says of them. -/
theorem bytes_in {H : Type} {enc : TypeId × Value → H} {W : World} {v : Value} {d : DataW H} {ps : List MemPlace} {ts : List TypeId} {ds : List (DataW H)} {j : Nat} (hv : ∃ a n c, v = .slice a n c) (hsz : (DataW.weightsEach Tryd.prog ts ds).all (· ≤ reachBytes) = true) (ht : ts[j]? = some 22) (hd : ds[j]? = some d)
    (h : DataW.Trod enc Tryd.prog W 0 (fun _ => true) true 22 v d ps) : ∃ p n cap l, v = .slice p n cap ∧ n ≤ cap ∧ cap ≤ 140737488351232 ∧ (∀ x ∈ l, x < 256) ∧ Bytes W (.slice p n cap) l := by
  obtain ⟨a, n, c, rfl⟩ := hv
  obtain ⟨fuel, hf⟩ := h
  rcases open_ints Tryd.underlying22 Tryd.underlying5 cells5 hf with ⟨hcs, _⟩ | ⟨x, l, cp, zs, hcs, _, hl, _, hz, hx, hc, hw⟩
  · simp [Value.cells] at hcs
    obtain ⟨rfl, rfl, rfl⟩ := hcs
    exact ⟨none, 0, 0, [], rfl, by omega, by omega, by simp, ⟨none, 0, rfl, .inl rfl⟩⟩
  · simp [Value.cells] at hcs
    obtain ⟨rfl, rfl, rfl⟩ := hcs
    simp only [if_true] at hz
    obtain ⟨hx, _⟩ := Prod.mk.inj hx
    subst hx
    have z := sized_slice hsz ht hd Tryd.underlying22
    rw [bytes5] at z
    have h1 : (lits (H := H) .u8 (zs.take n)).length + (lits (H := H) .u8 (zs.drop n)).length = zs.length := by
      simp [lits]
      omega
    rw [h1, hz] at z
    refine ⟨some x, n, c, (zs.take n).map Int.toNat, rfl, hl, by simpa [reachBytes] using z, ?_, ?_⟩
    · intro y hy
      obtain ⟨u, hu, rfl⟩ := List.mem_map.1 hy
      have hu2 := hw u (List.mem_of_mem_take hu)
      have hmin : IntKind.u8.min = 0 := rfl
      have hmax : IntKind.u8.max = 255 := rfl
      simp [Lit.wf, hmin, hmax] at hu2
      omega
    · have hlen : ((zs.take n).map Int.toNat).length = n := by simp; omega
      refine ⟨some x, c, by rw [hlen], ?_⟩
      by_cases hn : n = 0
      · left
        exact List.length_eq_zero_iff.1 (by rw [hlen, hn])
      · right
        have hx0 := hc 0 (by omega)
        obtain ⟨b, o, sp⟩ := x
        have hsp : sp = none := by
          cases sp with
          | none => rfl
          | some k =>
            exfalso
            simp only [World.cell?, Addr.add] at hx0
            split at hx0 <;> simp at hx0
        subst hsp
        refine ⟨b, o, rfl, ?_, fun i hi => ?_⟩
        · by_cases hs : b < W.heap.size
          · exact hs
          · have e : W.heap[b]? = none := by simp; omega
            simp [World.cell?, Addr.add, e] at hx0
        · rw [hlen] at hi
          have hi0 := hc i (by omega)
          have hzi : zs.getD i 0 ∈ zs := by
            rw [List.getD_eq_getElem?_getD, List.getElem?_eq_getElem (by omega)]
            exact List.getElem_mem _
          have hu2 := hw _ hzi
          have hmin : IntKind.u8.min = 0 := rfl
          have hmax : IntKind.u8.max = 255 := rfl
          simp only [Lit.wf, hmin, hmax, Bool.and_eq_true, decide_eq_true_eq] at hu2
          have e2 : (((zs.take n).map Int.toNat).getD i 0 : Nat) = (zs.getD i 0).toNat := by
            simp [List.getD_eq_getElem?_getD, List.getElem?_take, hi, List.getElem?_eq_getElem (show i < zs.length by omega)]
          rw [e2, Int.toNat_of_nonneg (by omega)]
          by_cases h0 : i = 0
          · subst h0; simpa [Addr.add] using hi0
          · simpa [Addr.add, h0] using hi0
theorem tabs_of {W : World} (hL : laidMetH Tryd.prog [("unicode/utf8.acceptRanges", Rows.laid_unicode_utf8_acceptRanges), ("postrider/coding.kinds", Rows.laid_postrider_coding_kinds), ("unicode/utf8.first", Rows.laid_unicode_utf8_first)] W) : Tabs W := by
  rw [MakeChecks.laidMetH_plain _ _ _ (by kernel_rfl)] at hL
  have h2 := laidMet.reads hL (.head _)
  have h3 := laidMet.reads hL (.tail _ (.tail _ (.head _)))
  exact tabs_of_laid hL (.tail _ (.head _)) (.tail _ (.tail _ (.head _))) (.head _) (heap_four ((utf8Tabs_of_reads Tryd.lays260 ⟨by kernel_rfl, by kernel_rfl, by kernel_rfl, by kernel_rfl, by kernel_rfl, by kernel_rfl, by kernel_rfl⟩ h3 h2).2 0 (by omega)).1)
end Go.Proofs.YthnohioamefbmaaDoor

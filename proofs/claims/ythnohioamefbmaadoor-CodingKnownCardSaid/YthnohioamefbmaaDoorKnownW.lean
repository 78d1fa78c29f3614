/- The law CodingKnown, walked: it returns true where the package's table and unicode/utf8's two tables read as their texts lay them. -/
import Derived.Test.YthnohioamefbmaaDoorConv
import Derived.Test.YthnohioamefbmaaDoorKnownA
import Derived.Laws.EntriesVeiled
import Derived.Deep.RegionLaw
namespace Go.Proofs.YthnohioamefbmaaDoor
open Go.RowKit Go.Lib
set_option linter.unusedSimpArgs false
set_option linter.unusedVariables false

theorem bytes_alloc (w : World) (C : Array Value) (l : List Nat) (n B cap : Nat) (hB : w.heap.size = B) (hn : l.length = n) (hC : C = (l.map fun (x : Nat) => Value.int .u8 (x : Int)).toArray) : Bytes (w.alloc (.cells C 5)) (.slice (some ⟨B, 0, none⟩) n cap) l := by
  subst hB hn hC
  refine ⟨some ⟨w.heap.size, 0, none⟩, cap, rfl, .inr ⟨w.heap.size, 0, rfl, by rw [World.size_alloc]; omega, fun i hi => ?_⟩⟩
  have h : (w.alloc (.cells (l.map fun (x : Nat) => Value.int .u8 (x : Int)).toArray 5)).heap[w.heap.size]? = some (.cells (l.map fun (x : Nat) => Value.int .u8 (x : Int)).toArray 5 (0, 0)) := heap_last _ _
  simp only [World.cell?, h]
  simp [hi, List.getD_eq_getElem?_getD]
def KRel (w : World) (n g : Nat) (v : Value) (W : World) : Prop := ∃ i : Nat, i ≤ n ∧ g = n - i ∧ v = .int .i64 i ∧ Below w.heap.size w W
theorem three_new (w : World) (x y z : Value) : (w.alloc (.cells #[x, y, z] 37)).cell? ⟨w.heap.size, 0, none⟩ = some x ∧ (w.alloc (.cells #[x, y, z] 37)).cell? ⟨w.heap.size, 1, none⟩ = some y ∧ (w.alloc (.cells #[x, y, z] 37)).cell? ⟨w.heap.size, 2, none⟩ = some z := by
  have h : (w.alloc (.cells #[x, y, z] 37)).heap[w.heap.size]? = some (.cells #[x, y, z] 37 (0, 0)) := heap_last _ _
  simp only [World.cell?, h]
  exact ⟨rfl, rfl, rfl⟩
theorem three_below {W W' : World} {B : Nat} {x y z : Value} (h : W.cell? ⟨B, 0, none⟩ = some x ∧ W.cell? ⟨B, 1, none⟩ = some y ∧ W.cell? ⟨B, 2, none⟩ = some z) (hB : B < W.heap.size) (hb : Below W.heap.size W W') :
    W'.cell? ⟨B, 0, none⟩ = some x ∧ W'.cell? ⟨B, 1, none⟩ = some y ∧ W'.cell? ⟨B, 2, none⟩ = some z :=
  ⟨(hb.cell (p := ⟨B, 0, none⟩) hB).trans h.1, (hb.cell (p := ⟨B, 1, none⟩) hB).trans h.2.1, (hb.cell (p := ⟨B, 2, none⟩) hB).trans h.2.2⟩
theorem cnv_call32 (s : ByteArray) (l : List Nat) (hl : s.data.toList.map UInt8.toNat = l) (n : Nat) (hn : s.size = n) (r : List UInt8) (hr : tellL L32 5 1 l = r) (hlen : l.length ≤ 100000) (hlf : ∀ x ∈ l, x < 256) (W : World) (hT : Tabs W) (B : Nat) (hB : W.heap.size = B) (cap : Nat) :
    Calls Tryd.prog 12 #[.slice (some ⟨B, 0, none⟩) n cap] (cnv W s) fun e w' => e = .returned (.string ⟨r.toArray⟩) ∧ Below (cnv W s).heap.size (cnv W s) w' := by
  subst hr hl hB
  exact base32_any _ _ hlen _ (hT.below (cnv_below W s)) hlf (cnv_bytes W s n cap hn)
theorem cnv_call64 (s : ByteArray) (l : List Nat) (hl : s.data.toList.map UInt8.toNat = l) (n : Nat) (hn : s.size = n) (r : List UInt8) (hr : tellL L64 6 4 l = r) (hlen : l.length ≤ 100000) (hlf : ∀ x ∈ l, x < 256) (W : World) (hT : Tabs W) (B : Nat) (hB : W.heap.size = B) (cap : Nat) :
    Calls Tryd.prog 13 #[.slice (some ⟨B, 0, none⟩) n cap] (cnv W s) fun e w' => e = .returned (.string ⟨r.toArray⟩) ∧ Below (cnv W s).heap.size (cnv W s) w' := by
  subst hr hl hB
  exact base64_any _ _ hlen _ (hT.below (cnv_below W s)) hlf (cnv_bytes W s n cap hn)
theorem bad32 (s : ByteArray) (hs : s.size ≤ 10000) (hm : (Lib.mapD greatF s.data.toList).length ≤ 30000) (h : readL L32 5 1 (Lib.mapD greatF s.data.toList) = none) (w : World) (hT : Tabs w) :
    Calls Tryd.prog 14 #[.string s] w fun e w' => (∃ v, e = .returned (.tuple #[v, .int .i64 5])) ∧ Below w.heap.size w w' := by
  refine (from32_any s hs w hT hm).mono ?_
  rintro e w' ⟨v, out, c, rfl, _, hc, hb⟩
  rw [h] at hc
  rcases hc with ⟨_, _, rfl⟩ | ⟨hc, _⟩
  · exact ⟨⟨v, rfl⟩, hb⟩
  · cases hc
theorem bad64 (s : ByteArray) (hs : s.size ≤ 10000) (h : readL L64 6 4 s.data.toList = none) (w : World) (hT : Tabs w) :
    Calls Tryd.prog 15 #[.string s] w fun e w' => (∃ v, e = .returned (.tuple #[v, .int .i64 5])) ∧ Below w.heap.size w w' := by
  refine (from64_any s hs w hT).mono ?_
  rintro e w' ⟨v, out, c, rfl, _, hc, hb⟩
  rw [h] at hc
  rcases hc with ⟨_, _, rfl⟩ | ⟨hc, _⟩
  · exact ⟨⟨v, rfl⟩, hb⟩
  · cases hc
theorem bad16 (s : ByteArray) (hs : s.size ≤ 10000) (hm : (Lib.mapD smallF s.data.toList).length ≤ 30000) (h : readL L16 4 1 (Lib.mapD smallF s.data.toList) = none) (w : World) (hT : Tabs w) :
    Calls Tryd.prog 16 #[.string s] w fun e w' => (∃ v, e = .returned (.tuple #[v, .int .i64 5])) ∧ Below w.heap.size w w' := by
  refine (fromHex_any s hs w hT hm).mono ?_
  rintro e w' ⟨v, out, c, rfl, _, hc, hb⟩
  rw [h] at hc
  rcases hc with ⟨_, _, rfl⟩ | ⟨hc, _⟩
  · exact ⟨⟨v, rfl⟩, hb⟩
  · cases hc
theorem good {r : Option (List Nat)} {l : List Nat} {w : World} {e : Ending} {w' : World} (hr : r = some l) (h : ReadPost w r e w') : ∃ v, e = .returned (.tuple #[v, .int .i64 0]) ∧ Bytes w' v l ∧ Below w.heap.size w w' := by
  obtain ⟨v, out, c, rfl, hb, hc, hbel⟩ := h
  rw [hr] at hc
  rcases hc with ⟨hc, _⟩ | ⟨hc, rfl⟩
  · cases hc
  · cases hc; exact ⟨v, rfl, hb, hbel⟩
theorem kx1_0 (W : World) : (Instr.index 38 (.agg #[.string ⟨#[]⟩, .string ⟨#[]⟩, .string ⟨#[]⟩, .string ⟨#[102, 111]⟩, .string ⟨#[77, 90, 88, 81]⟩, .string ⟨#[90, 109, 56, 61]⟩, .string ⟨#[102, 111, 111]⟩, .string ⟨#[77, 90, 88, 87, 54]⟩, .string ⟨#[90, 109, 57, 118]⟩, .string ⟨#[102, 111, 111, 98]⟩, .string ⟨#[77, 90, 88, 87, 54, 89, 81]⟩, .string ⟨#[90, 109, 57, 118, 89, 103, 61, 61]⟩, .string ⟨#[102, 111, 111, 98, 97]⟩, .string ⟨#[77, 90, 88, 87, 54, 89, 84, 66]⟩, .string ⟨#[90, 109, 57, 118, 89, 109, 69, 61]⟩]) (.int .i64 0)).run Tryd.prog W = .ok (.agg #[.string ⟨#[]⟩, .string ⟨#[]⟩, .string ⟨#[]⟩]) W := by kernel_rfl
theorem kx1_1 (W : World) : (Instr.index 38 (.agg #[.string ⟨#[]⟩, .string ⟨#[]⟩, .string ⟨#[]⟩, .string ⟨#[102, 111]⟩, .string ⟨#[77, 90, 88, 81]⟩, .string ⟨#[90, 109, 56, 61]⟩, .string ⟨#[102, 111, 111]⟩, .string ⟨#[77, 90, 88, 87, 54]⟩, .string ⟨#[90, 109, 57, 118]⟩, .string ⟨#[102, 111, 111, 98]⟩, .string ⟨#[77, 90, 88, 87, 54, 89, 81]⟩, .string ⟨#[90, 109, 57, 118, 89, 103, 61, 61]⟩, .string ⟨#[102, 111, 111, 98, 97]⟩, .string ⟨#[77, 90, 88, 87, 54, 89, 84, 66]⟩, .string ⟨#[90, 109, 57, 118, 89, 109, 69, 61]⟩]) (.int .i64 1)).run Tryd.prog W = .ok (.agg #[.string ⟨#[102, 111]⟩, .string ⟨#[77, 90, 88, 81]⟩, .string ⟨#[90, 109, 56, 61]⟩]) W := by kernel_rfl
theorem kx1_2 (W : World) : (Instr.index 38 (.agg #[.string ⟨#[]⟩, .string ⟨#[]⟩, .string ⟨#[]⟩, .string ⟨#[102, 111]⟩, .string ⟨#[77, 90, 88, 81]⟩, .string ⟨#[90, 109, 56, 61]⟩, .string ⟨#[102, 111, 111]⟩, .string ⟨#[77, 90, 88, 87, 54]⟩, .string ⟨#[90, 109, 57, 118]⟩, .string ⟨#[102, 111, 111, 98]⟩, .string ⟨#[77, 90, 88, 87, 54, 89, 81]⟩, .string ⟨#[90, 109, 57, 118, 89, 103, 61, 61]⟩, .string ⟨#[102, 111, 111, 98, 97]⟩, .string ⟨#[77, 90, 88, 87, 54, 89, 84, 66]⟩, .string ⟨#[90, 109, 57, 118, 89, 109, 69, 61]⟩]) (.int .i64 2)).run Tryd.prog W = .ok (.agg #[.string ⟨#[102, 111, 111]⟩, .string ⟨#[77, 90, 88, 87, 54]⟩, .string ⟨#[90, 109, 57, 118]⟩]) W := by kernel_rfl
theorem kx1_3 (W : World) : (Instr.index 38 (.agg #[.string ⟨#[]⟩, .string ⟨#[]⟩, .string ⟨#[]⟩, .string ⟨#[102, 111]⟩, .string ⟨#[77, 90, 88, 81]⟩, .string ⟨#[90, 109, 56, 61]⟩, .string ⟨#[102, 111, 111]⟩, .string ⟨#[77, 90, 88, 87, 54]⟩, .string ⟨#[90, 109, 57, 118]⟩, .string ⟨#[102, 111, 111, 98]⟩, .string ⟨#[77, 90, 88, 87, 54, 89, 81]⟩, .string ⟨#[90, 109, 57, 118, 89, 103, 61, 61]⟩, .string ⟨#[102, 111, 111, 98, 97]⟩, .string ⟨#[77, 90, 88, 87, 54, 89, 84, 66]⟩, .string ⟨#[90, 109, 57, 118, 89, 109, 69, 61]⟩]) (.int .i64 3)).run Tryd.prog W = .ok (.agg #[.string ⟨#[102, 111, 111, 98]⟩, .string ⟨#[77, 90, 88, 87, 54, 89, 81]⟩, .string ⟨#[90, 109, 57, 118, 89, 103, 61, 61]⟩]) W := by kernel_rfl
theorem kx1_4 (W : World) : (Instr.index 38 (.agg #[.string ⟨#[]⟩, .string ⟨#[]⟩, .string ⟨#[]⟩, .string ⟨#[102, 111]⟩, .string ⟨#[77, 90, 88, 81]⟩, .string ⟨#[90, 109, 56, 61]⟩, .string ⟨#[102, 111, 111]⟩, .string ⟨#[77, 90, 88, 87, 54]⟩, .string ⟨#[90, 109, 57, 118]⟩, .string ⟨#[102, 111, 111, 98]⟩, .string ⟨#[77, 90, 88, 87, 54, 89, 81]⟩, .string ⟨#[90, 109, 57, 118, 89, 103, 61, 61]⟩, .string ⟨#[102, 111, 111, 98, 97]⟩, .string ⟨#[77, 90, 88, 87, 54, 89, 84, 66]⟩, .string ⟨#[90, 109, 57, 118, 89, 109, 69, 61]⟩]) (.int .i64 4)).run Tryd.prog W = .ok (.agg #[.string ⟨#[102, 111, 111, 98, 97]⟩, .string ⟨#[77, 90, 88, 87, 54, 89, 84, 66]⟩, .string ⟨#[90, 109, 57, 118, 89, 109, 69, 61]⟩]) W := by kernel_rfl
theorem kx2_0 (W : World) : (Instr.index 39 (.agg #[.string ⟨#[77]⟩, .string ⟨#[77, 90, 88]⟩, .string ⟨#[77, 90]⟩, .string ⟨#[77, 49]⟩, .string ⟨#[77, 90, 88, 87, 54, 89]⟩, .string ⟨#[77, 89, 61, 61, 61, 61, 61, 61]⟩, .string ⟨#[77, 32]⟩, .string ⟨#[77, 90, 88, 87, 54, 89, 84, 66, 79]⟩, .string ⟨#[197, 191, 197, 191]⟩]) (.int .i64 0)).run Tryd.prog W = .ok (.string ⟨#[77]⟩) W := by kernel_rfl
theorem kx2_1 (W : World) : (Instr.index 39 (.agg #[.string ⟨#[77]⟩, .string ⟨#[77, 90, 88]⟩, .string ⟨#[77, 90]⟩, .string ⟨#[77, 49]⟩, .string ⟨#[77, 90, 88, 87, 54, 89]⟩, .string ⟨#[77, 89, 61, 61, 61, 61, 61, 61]⟩, .string ⟨#[77, 32]⟩, .string ⟨#[77, 90, 88, 87, 54, 89, 84, 66, 79]⟩, .string ⟨#[197, 191, 197, 191]⟩]) (.int .i64 1)).run Tryd.prog W = .ok (.string ⟨#[77, 90, 88]⟩) W := by kernel_rfl
theorem kx2_2 (W : World) : (Instr.index 39 (.agg #[.string ⟨#[77]⟩, .string ⟨#[77, 90, 88]⟩, .string ⟨#[77, 90]⟩, .string ⟨#[77, 49]⟩, .string ⟨#[77, 90, 88, 87, 54, 89]⟩, .string ⟨#[77, 89, 61, 61, 61, 61, 61, 61]⟩, .string ⟨#[77, 32]⟩, .string ⟨#[77, 90, 88, 87, 54, 89, 84, 66, 79]⟩, .string ⟨#[197, 191, 197, 191]⟩]) (.int .i64 2)).run Tryd.prog W = .ok (.string ⟨#[77, 90]⟩) W := by kernel_rfl
theorem kx2_3 (W : World) : (Instr.index 39 (.agg #[.string ⟨#[77]⟩, .string ⟨#[77, 90, 88]⟩, .string ⟨#[77, 90]⟩, .string ⟨#[77, 49]⟩, .string ⟨#[77, 90, 88, 87, 54, 89]⟩, .string ⟨#[77, 89, 61, 61, 61, 61, 61, 61]⟩, .string ⟨#[77, 32]⟩, .string ⟨#[77, 90, 88, 87, 54, 89, 84, 66, 79]⟩, .string ⟨#[197, 191, 197, 191]⟩]) (.int .i64 3)).run Tryd.prog W = .ok (.string ⟨#[77, 49]⟩) W := by kernel_rfl
theorem kx2_4 (W : World) : (Instr.index 39 (.agg #[.string ⟨#[77]⟩, .string ⟨#[77, 90, 88]⟩, .string ⟨#[77, 90]⟩, .string ⟨#[77, 49]⟩, .string ⟨#[77, 90, 88, 87, 54, 89]⟩, .string ⟨#[77, 89, 61, 61, 61, 61, 61, 61]⟩, .string ⟨#[77, 32]⟩, .string ⟨#[77, 90, 88, 87, 54, 89, 84, 66, 79]⟩, .string ⟨#[197, 191, 197, 191]⟩]) (.int .i64 4)).run Tryd.prog W = .ok (.string ⟨#[77, 90, 88, 87, 54, 89]⟩) W := by kernel_rfl
theorem kx2_5 (W : World) : (Instr.index 39 (.agg #[.string ⟨#[77]⟩, .string ⟨#[77, 90, 88]⟩, .string ⟨#[77, 90]⟩, .string ⟨#[77, 49]⟩, .string ⟨#[77, 90, 88, 87, 54, 89]⟩, .string ⟨#[77, 89, 61, 61, 61, 61, 61, 61]⟩, .string ⟨#[77, 32]⟩, .string ⟨#[77, 90, 88, 87, 54, 89, 84, 66, 79]⟩, .string ⟨#[197, 191, 197, 191]⟩]) (.int .i64 5)).run Tryd.prog W = .ok (.string ⟨#[77, 89, 61, 61, 61, 61, 61, 61]⟩) W := by kernel_rfl
theorem kx2_6 (W : World) : (Instr.index 39 (.agg #[.string ⟨#[77]⟩, .string ⟨#[77, 90, 88]⟩, .string ⟨#[77, 90]⟩, .string ⟨#[77, 49]⟩, .string ⟨#[77, 90, 88, 87, 54, 89]⟩, .string ⟨#[77, 89, 61, 61, 61, 61, 61, 61]⟩, .string ⟨#[77, 32]⟩, .string ⟨#[77, 90, 88, 87, 54, 89, 84, 66, 79]⟩, .string ⟨#[197, 191, 197, 191]⟩]) (.int .i64 6)).run Tryd.prog W = .ok (.string ⟨#[77, 32]⟩) W := by kernel_rfl
theorem kx2_7 (W : World) : (Instr.index 39 (.agg #[.string ⟨#[77]⟩, .string ⟨#[77, 90, 88]⟩, .string ⟨#[77, 90]⟩, .string ⟨#[77, 49]⟩, .string ⟨#[77, 90, 88, 87, 54, 89]⟩, .string ⟨#[77, 89, 61, 61, 61, 61, 61, 61]⟩, .string ⟨#[77, 32]⟩, .string ⟨#[77, 90, 88, 87, 54, 89, 84, 66, 79]⟩, .string ⟨#[197, 191, 197, 191]⟩]) (.int .i64 7)).run Tryd.prog W = .ok (.string ⟨#[77, 90, 88, 87, 54, 89, 84, 66, 79]⟩) W := by kernel_rfl
theorem kx2_8 (W : World) : (Instr.index 39 (.agg #[.string ⟨#[77]⟩, .string ⟨#[77, 90, 88]⟩, .string ⟨#[77, 90]⟩, .string ⟨#[77, 49]⟩, .string ⟨#[77, 90, 88, 87, 54, 89]⟩, .string ⟨#[77, 89, 61, 61, 61, 61, 61, 61]⟩, .string ⟨#[77, 32]⟩, .string ⟨#[77, 90, 88, 87, 54, 89, 84, 66, 79]⟩, .string ⟨#[197, 191, 197, 191]⟩]) (.int .i64 8)).run Tryd.prog W = .ok (.string ⟨#[197, 191, 197, 191]⟩) W := by kernel_rfl
theorem kx3_0 (W : World) : (Instr.index 40 (.agg #[.string ⟨#[90]⟩, .string ⟨#[90, 103]⟩, .string ⟨#[90, 103, 61]⟩, .string ⟨#[90, 104, 61, 61]⟩, .string ⟨#[90, 109, 57, 61]⟩, .string ⟨#[61]⟩, .string ⟨#[61, 61, 61, 61]⟩, .string ⟨#[90, 103, 61, 61, 90, 103, 61, 61]⟩, .string ⟨#[90, 109, 57, 118, 61]⟩, .string ⟨#[90, 109, 57, 118, 61, 61, 61, 61]⟩, .string ⟨#[90, 109, 45, 118]⟩, .string ⟨#[90, 103, 32, 61]⟩, .string ⟨#[90, 61, 61, 61]⟩]) (.int .i64 0)).run Tryd.prog W = .ok (.string ⟨#[90]⟩) W := by kernel_rfl
theorem kx3_1 (W : World) : (Instr.index 40 (.agg #[.string ⟨#[90]⟩, .string ⟨#[90, 103]⟩, .string ⟨#[90, 103, 61]⟩, .string ⟨#[90, 104, 61, 61]⟩, .string ⟨#[90, 109, 57, 61]⟩, .string ⟨#[61]⟩, .string ⟨#[61, 61, 61, 61]⟩, .string ⟨#[90, 103, 61, 61, 90, 103, 61, 61]⟩, .string ⟨#[90, 109, 57, 118, 61]⟩, .string ⟨#[90, 109, 57, 118, 61, 61, 61, 61]⟩, .string ⟨#[90, 109, 45, 118]⟩, .string ⟨#[90, 103, 32, 61]⟩, .string ⟨#[90, 61, 61, 61]⟩]) (.int .i64 1)).run Tryd.prog W = .ok (.string ⟨#[90, 103]⟩) W := by kernel_rfl
theorem kx3_2 (W : World) : (Instr.index 40 (.agg #[.string ⟨#[90]⟩, .string ⟨#[90, 103]⟩, .string ⟨#[90, 103, 61]⟩, .string ⟨#[90, 104, 61, 61]⟩, .string ⟨#[90, 109, 57, 61]⟩, .string ⟨#[61]⟩, .string ⟨#[61, 61, 61, 61]⟩, .string ⟨#[90, 103, 61, 61, 90, 103, 61, 61]⟩, .string ⟨#[90, 109, 57, 118, 61]⟩, .string ⟨#[90, 109, 57, 118, 61, 61, 61, 61]⟩, .string ⟨#[90, 109, 45, 118]⟩, .string ⟨#[90, 103, 32, 61]⟩, .string ⟨#[90, 61, 61, 61]⟩]) (.int .i64 2)).run Tryd.prog W = .ok (.string ⟨#[90, 103, 61]⟩) W := by kernel_rfl
theorem kx3_3 (W : World) : (Instr.index 40 (.agg #[.string ⟨#[90]⟩, .string ⟨#[90, 103]⟩, .string ⟨#[90, 103, 61]⟩, .string ⟨#[90, 104, 61, 61]⟩, .string ⟨#[90, 109, 57, 61]⟩, .string ⟨#[61]⟩, .string ⟨#[61, 61, 61, 61]⟩, .string ⟨#[90, 103, 61, 61, 90, 103, 61, 61]⟩, .string ⟨#[90, 109, 57, 118, 61]⟩, .string ⟨#[90, 109, 57, 118, 61, 61, 61, 61]⟩, .string ⟨#[90, 109, 45, 118]⟩, .string ⟨#[90, 103, 32, 61]⟩, .string ⟨#[90, 61, 61, 61]⟩]) (.int .i64 3)).run Tryd.prog W = .ok (.string ⟨#[90, 104, 61, 61]⟩) W := by kernel_rfl
theorem kx3_4 (W : World) : (Instr.index 40 (.agg #[.string ⟨#[90]⟩, .string ⟨#[90, 103]⟩, .string ⟨#[90, 103, 61]⟩, .string ⟨#[90, 104, 61, 61]⟩, .string ⟨#[90, 109, 57, 61]⟩, .string ⟨#[61]⟩, .string ⟨#[61, 61, 61, 61]⟩, .string ⟨#[90, 103, 61, 61, 90, 103, 61, 61]⟩, .string ⟨#[90, 109, 57, 118, 61]⟩, .string ⟨#[90, 109, 57, 118, 61, 61, 61, 61]⟩, .string ⟨#[90, 109, 45, 118]⟩, .string ⟨#[90, 103, 32, 61]⟩, .string ⟨#[90, 61, 61, 61]⟩]) (.int .i64 4)).run Tryd.prog W = .ok (.string ⟨#[90, 109, 57, 61]⟩) W := by kernel_rfl
theorem kx3_5 (W : World) : (Instr.index 40 (.agg #[.string ⟨#[90]⟩, .string ⟨#[90, 103]⟩, .string ⟨#[90, 103, 61]⟩, .string ⟨#[90, 104, 61, 61]⟩, .string ⟨#[90, 109, 57, 61]⟩, .string ⟨#[61]⟩, .string ⟨#[61, 61, 61, 61]⟩, .string ⟨#[90, 103, 61, 61, 90, 103, 61, 61]⟩, .string ⟨#[90, 109, 57, 118, 61]⟩, .string ⟨#[90, 109, 57, 118, 61, 61, 61, 61]⟩, .string ⟨#[90, 109, 45, 118]⟩, .string ⟨#[90, 103, 32, 61]⟩, .string ⟨#[90, 61, 61, 61]⟩]) (.int .i64 5)).run Tryd.prog W = .ok (.string ⟨#[61]⟩) W := by kernel_rfl
theorem kx3_6 (W : World) : (Instr.index 40 (.agg #[.string ⟨#[90]⟩, .string ⟨#[90, 103]⟩, .string ⟨#[90, 103, 61]⟩, .string ⟨#[90, 104, 61, 61]⟩, .string ⟨#[90, 109, 57, 61]⟩, .string ⟨#[61]⟩, .string ⟨#[61, 61, 61, 61]⟩, .string ⟨#[90, 103, 61, 61, 90, 103, 61, 61]⟩, .string ⟨#[90, 109, 57, 118, 61]⟩, .string ⟨#[90, 109, 57, 118, 61, 61, 61, 61]⟩, .string ⟨#[90, 109, 45, 118]⟩, .string ⟨#[90, 103, 32, 61]⟩, .string ⟨#[90, 61, 61, 61]⟩]) (.int .i64 6)).run Tryd.prog W = .ok (.string ⟨#[61, 61, 61, 61]⟩) W := by kernel_rfl
theorem kx3_7 (W : World) : (Instr.index 40 (.agg #[.string ⟨#[90]⟩, .string ⟨#[90, 103]⟩, .string ⟨#[90, 103, 61]⟩, .string ⟨#[90, 104, 61, 61]⟩, .string ⟨#[90, 109, 57, 61]⟩, .string ⟨#[61]⟩, .string ⟨#[61, 61, 61, 61]⟩, .string ⟨#[90, 103, 61, 61, 90, 103, 61, 61]⟩, .string ⟨#[90, 109, 57, 118, 61]⟩, .string ⟨#[90, 109, 57, 118, 61, 61, 61, 61]⟩, .string ⟨#[90, 109, 45, 118]⟩, .string ⟨#[90, 103, 32, 61]⟩, .string ⟨#[90, 61, 61, 61]⟩]) (.int .i64 7)).run Tryd.prog W = .ok (.string ⟨#[90, 103, 61, 61, 90, 103, 61, 61]⟩) W := by kernel_rfl
theorem kx3_8 (W : World) : (Instr.index 40 (.agg #[.string ⟨#[90]⟩, .string ⟨#[90, 103]⟩, .string ⟨#[90, 103, 61]⟩, .string ⟨#[90, 104, 61, 61]⟩, .string ⟨#[90, 109, 57, 61]⟩, .string ⟨#[61]⟩, .string ⟨#[61, 61, 61, 61]⟩, .string ⟨#[90, 103, 61, 61, 90, 103, 61, 61]⟩, .string ⟨#[90, 109, 57, 118, 61]⟩, .string ⟨#[90, 109, 57, 118, 61, 61, 61, 61]⟩, .string ⟨#[90, 109, 45, 118]⟩, .string ⟨#[90, 103, 32, 61]⟩, .string ⟨#[90, 61, 61, 61]⟩]) (.int .i64 8)).run Tryd.prog W = .ok (.string ⟨#[90, 109, 57, 118, 61]⟩) W := by kernel_rfl
theorem kx3_9 (W : World) : (Instr.index 40 (.agg #[.string ⟨#[90]⟩, .string ⟨#[90, 103]⟩, .string ⟨#[90, 103, 61]⟩, .string ⟨#[90, 104, 61, 61]⟩, .string ⟨#[90, 109, 57, 61]⟩, .string ⟨#[61]⟩, .string ⟨#[61, 61, 61, 61]⟩, .string ⟨#[90, 103, 61, 61, 90, 103, 61, 61]⟩, .string ⟨#[90, 109, 57, 118, 61]⟩, .string ⟨#[90, 109, 57, 118, 61, 61, 61, 61]⟩, .string ⟨#[90, 109, 45, 118]⟩, .string ⟨#[90, 103, 32, 61]⟩, .string ⟨#[90, 61, 61, 61]⟩]) (.int .i64 9)).run Tryd.prog W = .ok (.string ⟨#[90, 109, 57, 118, 61, 61, 61, 61]⟩) W := by kernel_rfl
theorem kx3_10 (W : World) : (Instr.index 40 (.agg #[.string ⟨#[90]⟩, .string ⟨#[90, 103]⟩, .string ⟨#[90, 103, 61]⟩, .string ⟨#[90, 104, 61, 61]⟩, .string ⟨#[90, 109, 57, 61]⟩, .string ⟨#[61]⟩, .string ⟨#[61, 61, 61, 61]⟩, .string ⟨#[90, 103, 61, 61, 90, 103, 61, 61]⟩, .string ⟨#[90, 109, 57, 118, 61]⟩, .string ⟨#[90, 109, 57, 118, 61, 61, 61, 61]⟩, .string ⟨#[90, 109, 45, 118]⟩, .string ⟨#[90, 103, 32, 61]⟩, .string ⟨#[90, 61, 61, 61]⟩]) (.int .i64 10)).run Tryd.prog W = .ok (.string ⟨#[90, 109, 45, 118]⟩) W := by kernel_rfl
theorem kx3_11 (W : World) : (Instr.index 40 (.agg #[.string ⟨#[90]⟩, .string ⟨#[90, 103]⟩, .string ⟨#[90, 103, 61]⟩, .string ⟨#[90, 104, 61, 61]⟩, .string ⟨#[90, 109, 57, 61]⟩, .string ⟨#[61]⟩, .string ⟨#[61, 61, 61, 61]⟩, .string ⟨#[90, 103, 61, 61, 90, 103, 61, 61]⟩, .string ⟨#[90, 109, 57, 118, 61]⟩, .string ⟨#[90, 109, 57, 118, 61, 61, 61, 61]⟩, .string ⟨#[90, 109, 45, 118]⟩, .string ⟨#[90, 103, 32, 61]⟩, .string ⟨#[90, 61, 61, 61]⟩]) (.int .i64 11)).run Tryd.prog W = .ok (.string ⟨#[90, 103, 32, 61]⟩) W := by kernel_rfl
theorem kx3_12 (W : World) : (Instr.index 40 (.agg #[.string ⟨#[90]⟩, .string ⟨#[90, 103]⟩, .string ⟨#[90, 103, 61]⟩, .string ⟨#[90, 104, 61, 61]⟩, .string ⟨#[90, 109, 57, 61]⟩, .string ⟨#[61]⟩, .string ⟨#[61, 61, 61, 61]⟩, .string ⟨#[90, 103, 61, 61, 90, 103, 61, 61]⟩, .string ⟨#[90, 109, 57, 118, 61]⟩, .string ⟨#[90, 109, 57, 118, 61, 61, 61, 61]⟩, .string ⟨#[90, 109, 45, 118]⟩, .string ⟨#[90, 103, 32, 61]⟩, .string ⟨#[90, 61, 61, 61]⟩]) (.int .i64 12)).run Tryd.prog W = .ok (.string ⟨#[90, 61, 61, 61]⟩) W := by kernel_rfl
theorem kx4_0 (W : World) : (Instr.index 41 (.agg #[.string ⟨#[54]⟩, .string ⟨#[54, 103]⟩, .string ⟨#[48, 120]⟩, .string ⟨#[32, 54]⟩, .string ⟨#[54, 54, 54]⟩]) (.int .i64 0)).run Tryd.prog W = .ok (.string ⟨#[54]⟩) W := by kernel_rfl
theorem kx4_1 (W : World) : (Instr.index 41 (.agg #[.string ⟨#[54]⟩, .string ⟨#[54, 103]⟩, .string ⟨#[48, 120]⟩, .string ⟨#[32, 54]⟩, .string ⟨#[54, 54, 54]⟩]) (.int .i64 1)).run Tryd.prog W = .ok (.string ⟨#[54, 103]⟩) W := by kernel_rfl
theorem kx4_2 (W : World) : (Instr.index 41 (.agg #[.string ⟨#[54]⟩, .string ⟨#[54, 103]⟩, .string ⟨#[48, 120]⟩, .string ⟨#[32, 54]⟩, .string ⟨#[54, 54, 54]⟩]) (.int .i64 2)).run Tryd.prog W = .ok (.string ⟨#[48, 120]⟩) W := by kernel_rfl
theorem kx4_3 (W : World) : (Instr.index 41 (.agg #[.string ⟨#[54]⟩, .string ⟨#[54, 103]⟩, .string ⟨#[48, 120]⟩, .string ⟨#[32, 54]⟩, .string ⟨#[54, 54, 54]⟩]) (.int .i64 3)).run Tryd.prog W = .ok (.string ⟨#[32, 54]⟩) W := by kernel_rfl
theorem kx4_4 (W : World) : (Instr.index 41 (.agg #[.string ⟨#[54]⟩, .string ⟨#[54, 103]⟩, .string ⟨#[48, 120]⟩, .string ⟨#[32, 54]⟩, .string ⟨#[54, 54, 54]⟩]) (.int .i64 4)).run Tryd.prog W = .ok (.string ⟨#[54, 54, 54]⟩) W := by kernel_rfl

set_option maxRecDepth 100000 in
set_option maxHeartbeats 60000000 in
theorem known_any (w : World) (hT : Tabs w) : Calls Tryd.prog 4 #[] w fun e w' => e = .returned (.bool true) ∧ Below w.heap.size w w' := by
  have kc := cnv_run
  go_enter Tryd.func4, Tryd.ntmps4
  go_wp2_with fail
  go_loopg [27] 5 (fun g v W => KRel w 5 g v W)
  case atStart => exact ⟨0, by omega, by omega, rfl, alloc_below _ _⟩
  case round =>
    obtain ⟨i, hi, hig, rfl, hbr⟩ := hrel
    have hTr : Tabs wr := hT.below hbr
    have HIG := Lib.hid hig
    clear hig
    obtain rfl | rfl | rfl | rfl | rfl | rfl : i = 0 ∨ i = 1 ∨ i = 2 ∨ i = 3 ∨ i = 4 ∨ i = 5 := by omega
    · have HC1 := Lib.hid (fun W (hT : Tabs W) B (hB : W.heap.size = B) cap => cnv_call32 ⟨#[]⟩ [] rfl 0 rfl [] kt0a (by decide) (by decide) W hT B hB cap)
      have HC2 := Lib.hid (fun W (hT : Tabs W) B (hB : W.heap.size = B) cap => cnv_call64 ⟨#[]⟩ [] rfl 0 rfl [] kt0b (by decide) (by decide) W hT B hB cap)
      have HN := Lib.hid (three_new wr (.string ⟨#[]⟩) (.string ⟨#[]⟩) (.string ⟨#[]⟩))
      go_wp2_with fail
      rw [kx1_0]
      go_wp2_with fail
      have hS0 := HN.out
      have hlt0 : wr.heap.size < (wr.alloc (.cells #[Value.string ⟨#[]⟩, Value.string ⟨#[]⟩, Value.string ⟨#[]⟩] 37)).heap.size := by rw [World.size_alloc]; omega
      have hS0d := three_below hS0 hlt0 (drew_below _)
      have hT0 := (hTr.below (alloc_below wr (.cells #[Value.string ⟨#[]⟩, Value.string ⟨#[]⟩, Value.string ⟨#[]⟩] 37))).below (drew_below _)
      have hb0 := (alloc_below wr (.cells #[Value.string ⟨#[]⟩, Value.string ⟨#[]⟩, Value.string ⟨#[]⟩] 37)).trans ((drew_below _).mono (by rw [World.size_alloc]; omega))
      obtain ⟨q0, q1, q2⟩ := hS0d
      obtain ⟨c0, c1, c2⟩ := three_below ⟨q0, q1, q2⟩ hlt0 (cnv_below _ ⟨#[]⟩)
      go_region_law (first
          | (go_simp; go_at_call 12; refine (HC1.out _ hT0 _ (by simp) _).mono ?_; rintro e w2 ⟨rfl, hb2⟩; have hc1 := (cnv_below _ _).trans (hb2.mono (cnv_below _ _).size); have hS1 := three_below ⟨q0, q1, q2⟩ hlt0 hc1; have hlt1 := Nat.lt_of_lt_of_le hlt0 hc1.size; obtain ⟨d0, d1, d2⟩ := three_below hS1 hlt1 (cnv_below _ ⟨#[]⟩); obtain ⟨p0, p1, p2⟩ := hS1; have hT1 := hT0.below hc1; have hb1 := hb0.trans (hc1.mono hb0.size))
          | (go_simp; go_at_call 13; refine (HC2.out _ hT1 _ rfl _).mono ?_; rintro e w3 ⟨rfl, hb3⟩; have hc2 := (cnv_below _ _).trans (hb3.mono (cnv_below _ _).size); obtain ⟨r0, r1, r2⟩ := three_below ⟨p0, p1, p2⟩ hlt1 hc2; have hb4 := hb1.trans (hc2.mono hb1.size)))
      all_goals
        go_wp2
        go_roundg 4
        case rel => exact ⟨1, by omega, by omega, rfl, hbr.trans (hb4.mono hbr.size)⟩
        case measure => have := HIG.out; omega
    · have HC1 := Lib.hid (fun W (hT : Tabs W) B (hB : W.heap.size = B) cap => cnv_call32 ⟨#[102, 111]⟩ [102, 111] rfl 2 rfl [77, 90, 88, 81] kt1a (by decide) (by decide) W hT B hB cap)
      have HC2 := Lib.hid (fun W (hT : Tabs W) B (hB : W.heap.size = B) cap => cnv_call64 ⟨#[102, 111]⟩ [102, 111] rfl 2 rfl [90, 109, 56, 61] kt1b (by decide) (by decide) W hT B hB cap)
      have HN := Lib.hid (three_new wr (.string ⟨#[102, 111]⟩) (.string ⟨#[77, 90, 88, 81]⟩) (.string ⟨#[90, 109, 56, 61]⟩))
      go_wp2_with fail
      rw [kx1_1]
      go_wp2_with fail
      have hS0 := HN.out
      have hlt0 : wr.heap.size < (wr.alloc (.cells #[Value.string ⟨#[102, 111]⟩, Value.string ⟨#[77, 90, 88, 81]⟩, Value.string ⟨#[90, 109, 56, 61]⟩] 37)).heap.size := by rw [World.size_alloc]; omega
      have hS0d := three_below hS0 hlt0 (drew_below _)
      have hT0 := (hTr.below (alloc_below wr (.cells #[Value.string ⟨#[102, 111]⟩, Value.string ⟨#[77, 90, 88, 81]⟩, Value.string ⟨#[90, 109, 56, 61]⟩] 37))).below (drew_below _)
      have hb0 := (alloc_below wr (.cells #[Value.string ⟨#[102, 111]⟩, Value.string ⟨#[77, 90, 88, 81]⟩, Value.string ⟨#[90, 109, 56, 61]⟩] 37)).trans ((drew_below _).mono (by rw [World.size_alloc]; omega))
      obtain ⟨q0, q1, q2⟩ := hS0d
      obtain ⟨c0, c1, c2⟩ := three_below ⟨q0, q1, q2⟩ hlt0 (cnv_below _ ⟨#[102, 111]⟩)
      go_region_law (first
          | (go_simp; go_at_call 12; refine (HC1.out _ hT0 _ (by simp) _).mono ?_; rintro e w2 ⟨rfl, hb2⟩; have hc1 := (cnv_below _ _).trans (hb2.mono (cnv_below _ _).size); have hS1 := three_below ⟨q0, q1, q2⟩ hlt0 hc1; have hlt1 := Nat.lt_of_lt_of_le hlt0 hc1.size; obtain ⟨d0, d1, d2⟩ := three_below hS1 hlt1 (cnv_below _ ⟨#[102, 111]⟩); obtain ⟨p0, p1, p2⟩ := hS1; have hT1 := hT0.below hc1; have hb1 := hb0.trans (hc1.mono hb0.size))
          | (go_simp; go_at_call 13; refine (HC2.out _ hT1 _ rfl _).mono ?_; rintro e w3 ⟨rfl, hb3⟩; have hc2 := (cnv_below _ _).trans (hb3.mono (cnv_below _ _).size); obtain ⟨r0, r1, r2⟩ := three_below ⟨p0, p1, p2⟩ hlt1 hc2; have hb4 := hb1.trans (hc2.mono hb1.size)))
      all_goals
        go_wp2
        go_roundg 3
        case rel => exact ⟨2, by omega, by omega, rfl, hbr.trans (hb4.mono hbr.size)⟩
        case measure => have := HIG.out; omega
    · have HC1 := Lib.hid (fun W (hT : Tabs W) B (hB : W.heap.size = B) cap => cnv_call32 ⟨#[102, 111, 111]⟩ [102, 111, 111] rfl 3 rfl [77, 90, 88, 87, 54] kt2a (by decide) (by decide) W hT B hB cap)
      have HC2 := Lib.hid (fun W (hT : Tabs W) B (hB : W.heap.size = B) cap => cnv_call64 ⟨#[102, 111, 111]⟩ [102, 111, 111] rfl 3 rfl [90, 109, 57, 118] kt2b (by decide) (by decide) W hT B hB cap)
      have HN := Lib.hid (three_new wr (.string ⟨#[102, 111, 111]⟩) (.string ⟨#[77, 90, 88, 87, 54]⟩) (.string ⟨#[90, 109, 57, 118]⟩))
      go_wp2_with fail
      rw [kx1_2]
      go_wp2_with fail
      have hS0 := HN.out
      have hlt0 : wr.heap.size < (wr.alloc (.cells #[Value.string ⟨#[102, 111, 111]⟩, Value.string ⟨#[77, 90, 88, 87, 54]⟩, Value.string ⟨#[90, 109, 57, 118]⟩] 37)).heap.size := by rw [World.size_alloc]; omega
      have hS0d := three_below hS0 hlt0 (drew_below _)
      have hT0 := (hTr.below (alloc_below wr (.cells #[Value.string ⟨#[102, 111, 111]⟩, Value.string ⟨#[77, 90, 88, 87, 54]⟩, Value.string ⟨#[90, 109, 57, 118]⟩] 37))).below (drew_below _)
      have hb0 := (alloc_below wr (.cells #[Value.string ⟨#[102, 111, 111]⟩, Value.string ⟨#[77, 90, 88, 87, 54]⟩, Value.string ⟨#[90, 109, 57, 118]⟩] 37)).trans ((drew_below _).mono (by rw [World.size_alloc]; omega))
      obtain ⟨q0, q1, q2⟩ := hS0d
      obtain ⟨c0, c1, c2⟩ := three_below ⟨q0, q1, q2⟩ hlt0 (cnv_below _ ⟨#[102, 111, 111]⟩)
      go_region_law (first
          | (go_simp; go_at_call 12; refine (HC1.out _ hT0 _ (by simp) _).mono ?_; rintro e w2 ⟨rfl, hb2⟩; have hc1 := (cnv_below _ _).trans (hb2.mono (cnv_below _ _).size); have hS1 := three_below ⟨q0, q1, q2⟩ hlt0 hc1; have hlt1 := Nat.lt_of_lt_of_le hlt0 hc1.size; obtain ⟨d0, d1, d2⟩ := three_below hS1 hlt1 (cnv_below _ ⟨#[102, 111, 111]⟩); obtain ⟨p0, p1, p2⟩ := hS1; have hT1 := hT0.below hc1; have hb1 := hb0.trans (hc1.mono hb0.size))
          | (go_simp; go_at_call 13; refine (HC2.out _ hT1 _ rfl _).mono ?_; rintro e w3 ⟨rfl, hb3⟩; have hc2 := (cnv_below _ _).trans (hb3.mono (cnv_below _ _).size); obtain ⟨r0, r1, r2⟩ := three_below ⟨p0, p1, p2⟩ hlt1 hc2; have hb4 := hb1.trans (hc2.mono hb1.size)))
      all_goals
        go_wp2
        go_roundg 2
        case rel => exact ⟨3, by omega, by omega, rfl, hbr.trans (hb4.mono hbr.size)⟩
        case measure => have := HIG.out; omega
    · have HC1 := Lib.hid (fun W (hT : Tabs W) B (hB : W.heap.size = B) cap => cnv_call32 ⟨#[102, 111, 111, 98]⟩ [102, 111, 111, 98] rfl 4 rfl [77, 90, 88, 87, 54, 89, 81] kt3a (by decide) (by decide) W hT B hB cap)
      have HC2 := Lib.hid (fun W (hT : Tabs W) B (hB : W.heap.size = B) cap => cnv_call64 ⟨#[102, 111, 111, 98]⟩ [102, 111, 111, 98] rfl 4 rfl [90, 109, 57, 118, 89, 103, 61, 61] kt3b (by decide) (by decide) W hT B hB cap)
      have HN := Lib.hid (three_new wr (.string ⟨#[102, 111, 111, 98]⟩) (.string ⟨#[77, 90, 88, 87, 54, 89, 81]⟩) (.string ⟨#[90, 109, 57, 118, 89, 103, 61, 61]⟩))
      go_wp2_with fail
      rw [kx1_3]
      go_wp2_with fail
      have hS0 := HN.out
      have hlt0 : wr.heap.size < (wr.alloc (.cells #[Value.string ⟨#[102, 111, 111, 98]⟩, Value.string ⟨#[77, 90, 88, 87, 54, 89, 81]⟩, Value.string ⟨#[90, 109, 57, 118, 89, 103, 61, 61]⟩] 37)).heap.size := by rw [World.size_alloc]; omega
      have hS0d := three_below hS0 hlt0 (drew_below _)
      have hT0 := (hTr.below (alloc_below wr (.cells #[Value.string ⟨#[102, 111, 111, 98]⟩, Value.string ⟨#[77, 90, 88, 87, 54, 89, 81]⟩, Value.string ⟨#[90, 109, 57, 118, 89, 103, 61, 61]⟩] 37))).below (drew_below _)
      have hb0 := (alloc_below wr (.cells #[Value.string ⟨#[102, 111, 111, 98]⟩, Value.string ⟨#[77, 90, 88, 87, 54, 89, 81]⟩, Value.string ⟨#[90, 109, 57, 118, 89, 103, 61, 61]⟩] 37)).trans ((drew_below _).mono (by rw [World.size_alloc]; omega))
      obtain ⟨q0, q1, q2⟩ := hS0d
      obtain ⟨c0, c1, c2⟩ := three_below ⟨q0, q1, q2⟩ hlt0 (cnv_below _ ⟨#[102, 111, 111, 98]⟩)
      go_region_law (first
          | (go_simp; go_at_call 12; refine (HC1.out _ hT0 _ (by simp) _).mono ?_; rintro e w2 ⟨rfl, hb2⟩; have hc1 := (cnv_below _ _).trans (hb2.mono (cnv_below _ _).size); have hS1 := three_below ⟨q0, q1, q2⟩ hlt0 hc1; have hlt1 := Nat.lt_of_lt_of_le hlt0 hc1.size; obtain ⟨d0, d1, d2⟩ := three_below hS1 hlt1 (cnv_below _ ⟨#[102, 111, 111, 98]⟩); obtain ⟨p0, p1, p2⟩ := hS1; have hT1 := hT0.below hc1; have hb1 := hb0.trans (hc1.mono hb0.size))
          | (go_simp; go_at_call 13; refine (HC2.out _ hT1 _ rfl _).mono ?_; rintro e w3 ⟨rfl, hb3⟩; have hc2 := (cnv_below _ _).trans (hb3.mono (cnv_below _ _).size); obtain ⟨r0, r1, r2⟩ := three_below ⟨p0, p1, p2⟩ hlt1 hc2; have hb4 := hb1.trans (hc2.mono hb1.size)))
      all_goals
        go_wp2
        go_roundg 1
        case rel => exact ⟨4, by omega, by omega, rfl, hbr.trans (hb4.mono hbr.size)⟩
        case measure => have := HIG.out; omega
    · have HC1 := Lib.hid (fun W (hT : Tabs W) B (hB : W.heap.size = B) cap => cnv_call32 ⟨#[102, 111, 111, 98, 97]⟩ [102, 111, 111, 98, 97] rfl 5 rfl [77, 90, 88, 87, 54, 89, 84, 66] kt4a (by decide) (by decide) W hT B hB cap)
      have HC2 := Lib.hid (fun W (hT : Tabs W) B (hB : W.heap.size = B) cap => cnv_call64 ⟨#[102, 111, 111, 98, 97]⟩ [102, 111, 111, 98, 97] rfl 5 rfl [90, 109, 57, 118, 89, 109, 69, 61] kt4b (by decide) (by decide) W hT B hB cap)
      have HN := Lib.hid (three_new wr (.string ⟨#[102, 111, 111, 98, 97]⟩) (.string ⟨#[77, 90, 88, 87, 54, 89, 84, 66]⟩) (.string ⟨#[90, 109, 57, 118, 89, 109, 69, 61]⟩))
      go_wp2_with fail
      rw [kx1_4]
      go_wp2_with fail
      have hS0 := HN.out
      have hlt0 : wr.heap.size < (wr.alloc (.cells #[Value.string ⟨#[102, 111, 111, 98, 97]⟩, Value.string ⟨#[77, 90, 88, 87, 54, 89, 84, 66]⟩, Value.string ⟨#[90, 109, 57, 118, 89, 109, 69, 61]⟩] 37)).heap.size := by rw [World.size_alloc]; omega
      have hS0d := three_below hS0 hlt0 (drew_below _)
      have hT0 := (hTr.below (alloc_below wr (.cells #[Value.string ⟨#[102, 111, 111, 98, 97]⟩, Value.string ⟨#[77, 90, 88, 87, 54, 89, 84, 66]⟩, Value.string ⟨#[90, 109, 57, 118, 89, 109, 69, 61]⟩] 37))).below (drew_below _)
      have hb0 := (alloc_below wr (.cells #[Value.string ⟨#[102, 111, 111, 98, 97]⟩, Value.string ⟨#[77, 90, 88, 87, 54, 89, 84, 66]⟩, Value.string ⟨#[90, 109, 57, 118, 89, 109, 69, 61]⟩] 37)).trans ((drew_below _).mono (by rw [World.size_alloc]; omega))
      obtain ⟨q0, q1, q2⟩ := hS0d
      obtain ⟨c0, c1, c2⟩ := three_below ⟨q0, q1, q2⟩ hlt0 (cnv_below _ ⟨#[102, 111, 111, 98, 97]⟩)
      go_region_law (first
          | (go_simp; go_at_call 12; refine (HC1.out _ hT0 _ (by simp) _).mono ?_; rintro e w2 ⟨rfl, hb2⟩; have hc1 := (cnv_below _ _).trans (hb2.mono (cnv_below _ _).size); have hS1 := three_below ⟨q0, q1, q2⟩ hlt0 hc1; have hlt1 := Nat.lt_of_lt_of_le hlt0 hc1.size; obtain ⟨d0, d1, d2⟩ := three_below hS1 hlt1 (cnv_below _ ⟨#[102, 111, 111, 98, 97]⟩); obtain ⟨p0, p1, p2⟩ := hS1; have hT1 := hT0.below hc1; have hb1 := hb0.trans (hc1.mono hb0.size))
          | (go_simp; go_at_call 13; refine (HC2.out _ hT1 _ rfl _).mono ?_; rintro e w3 ⟨rfl, hb3⟩; have hc2 := (cnv_below _ _).trans (hb3.mono (cnv_below _ _).size); obtain ⟨r0, r1, r2⟩ := three_below ⟨p0, p1, p2⟩ hlt1 hc2; have hb4 := hb1.trans (hc2.mono hb1.size)))
      all_goals
        go_wp2
        go_roundg 0
        case rel => exact ⟨5, by omega, by omega, rfl, hbr.trans (hb4.mono hbr.size)⟩
        case measure => have := HIG.out; omega
    · go_wp2_with fail
      go_loopg [48] 9 (fun g v W => KRel w 9 g v W)
      case atStart => exact ⟨0, by omega, by omega, rfl, hbr⟩
      case round =>
        clear hTr hbr
        obtain ⟨i, hi, hig, rfl, hbr⟩ := hrel
        have hTr : Tabs wr := hT.below hbr
        have HIG2 := Lib.hid hig
        clear hig
        obtain rfl | rfl | rfl | rfl | rfl | rfl | rfl | rfl | rfl | rfl : i = 0 ∨ i = 1 ∨ i = 2 ∨ i = 3 ∨ i = 4 ∨ i = 5 ∨ i = 6 ∨ i = 7 ∨ i = 8 ∨ i = 9 := by omega
        · have HB := Lib.hid (fun W (hT : Tabs W) => bad32 ⟨#[77]⟩ (by decide) km32_0 k32_0 W hT)
          go_wp2_with fail
          rw [kx2_0]
          go_wp2_with fail
          refine (HB.out _ hTr).mono ?_
          rintro e w2 ⟨⟨v, rfl⟩, hb2⟩
          go_wp2_with fail
          go_roundg 8
          case rel => exact ⟨1, by omega, by omega, rfl, hbr.trans (hb2.mono hbr.size)⟩
          case measure => have := HIG2.out; omega
        · have HB := Lib.hid (fun W (hT : Tabs W) => bad32 ⟨#[77, 90, 88]⟩ (by decide) km32_1 k32_1 W hT)
          go_wp2_with fail
          rw [kx2_1]
          go_wp2_with fail
          refine (HB.out _ hTr).mono ?_
          rintro e w2 ⟨⟨v, rfl⟩, hb2⟩
          go_wp2_with fail
          go_roundg 7
          case rel => exact ⟨2, by omega, by omega, rfl, hbr.trans (hb2.mono hbr.size)⟩
          case measure => have := HIG2.out; omega
        · have HB := Lib.hid (fun W (hT : Tabs W) => bad32 ⟨#[77, 90]⟩ (by decide) km32_2 k32_2 W hT)
          go_wp2_with fail
          rw [kx2_2]
          go_wp2_with fail
          refine (HB.out _ hTr).mono ?_
          rintro e w2 ⟨⟨v, rfl⟩, hb2⟩
          go_wp2_with fail
          go_roundg 6
          case rel => exact ⟨3, by omega, by omega, rfl, hbr.trans (hb2.mono hbr.size)⟩
          case measure => have := HIG2.out; omega
        · have HB := Lib.hid (fun W (hT : Tabs W) => bad32 ⟨#[77, 49]⟩ (by decide) km32_3 k32_3 W hT)
          go_wp2_with fail
          rw [kx2_3]
          go_wp2_with fail
          refine (HB.out _ hTr).mono ?_
          rintro e w2 ⟨⟨v, rfl⟩, hb2⟩
          go_wp2_with fail
          go_roundg 5
          case rel => exact ⟨4, by omega, by omega, rfl, hbr.trans (hb2.mono hbr.size)⟩
          case measure => have := HIG2.out; omega
        · have HB := Lib.hid (fun W (hT : Tabs W) => bad32 ⟨#[77, 90, 88, 87, 54, 89]⟩ (by decide) km32_4 k32_4 W hT)
          go_wp2_with fail
          rw [kx2_4]
          go_wp2_with fail
          refine (HB.out _ hTr).mono ?_
          rintro e w2 ⟨⟨v, rfl⟩, hb2⟩
          go_wp2_with fail
          go_roundg 4
          case rel => exact ⟨5, by omega, by omega, rfl, hbr.trans (hb2.mono hbr.size)⟩
          case measure => have := HIG2.out; omega
        · have HB := Lib.hid (fun W (hT : Tabs W) => bad32 ⟨#[77, 89, 61, 61, 61, 61, 61, 61]⟩ (by decide) km32_5 k32_5 W hT)
          go_wp2_with fail
          rw [kx2_5]
          go_wp2_with fail
          refine (HB.out _ hTr).mono ?_
          rintro e w2 ⟨⟨v, rfl⟩, hb2⟩
          go_wp2_with fail
          go_roundg 3
          case rel => exact ⟨6, by omega, by omega, rfl, hbr.trans (hb2.mono hbr.size)⟩
          case measure => have := HIG2.out; omega
        · have HB := Lib.hid (fun W (hT : Tabs W) => bad32 ⟨#[77, 32]⟩ (by decide) km32_6 k32_6 W hT)
          go_wp2_with fail
          rw [kx2_6]
          go_wp2_with fail
          refine (HB.out _ hTr).mono ?_
          rintro e w2 ⟨⟨v, rfl⟩, hb2⟩
          go_wp2_with fail
          go_roundg 2
          case rel => exact ⟨7, by omega, by omega, rfl, hbr.trans (hb2.mono hbr.size)⟩
          case measure => have := HIG2.out; omega
        · have HB := Lib.hid (fun W (hT : Tabs W) => bad32 ⟨#[77, 90, 88, 87, 54, 89, 84, 66, 79]⟩ (by decide) km32_7 k32_7 W hT)
          go_wp2_with fail
          rw [kx2_7]
          go_wp2_with fail
          refine (HB.out _ hTr).mono ?_
          rintro e w2 ⟨⟨v, rfl⟩, hb2⟩
          go_wp2_with fail
          go_roundg 1
          case rel => exact ⟨8, by omega, by omega, rfl, hbr.trans (hb2.mono hbr.size)⟩
          case measure => have := HIG2.out; omega
        · have HB := Lib.hid (fun W (hT : Tabs W) => bad32 ⟨#[197, 191, 197, 191]⟩ (by decide) km32_8 k32_8 W hT)
          go_wp2_with fail
          rw [kx2_8]
          go_wp2_with fail
          refine (HB.out _ hTr).mono ?_
          rintro e w2 ⟨⟨v, rfl⟩, hb2⟩
          go_wp2_with fail
          go_roundg 0
          case rel => exact ⟨9, by omega, by omega, rfl, hbr.trans (hb2.mono hbr.size)⟩
          case measure => have := HIG2.out; omega
        · go_wp2_with fail
          go_loopg [60] 13 (fun g v W => KRel w 13 g v W)
          case atStart => exact ⟨0, by omega, by omega, rfl, hbr⟩
          case round =>
            clear hTr hbr
            obtain ⟨i, hi, hig, rfl, hbr⟩ := hrel
            have hTr : Tabs wr := hT.below hbr
            have HIG3 := Lib.hid hig
            clear hig
            obtain rfl | rfl | rfl | rfl | rfl | rfl | rfl | rfl | rfl | rfl | rfl | rfl | rfl | rfl : i = 0 ∨ i = 1 ∨ i = 2 ∨ i = 3 ∨ i = 4 ∨ i = 5 ∨ i = 6 ∨ i = 7 ∨ i = 8 ∨ i = 9 ∨ i = 10 ∨ i = 11 ∨ i = 12 ∨ i = 13 := by omega
            · have HB := Lib.hid (fun W (hT : Tabs W) => bad64 ⟨#[90]⟩ (by decide) k64_0 W hT)
              go_wp2_with fail
              rw [kx3_0]
              go_wp2_with fail
              refine (HB.out _ hTr).mono ?_
              rintro e w2 ⟨⟨v, rfl⟩, hb2⟩
              go_wp2_with fail
              go_roundg 12
              case rel => exact ⟨1, by omega, by omega, rfl, hbr.trans (hb2.mono hbr.size)⟩
              case measure => have := HIG3.out; omega
            · have HB := Lib.hid (fun W (hT : Tabs W) => bad64 ⟨#[90, 103]⟩ (by decide) k64_1 W hT)
              go_wp2_with fail
              rw [kx3_1]
              go_wp2_with fail
              refine (HB.out _ hTr).mono ?_
              rintro e w2 ⟨⟨v, rfl⟩, hb2⟩
              go_wp2_with fail
              go_roundg 11
              case rel => exact ⟨2, by omega, by omega, rfl, hbr.trans (hb2.mono hbr.size)⟩
              case measure => have := HIG3.out; omega
            · have HB := Lib.hid (fun W (hT : Tabs W) => bad64 ⟨#[90, 103, 61]⟩ (by decide) k64_2 W hT)
              go_wp2_with fail
              rw [kx3_2]
              go_wp2_with fail
              refine (HB.out _ hTr).mono ?_
              rintro e w2 ⟨⟨v, rfl⟩, hb2⟩
              go_wp2_with fail
              go_roundg 10
              case rel => exact ⟨3, by omega, by omega, rfl, hbr.trans (hb2.mono hbr.size)⟩
              case measure => have := HIG3.out; omega
            · have HB := Lib.hid (fun W (hT : Tabs W) => bad64 ⟨#[90, 104, 61, 61]⟩ (by decide) k64_3 W hT)
              go_wp2_with fail
              rw [kx3_3]
              go_wp2_with fail
              refine (HB.out _ hTr).mono ?_
              rintro e w2 ⟨⟨v, rfl⟩, hb2⟩
              go_wp2_with fail
              go_roundg 9
              case rel => exact ⟨4, by omega, by omega, rfl, hbr.trans (hb2.mono hbr.size)⟩
              case measure => have := HIG3.out; omega
            · have HB := Lib.hid (fun W (hT : Tabs W) => bad64 ⟨#[90, 109, 57, 61]⟩ (by decide) k64_4 W hT)
              go_wp2_with fail
              rw [kx3_4]
              go_wp2_with fail
              refine (HB.out _ hTr).mono ?_
              rintro e w2 ⟨⟨v, rfl⟩, hb2⟩
              go_wp2_with fail
              go_roundg 8
              case rel => exact ⟨5, by omega, by omega, rfl, hbr.trans (hb2.mono hbr.size)⟩
              case measure => have := HIG3.out; omega
            · have HB := Lib.hid (fun W (hT : Tabs W) => bad64 ⟨#[61]⟩ (by decide) k64_5 W hT)
              go_wp2_with fail
              rw [kx3_5]
              go_wp2_with fail
              refine (HB.out _ hTr).mono ?_
              rintro e w2 ⟨⟨v, rfl⟩, hb2⟩
              go_wp2_with fail
              go_roundg 7
              case rel => exact ⟨6, by omega, by omega, rfl, hbr.trans (hb2.mono hbr.size)⟩
              case measure => have := HIG3.out; omega
            · have HB := Lib.hid (fun W (hT : Tabs W) => bad64 ⟨#[61, 61, 61, 61]⟩ (by decide) k64_6 W hT)
              go_wp2_with fail
              rw [kx3_6]
              go_wp2_with fail
              refine (HB.out _ hTr).mono ?_
              rintro e w2 ⟨⟨v, rfl⟩, hb2⟩
              go_wp2_with fail
              go_roundg 6
              case rel => exact ⟨7, by omega, by omega, rfl, hbr.trans (hb2.mono hbr.size)⟩
              case measure => have := HIG3.out; omega
            · have HB := Lib.hid (fun W (hT : Tabs W) => bad64 ⟨#[90, 103, 61, 61, 90, 103, 61, 61]⟩ (by decide) k64_7 W hT)
              go_wp2_with fail
              rw [kx3_7]
              go_wp2_with fail
              refine (HB.out _ hTr).mono ?_
              rintro e w2 ⟨⟨v, rfl⟩, hb2⟩
              go_wp2_with fail
              go_roundg 5
              case rel => exact ⟨8, by omega, by omega, rfl, hbr.trans (hb2.mono hbr.size)⟩
              case measure => have := HIG3.out; omega
            · have HB := Lib.hid (fun W (hT : Tabs W) => bad64 ⟨#[90, 109, 57, 118, 61]⟩ (by decide) k64_8 W hT)
              go_wp2_with fail
              rw [kx3_8]
              go_wp2_with fail
              refine (HB.out _ hTr).mono ?_
              rintro e w2 ⟨⟨v, rfl⟩, hb2⟩
              go_wp2_with fail
              go_roundg 4
              case rel => exact ⟨9, by omega, by omega, rfl, hbr.trans (hb2.mono hbr.size)⟩
              case measure => have := HIG3.out; omega
            · have HB := Lib.hid (fun W (hT : Tabs W) => bad64 ⟨#[90, 109, 57, 118, 61, 61, 61, 61]⟩ (by decide) k64_9 W hT)
              go_wp2_with fail
              rw [kx3_9]
              go_wp2_with fail
              refine (HB.out _ hTr).mono ?_
              rintro e w2 ⟨⟨v, rfl⟩, hb2⟩
              go_wp2_with fail
              go_roundg 3
              case rel => exact ⟨10, by omega, by omega, rfl, hbr.trans (hb2.mono hbr.size)⟩
              case measure => have := HIG3.out; omega
            · have HB := Lib.hid (fun W (hT : Tabs W) => bad64 ⟨#[90, 109, 45, 118]⟩ (by decide) k64_10 W hT)
              go_wp2_with fail
              rw [kx3_10]
              go_wp2_with fail
              refine (HB.out _ hTr).mono ?_
              rintro e w2 ⟨⟨v, rfl⟩, hb2⟩
              go_wp2_with fail
              go_roundg 2
              case rel => exact ⟨11, by omega, by omega, rfl, hbr.trans (hb2.mono hbr.size)⟩
              case measure => have := HIG3.out; omega
            · have HB := Lib.hid (fun W (hT : Tabs W) => bad64 ⟨#[90, 103, 32, 61]⟩ (by decide) k64_11 W hT)
              go_wp2_with fail
              rw [kx3_11]
              go_wp2_with fail
              refine (HB.out _ hTr).mono ?_
              rintro e w2 ⟨⟨v, rfl⟩, hb2⟩
              go_wp2_with fail
              go_roundg 1
              case rel => exact ⟨12, by omega, by omega, rfl, hbr.trans (hb2.mono hbr.size)⟩
              case measure => have := HIG3.out; omega
            · have HB := Lib.hid (fun W (hT : Tabs W) => bad64 ⟨#[90, 61, 61, 61]⟩ (by decide) k64_12 W hT)
              go_wp2_with fail
              rw [kx3_12]
              go_wp2_with fail
              refine (HB.out _ hTr).mono ?_
              rintro e w2 ⟨⟨v, rfl⟩, hb2⟩
              go_wp2_with fail
              go_roundg 0
              case rel => exact ⟨13, by omega, by omega, rfl, hbr.trans (hb2.mono hbr.size)⟩
              case measure => have := HIG3.out; omega
            · go_wp2_with fail
              go_loopg [72] 5 (fun g v W => KRel w 5 g v W)
              case atStart => exact ⟨0, by omega, by omega, rfl, hbr⟩
              case round =>
                clear hTr hbr
                obtain ⟨i, hi, hig, rfl, hbr⟩ := hrel
                have hTr : Tabs wr := hT.below hbr
                have HIG4 := Lib.hid hig
                clear hig
                obtain rfl | rfl | rfl | rfl | rfl | rfl : i = 0 ∨ i = 1 ∨ i = 2 ∨ i = 3 ∨ i = 4 ∨ i = 5 := by omega
                · have HB := Lib.hid (fun W (hT : Tabs W) => bad16 ⟨#[54]⟩ (by decide) (by decide +kernel) k16_0 W hT)
                  go_wp2_with fail
                  rw [kx4_0]
                  go_wp2_with fail
                  refine (HB.out _ hTr).mono ?_
                  rintro e w2 ⟨⟨v, rfl⟩, hb2⟩
                  go_wp2_with fail
                  go_roundg 4
                  case rel => exact ⟨1, by omega, by omega, rfl, hbr.trans (hb2.mono hbr.size)⟩
                  case measure => have := HIG4.out; omega
                · have HB := Lib.hid (fun W (hT : Tabs W) => bad16 ⟨#[54, 103]⟩ (by decide) (by decide +kernel) k16_1 W hT)
                  go_wp2_with fail
                  rw [kx4_1]
                  go_wp2_with fail
                  refine (HB.out _ hTr).mono ?_
                  rintro e w2 ⟨⟨v, rfl⟩, hb2⟩
                  go_wp2_with fail
                  go_roundg 3
                  case rel => exact ⟨2, by omega, by omega, rfl, hbr.trans (hb2.mono hbr.size)⟩
                  case measure => have := HIG4.out; omega
                · have HB := Lib.hid (fun W (hT : Tabs W) => bad16 ⟨#[48, 120]⟩ (by decide) (by decide +kernel) k16_2 W hT)
                  go_wp2_with fail
                  rw [kx4_2]
                  go_wp2_with fail
                  refine (HB.out _ hTr).mono ?_
                  rintro e w2 ⟨⟨v, rfl⟩, hb2⟩
                  go_wp2_with fail
                  go_roundg 2
                  case rel => exact ⟨3, by omega, by omega, rfl, hbr.trans (hb2.mono hbr.size)⟩
                  case measure => have := HIG4.out; omega
                · have HB := Lib.hid (fun W (hT : Tabs W) => bad16 ⟨#[32, 54]⟩ (by decide) (by decide +kernel) k16_3 W hT)
                  go_wp2_with fail
                  rw [kx4_3]
                  go_wp2_with fail
                  refine (HB.out _ hTr).mono ?_
                  rintro e w2 ⟨⟨v, rfl⟩, hb2⟩
                  go_wp2_with fail
                  go_roundg 1
                  case rel => exact ⟨4, by omega, by omega, rfl, hbr.trans (hb2.mono hbr.size)⟩
                  case measure => have := HIG4.out; omega
                · have HB := Lib.hid (fun W (hT : Tabs W) => bad16 ⟨#[54, 54, 54]⟩ (by decide) (by decide +kernel) k16_4 W hT)
                  go_wp2_with fail
                  rw [kx4_4]
                  go_wp2_with fail
                  refine (HB.out _ hTr).mono ?_
                  rintro e w2 ⟨⟨v, rfl⟩, hb2⟩
                  go_wp2_with fail
                  go_roundg 0
                  case rel => exact ⟨5, by omega, by omega, rfl, hbr.trans (hb2.mono hbr.size)⟩
                  case measure => have := HIG4.out; omega
                · go_wp2_with fail
                  refine (from32_any ⟨#[109, 122, 120, 119, 54, 121, 116, 98, 111, 105]⟩ (by decide) _ hTr (by decide +kernel)).mono ?_
                  intro e w2 h2
                  obtain ⟨v1, rfl, hv1, hb2⟩ := good kf1 h2
                  clear h2
                  have hT2 := hTr.below hb2
                  go_wp2_with fail
                  refine (fromHex_any ⟨#[70, 70, 48, 97]⟩ (by decide) _ hT2 (by decide +kernel)).mono ?_
                  intro e w3 h3
                  obtain ⟨v2, rfl, hv2, hb3⟩ := good kf2 h3
                  clear h3
                  have hT3 := hT2.below hb3
                  have hw3 := hbr.trans ((hb2.trans (hb3.mono hb2.size)).mono hbr.size)
                  have kv : (convert 22 9 v1).run Tryd.prog w3 = .ok (.string ⟨#[102, 111, 111, 98, 97, 114]⟩) w3 := conv_bytes (by decide) (hv1.below hb3)
                  clear hTr hbr hv1 hb2 hT2 hb3
                  go_wp2_with fail
                  have hA := alloc_below w3 (.cells #[Value.int .u8 255, Value.int .u8 10] 5)
                  refine (equal_same _ _ [255, 10] _ (hv2.below hA) (bytes_alloc w3 _ [255, 10] 2 _ 2 rfl rfl rfl)).mono ?_
                  rintro e w4 ⟨rfl, rfl⟩
                  have hT4 := hT3.below hA
                  have hw4 := hw3.trans (hA.mono hw3.size)
                  clear hA
                  go_wp2_with fail
                  generalize hg4 : w3.alloc (.cells #[Value.int .u8 255, Value.int .u8 10] 5) = w4 at *
                  have hs4 : w4.heap.size = w3.heap.size + 1 := by rw [← hg4, World.size_alloc]
                  clear hg4 hv2 kv
                  have hA := alloc_below w4 (.cells #[Value.int .u8 255, Value.int .u8 239, Value.int .u8 190] 5)
                  have hC5 := base64_any _ [255, 239, 190] (by decide) _ (hT4.below hA) (by decide) (bytes_alloc w4 _ [255, 239, 190] 3 _ 3 hs4 rfl rfl)
                  rw [kf3] at hC5
                  refine hC5.mono ?_
                  clear hC5
                  rintro e w5 ⟨rfl, hb5⟩
                  have hc5 := hA.trans (hb5.mono hA.size)
                  have hT5 := hT4.below hc5
                  have hw5 := hw4.trans (hc5.mono hw4.size)
                  clear hA hb5 hc5
                  go_wp2_with fail
                  have hA := alloc_below w5 (.cells #[Value.int .u8 0] 5)
                  have hC6 := hex_any _ [0] (by decide) _ (hT5.below hA) (by decide) (bytes_alloc w5 _ [0] 1 _ 1 rfl rfl rfl)
                  rw [kf4] at hC6
                  refine hC6.mono ?_
                  clear hC6
                  rintro e w6 ⟨rfl, hb6⟩
                  have hc6 := hA.trans (hb6.mono hA.size)
                  have hT6 := hT5.below hc6
                  have hw6 := hw5.trans (hc6.mono hw5.size)
                  clear hA hb6 hc6
                  go_wp2_with fail
                  refine (wakes_any _ hT6).mono ?_
                  rintro e w7 ⟨rfl, hb7⟩
                  go_wp2
                  go_ret
                  exact ⟨rfl, hw6.trans (hb7.mono hw6.size)⟩
end Go.Proofs.YthnohioamefbmaaDoor

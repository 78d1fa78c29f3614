/- One byte appended to a row of the call's own, and bytes that lie in memory. -/
import Derived.Test.YthnohioamefbmaaDoorTell
import Derived.OneCell
namespace Go.Proofs.YthnohioamefbmaaDoor
open Go.RowKit Go.Lib
set_option linter.unusedSimpArgs false
set_option linter.unusedVariables false

theorem info5 : (Tryd.prog.info? 5).map (fun i => (i.zero, i.size, i.bytes)) = some (some (.int .u8 0), 1, 1) := by kernel_rfl
/-- one byte appended to a row of the call's own. -/
theorem app_byte {ops : Array Oper} {rest : List Oper} {o : Oper} {a : Act} {Q : Exit → Act → World → Prop} {w : World} (hgd : o.guard = none) (s x : Operand)
    (ho : o.op = .call { callee := .builtin .append, args := #[s, x], argTypes := #[22, 22] })
    (B : Nat) (v : Value) (n : Nat) (xs : List Value) (hs : a.eval s = v) (hown : w.ownsRow B 5 1 v n xs) (ad : Addr) (cp : Nat) (u : Value) (hx : a.eval x = .slice (some ad) 1 cp)
    (hnew : w.cell? ad = some u) (h1 : u.oneCell' = true) (hlen : n + 1 ≤ 140737488355328) (hbase : B ≤ w.heap.size)
    (h : ∀ g cap w', w'.ownsRow B 5 1 (.slice (some ⟨g, 0, none⟩) (n + 1) cap) (n + 1) (xs ++ [u]) → w.grownBy w' v.ownBlock → wpList Tryd.prog ops Q rest (a.put o.dst (.slice (some ⟨g, 0, none⟩) (n + 1) cap)) w') : wpList Tryd.prog ops Q (o :: rest) a w := by
  obtain ⟨i0, hi, hz0, hz1, hz2⟩ := info_parts info5
  refine wpList_append_own w hgd s x 22 ho B 5 i0 (.int .u8 0) 1 1 Tryd.underlying22 hi hz0 hz1 hz2 rfl (by decide) v n xs hs hown ad 1 cp [u] hx rfl ?_ (by simpa using h1) (by unfold maxLen; omega) (by omega) hbase
    ?_
  rotate_left
  · intro v' w' h2 h3 _
    have h2' := h2
    obtain ⟨_, ⟨_, h0⟩ | ⟨g, cap, cur, rfl, _⟩⟩ := h2'
    · omega
    · exact h g cap w' h2 h3
  intro j u' hj
  cases j with
  | zero => simp at hj; subst hj; simpa [Addr.add] using hnew
  | succ j => simp at hj

/-- below block B nothing has turned but block OB. -/
structure ButOne (B OB : Nat) (w w' : World) : Prop where
  os : w'.os = w.os
  tape : w'.tape = w.tape
  output : w'.output = w.output
  size : w.heap.size ≤ w'.heap.size
  block : ∀ k, k < B → k ≠ OB → w'.heap[k]? = w.heap[k]?
theorem ButOne.refl (B OB : Nat) (w : World) : ButOne B OB w w := ⟨rfl, rfl, rfl, Nat.le_refl _, fun _ _ _ => rfl⟩
theorem ButOne.trans {B OB : Nat} {a b c : World} (h : ButOne B OB a b) (k : ButOne B OB b c) : ButOne B OB a c :=
  ⟨k.os.trans h.os, k.tape.trans h.tape, k.output.trans h.output, Nat.le_trans h.size k.size, fun i hi hn => (k.block i hi hn).trans (h.block i hi hn)⟩
theorem ButOne.of_below {B OB : Nat} {a b : World} (h : Below B a b) : ButOne B OB a b := ⟨h.os, h.tape, h.output, h.size, fun k hk _ => h.block k hk⟩
theorem ButOne.setCell {B OB : Nat} {a w : World} (h : ButOne B OB a w) (o : Nat) (v : Value) : ButOne B OB a (w.setCell ⟨OB, o, none⟩ v) :=
  h.trans ⟨rfl, rfl, rfl, by simp [World.setCell], fun k hk hn => Below.heap_setCell _ _ _ _ hn⟩
theorem ButOne.cell {B OB : Nat} {w w' : World} (h : ButOne B OB w w') {p : Addr} (hp : p.block < B) (hn : p.block ≠ OB) : w'.cell? p = w.cell? p := World.cell?_of_block (h.block p.block hp hn)
theorem ButOne.below {B OB A : Nat} {w w' : World} (h : ButOne B OB w w') (hA : A ≤ OB) (hAB : A ≤ B) : Below A w w' := ⟨h.os, h.tape, h.output, h.size, fun k hk => h.block k (by omega) (by omega)⟩

/-- the closure that gathers: its one captured variable is the block OB. -/
def GatherI (B OB : Nat) (w1 : World) (out : List Nat) (W : World) : Prop :=
  ∃ v, W.heap[OB]? = some (.cells #[v] 22 (0, 0)) ∧ W.ownsRow B 5 1 v out.length (out.map fun (c : Nat) => Value.int .u8 (c : Int)) ∧ v.ownBlock ≠ some OB ∧ ButOne B OB w1 W ∧ OB < B ∧ B ≤ W.heap.size

theorem keep_block {W w' : World} {row : Option Nat} (hgr : W.grownBy w' row) (OB : Nat) (hne : row ≠ some OB) (hOB : OB < W.heap.size) : w'.heap[OB]? = W.heap[OB]? :=
  hgr.block OB hOB (fun e => hne e.symm)
theorem cell_one {W : World} {OB : Nat} {v : Value} {t : TypeId} (h : W.heap[OB]? = some (.cells #[v] t (0, 0))) : W.cell? ⟨OB, 0, none⟩ = some v ∧ W.frozen? ⟨OB, 0, none⟩ = false := by
  simp [World.cell?, World.frozen?, h]

set_option maxRecDepth 100000 in
set_option maxHeartbeats 400000 in
theorem gather_any (B OB : Nat) (w1 : World) (out : List Nat) (c : Nat) (W : World) (hI : GatherI B OB w1 out W) (hc : c < 256) (hlen : out.length + 1 ≤ 140737488355328) :
    Calls Tryd.prog 41 (#[.int .u8 (c : Int)] ++ #[Value.pointer (some ⟨OB, 0, none⟩)]) W fun e w' => e = .returned (.tuple #[]) ∧ GatherI B OB w1 (out ++ [c]) w' := by
  obtain ⟨v, hb, hown, hne, hbel, hOB, hBs⟩ := hI
  have hcell := (cell_one hb).1
  have HB := Lib.hid hb
  clear hb
  go_enter Tryd.func41, Tryd.ntmps41
  go_wp2_with (at_builtin; refine app_byte rfl _ _ rfl B v _ _ rfl (hown.alloc _) ⟨W.heap.size, 0, none⟩ 1 (.int .u8 (c : Int)) rfl (by simp) rfl hlen (by simp; omega) ?_; intro g cap w' hown' hgr; have HK := Lib.hid ((keep_block hgr OB hne (by simp; omega)).trans ((Below.heap_alloc _ _ _ (by omega)).trans HB.out)); obtain ⟨hk1, hk2⟩ := cell_one HK.out)
  go_end0
  refine ⟨rfl, _, one_setCell HK.out, ?_, ?_, ?_, hOB, ?_⟩
  · have := ownsRow_setCell_below (a := ⟨OB, 0, none⟩) hown' hOB (Value.slice (some { block := g, off := 0 }) (out.length + 1) cap)
    simpa using this
  · obtain ⟨_, ⟨h, _⟩ | ⟨g', cap', cur, hv, hg, _⟩⟩ := hown'
    · cases h
    · cases hv
      intro h
      simp only [Value.ownBlock, Option.some.injEq] at h
      omega
  · refine (hbel.trans (ButOne.of_below (((Below.refl B W).alloc hBs _).grown hgr (by simp; omega) (fun k hk => ?_)))).setCell _ _
    obtain ⟨_, ⟨rfl, _⟩ | ⟨g', cap', cur, rfl, hg, _⟩⟩ := hown
    · simp [Value.ownBlock] at hk
    · simp only [Value.ownBlock, Option.some.injEq] at hk
      omega
  · have := hgr.size
    simp [World.setCell] at this ⊢
    omega

theorem Bytes.of_owns {w : World} {B n : Nat} {v : Value} {out : List Nat} (hn : out.length = n) (h : w.ownsRow B 5 1 v n (out.map fun (c : Nat) => Value.int .u8 (c : Int))) : Bytes w v out := by
  subst hn
  obtain ⟨_, ⟨rfl, h⟩ | ⟨g, cap, cur, rfl, hg, hh, h1, h2, h3, h4⟩⟩ := h
  · exact ⟨none, 0, by rw [h], .inl (List.length_eq_zero_iff.1 h)⟩
  · refine ⟨_, cap, rfl, .inr ⟨g, 0, rfl, lt_of_block hh, fun i hi => ?_⟩⟩
    have e : cur[0 + i]? = some (.int .u8 (out.getD i 0 : Nat)) := by
      have : cur.toList[i]? = (cur.toList.take (out.length * 1))[i]? := by rw [List.getElem?_take]; simp; omega
      rw [Nat.zero_add, ← Array.getElem?_toList, this, h4]
      simp [List.getD_eq_getElem?_getD, hi]
    simpa [World.cell?, hh] using e

/-- bytes of letters: none where they are none. -/
def idxL (ls : ByteArray) (c : UInt8) : Int := Lib.indexByte ls.data.toList c
def readB (ls : ByteArray) (bi fi : Nat) (bare s : List UInt8) : Option (List Nat) :=
  if bare.all (fun c => decide (0 ≤ idxL ls c)) then
    let out := (regroup bi 8 (bare.map fun c => (idxL ls c).toNat) 0 0).1
    if tellL ls bi fi out = s then some out else none
  else none
def readL (ls : ByteArray) (bi fi : Nat) (s : List UInt8) : Option (List Nat) := readB ls bi fi (if 1 < fi then Lib.trimRightB s 61 else s) s
def ReadPost (w : World) (r : Option (List Nat)) (e : Ending) (w' : World) : Prop :=
  ∃ (v : Value) (out : List Nat) (c : Int), e = .returned (.tuple #[v, .int .i64 c]) ∧ Bytes w' v out ∧ ((r = none ∧ out = [] ∧ c = 5) ∨ (r = some out ∧ c = 0)) ∧ Below w.heap.size w w'
end Go.Proofs.YthnohioamefbmaaDoor

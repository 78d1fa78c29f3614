/- text.Split hands back the pieces of a text of at most 2^40 bytes, in order, in memory of its own; text.DotAtom is true just where all of them are atoms. -/
import Derived.Test.YtkoncmmbdlnmfaaGreatDoorAtom
import Derived.Test.YtkoncmmbdlnmfaaGreatDoorShelf
import Derived.Laws.OwnMore
import Derived.Deep.RegionHeld3
namespace Go.Proofs.YtkoncmmbdlnmfaaGreatDoor
open Go.RowKit Go.Lib
set_option linter.unusedSimpArgs false
set_option linter.unusedVariables false
set_option maxRecDepth 100000

theorem info9 : (Tryz.prog.info? 9).map (fun i => (i.zero, i.size, i.bytes)) = some (some (.string ⟨#[]⟩), 1, 16) := by kernel_rfl
/-- one text appended to a row of the call's own. -/
theorem app_str {ops : Array Oper} {rest : List Oper} {o : Oper} {a : Act} {Q : Exit → Act → World → Prop} {w : World} (hgd : o.guard = none) (s x : Operand)
    (ho : o.op = .call { callee := .builtin .append, args := #[s, x], argTypes := #[69, 69] })
    (B : Nat) (v : Value) (n : Nat) (xs : List Value) (hs : a.eval s = v) (hown : w.ownsRow B 9 1 v n xs) (ad : Addr) (cp : Nat) (u : Value) (hx : a.eval x = .slice (some ad) 1 cp)
    (hnew : w.cell? ad = some u) (h1 : u.oneCell' = true) (hlen : n + 1 ≤ 2199023255552) (hbase : B ≤ w.heap.size)
    (h : ∀ g cap w', w'.ownsRow B 9 1 (.slice (some ⟨g, 0, none⟩) (n + 1) cap) (n + 1) (xs ++ [u]) → w.grownBy w' v.ownBlock → wpList Tryz.prog ops Q rest (a.put o.dst (.slice (some ⟨g, 0, none⟩) (n + 1) cap)) w') : wpList Tryz.prog ops Q (o :: rest) a w := by
  obtain ⟨i0, hi, hz0, hz1, hz2⟩ := info_parts info9
  refine wpList_append_own w hgd s x 69 ho B 9 i0 (.string ⟨#[]⟩) 1 16 Tryz.underlying69 hi hz0 hz1 hz2 rfl (by decide) v n xs hs hown ad 1 cp [u] hx rfl ?_ (by simpa using h1) (by unfold maxLen; omega) (by omega) hbase
    ?_
  rotate_left
  · intro v' w' h2 h3 _
    have h2' := h2
    obtain ⟨_, ⟨_, h0⟩ | ⟨g, cap, cur, rfl, _⟩⟩ := h2'
    · omega
    · exact h g cap w' h2 h3
  intro j u' hj
  cases j with
  | zero => simp at hj; subst hj; simpa [Addr.add] using hnew
  | succ j => simp at hj
/-- the same, as an equation. -/
theorem app_str_eq (w : World) (B : Nat) (v : Value) (n : Nat) (xs : List Value) (hown : w.ownsRow B 9 1 v n xs) (ad : Addr) (cp : Nat) (u : Value)
    (hnew : w.cell? ad = some u) (h1 : u.oneCell' = true) (hlen : n + 1 ≤ 2199023255552) (hbase : B ≤ w.heap.size) :
    ∃ g cap w', (Builtin.append_ #[69, 69] 69 #[v, .slice (some ad) 1 cp]).run Tryz.prog w = .ok (.slice (some ⟨g, 0, none⟩) (n + 1) cap) w' ∧ w'.ownsRow B 9 1 (.slice (some ⟨g, 0, none⟩) (n + 1) cap) (n + 1) (xs ++ [u]) ∧ w.grownBy w' v.ownBlock := by
  obtain ⟨i0, hi, hz0, hz1, hz2⟩ := info_parts info9
  obtain ⟨v', w', hrun, hown', hgr, _⟩ := run_append_own w B 69 69 9 i0 (.string ⟨#[]⟩) 1 16 Tryz.underlying69 hi hz0 hz1 hz2 rfl (by decide) v n xs hown ad 1 cp [u] rfl (by
    intro j u' hj
    cases j with
    | zero => simp at hj; subst hj; simpa [Addr.add] using hnew
    | succ j => simp at hj) (by simpa using h1) (by unfold maxLen; omega) (by omega) hbase
  have h2 := hown'
  obtain ⟨_, ⟨_, h0⟩ | ⟨g, cap, cur, rfl, _⟩⟩ := h2
  · omega
  · exact ⟨g, cap, w', hrun, hown', hgr⟩
theorem step_append_str {ops : Array Oper} {o : Oper} {a : Act} {w : World} {K : Act → World → Prop} {Q : Exit → Act → World → Prop} {E : Prop}
    (hg : o.guard = none) (s x : Operand) (hop : o.op = Op.call { callee := Callee.builtin Builtin.append, args := #[s, x], argTypes := #[69, 69] }) (hty : o.type = 69)
    (v xv v' : Value) (w' : World) (hs : a.eval s = v) (hx : a.eval x = xv) (hrun : (Builtin.append_ #[69, 69] 69 #[v, xv]).run Tryz.prog w = .ok v' w') (hK : K (a.put o.dst v') w') :
    if Region.wanted o (yielded ops a.tmps) = true then Oper.wp Tryz.prog o a w K Q else E := by
  have hw : Region.wanted o (yielded ops a.tmps) = true := by simp [Region.wanted, hg]
  rw [if_pos hw]
  unfold Oper.wp
  simp [execOp, hop, hty, resolve, invoke, builtin, hs, hx, hrun, Result.andThen]
  exact hK
theorem own_base {w : World} {B : Nat} {v : Value} {n : Nat} {xs : List Value} (h : w.ownsRow B 9 1 v n xs) : ∀ k, v.ownBlock = some k → B ≤ k := by
  intro k hk
  obtain ⟨_, ⟨rfl, _⟩ | ⟨g', cap', cur, rfl, hg, _⟩⟩ := h
  · simp [Value.ownBlock] at hk
  · simp only [Value.ownBlock, Option.some.injEq] at hk
    omega
theorem new_cell (w : World) (u : Value) (t : TypeId) : (w.alloc (.cells #[u] t)).cell? ⟨w.heap.size, 0, none⟩ = some u := by simp

def SplRel (s : ByteArray) (c : UInt8) (w : World) (g : Nat) (v0 v5 : Value) (W : World) : Prop :=
  ∃ (done : List (List UInt8)) (r : ByteArray), v0 = .string r ∧ g = r.size ∧ done.length + r.size ≤ s.size ∧ pieces c s.data.toList = done ++ pieces c r.data.toList ∧
    W.ownsRow w.heap.size 9 1 v5 done.length (done.map strV) ∧ Below w.heap.size w W ∧ w.heap.size ≤ W.heap.size
theorem strV_of (s : ByteArray) : strV s.data.toList = .string s := rfl
theorem ext_take (s : ByteArray) (i : Nat) : (s.extract 0 i) = ⟨(s.data.toList.take i).toArray⟩ := by
  have := Lib.extract_from_zero s i
  rw [← this]
theorem ext_drop (s : ByteArray) (i : Nat) : (s.extract i s.size) = ⟨(s.data.toList.drop i).toArray⟩ := by
  have := Lib.extract_to_end s i
  rw [← this]

set_option maxHeartbeats 8000000 in
theorem Split_any (s : ByteArray) (c : UInt8) (hs : s.size ≤ 1099511627776) (w : World) : Calls Tryz.prog 132 #[.string s, .int .u8 (c.toNat : Int)] w fun e w' =>
    ∃ v, e = .returned v ∧ Row w' v ((pieces c s.data.toList).map strV) ∧ Below w.heap.size w w' := by
  go_enter Tryz.func132, Tryz.ntmps132
  go_wp2_with fail
  go_loopg [0, 5] s.size (fun g v0 v5 W => SplRel s c w g v0 v5 W)
  case atStart => exact ⟨[], s, rfl, rfl, by simp, by simp, by simp [World.ownsRow], Below.refl _ _, Nat.le_refl _⟩
  case round =>
    obtain ⟨done, r, rfl, hg, hl, hp, hown, hb, hbs⟩ := hrel
    have HG := Lib.hid hg
    have HP := Lib.hid hp
    clear hg hp
    have hI : Calls Tryz.prog 174 #[.string r, .int .u8 (c.toNat : Int)] wr fun e w' => e = .returned (.int .i64 (Lib.indexByte r.data.toList c)) ∧ w' = wr := by
      have := Tryz.strings_IndexByte r (c.toNat : Int) wr
      simpa using this
    rcases Lib.indexB_cases r ⟨#[c]⟩ with h1 | ⟨i, h1, h2⟩
    · have h3 : Lib.indexByte r.data.toList c = -1 := by rw [← Lib.index_one]; exact h1
      rw [h3] at hI
      have HM := Lib.hid (pieces_miss c r.data.toList h3)
      clear h3 h1
      go_wp2_with fail
      refine hI.mono ?_
      rintro e w2 ⟨rfl, hw2⟩
      rw [hw2]
      clear hw2 w2 hI
      go_wp2_with (at_builtin; refine app_str rfl _ _ rfl w.heap.size _ _ _ rfl (World.ownsRow.alloc (w := wr) hown _) ⟨wr.heap.size, 0, none⟩ 1 (.string r) rfl (new_cell _ _ _) rfl (by omega) (by rw [World.size_alloc]; exact Nat.le_succ_of_le hbs) ?_; intro g' cap w' hown' hgr)
      go_ret
      refine ⟨_, rfl, ?_, ?_⟩
      · rw [HP.out, HM.out, List.map_append]
        exact Row.of_owns hown'
      · exact (hb.alloc hbs _).grown hgr (by rw [World.size_alloc]; exact Nat.le_succ_of_le hbs) (own_base hown)
    · have h3 : Lib.indexByte r.data.toList c = i := by rw [← Lib.index_one]; exact h1
      rw [h3] at hI
      have HM := Lib.hid (pieces_hit c r.data.toList i h3)
      have hir : i < r.size := h2
      clear h3 h1 h2
      have hi0 : (0 : Int) ≤ (i : Int) := by omega
      have hi1 : (i : Int) ≤ (r.size : Int) := by omega
      have hi2 : (i : Int) + 1 ≤ (r.size : Int) := by omega
      have hwr : IntKind.i64.wrap ((i : Int) + 1) = (i : Int) + 1 := by rw [IntKind.wrap_i64]; omega
      have hi3 : (0 : Int) ≤ (i : Int) + 1 := by omega
      have hnneg : ¬ ((i : Int) < 0) := by omega
      obtain ⟨g', cap, wa, hrun, hown', hgr⟩ := app_str_eq (wr.drew.alloc (.cells #[.string (r.extract 0 i)] 9)) w.heap.size _ _ _ ((World.ownsRow.alloc (w := wr.drew) hown _)) ⟨wr.heap.size, 0, none⟩ 1 (.string (r.extract 0 i)) (new_cell _ _ _) rfl (by omega) (by rw [World.size_alloc]; exact Nat.le_succ_of_le hbs)
      have HO := Lib.hid hown'
      have HGR := Lib.hid hgr
      clear hown' hgr
      go_wp2_with fail
      refine hI.mono ?_
      rintro e w2 ⟨rfl, hw2⟩
      rw [hw2]
      clear hw2 w2 hI
      go_wp2_with fail
      go_region_held3 (fun _ => True) (trivial) (first | (refine step_append_str rfl _ _ rfl rfl _ _ _ _ rfl rfl hrun ?_))
      go_wp2_with fail
      go_roundg (r.extract (i + 1) r.size).size
      case rel =>
        have hsz : (r.extract (i + 1) r.size).size = r.size - (i + 1) := by simp
        refine ⟨done ++ [r.data.toList.take i], r.extract (i + 1) r.size, rfl, rfl, ?_, ?_, ?_, ?_, ?_⟩
        · rw [hsz, List.length_append]; simp only [List.length_cons, List.length_nil]; omega
        · rw [HP.out, HM.out, Lib.extract_to_end, List.append_assoc]; rfl
        · have := HO.out
          rw [ext_take] at this
          rw [List.length_append, List.map_append]
          exact this
        · exact ((hb.trans ((drew_below wr).mono hbs)).alloc hbs _).grown HGR.out (by rw [World.size_alloc]; exact Nat.le_succ_of_le hbs) (own_base hown)
        · have := HGR.out.size
          rw [World.size_alloc] at this
          exact Nat.le_trans hbs (Nat.le_trans (Nat.le_succ _) this)
      case measure => have := HG.out; simp; omega

def vBytes : Value → List UInt8
  | .string s => s.data.toList
  | _ => []
theorem any_strs (l : List (List UInt8)) (q : List UInt8 → Bool) : (l.map strV).any (fun v => !q (vBytes v)) = !l.all q := by
  rw [List.any_map]
  induction l with
  | nil => rfl
  | cons a l ih =>
    simp only [List.any_cons, List.all_cons, Bool.not_and, ih, Function.comp]
    rfl
theorem pieces_rowlen (c : UInt8) (s : ByteArray) (hs : s.size ≤ 1000000000000) : ((pieces c s.data.toList).map strV).length ≤ 1099511627776 := by
  have h := pieces_len c s.data.toList
  have e : s.data.toList.length = s.size := by rw [Array.length_toList]; rfl
  rw [e] at h
  rw [List.length_map]
  omega
theorem piece_size (c : UInt8) (s : ByteArray) (p : List UInt8) (hp : p ∈ pieces c s.data.toList) : (⟨p.toArray⟩ : ByteArray).size ≤ s.size := by
  have h := pieces_small c _ p hp
  have e : s.data.toList.length = s.size := by rw [Array.length_toList]; rfl
  rw [e] at h
  exact h
set_option maxHeartbeats 4000000 in
theorem DotAtom_any (s : ByteArray) (hs : s.size ≤ 1000000000000) (w : World) (hA : AText w) : Calls Tryz.prog 81 #[.string s] w fun e w' => e = .returned (.bool (dotGo s.data.toList true)) ∧ Below w.heap.size w w' := by
  rw [dotGo_all]
  have HS := Lib.hid (Split_any s 46 (by omega) w)
  have HL := Lib.hid (pieces_rowlen 46 s hs)
  have HP := Lib.hid (fun p (hp : p ∈ pieces 46 s.data.toList) => piece_size 46 s p hp)
  have HQ := Lib.hid (any_strs (pieces 46 s.data.toList) atomL)
  generalize hQ : (pieces 46 s.data.toList).all atomL = Q at HQ
  clear hQ
  generalize hP : pieces 46 s.data.toList = ps at HS HL HP HQ
  clear hP
  go_enter Tryz.func81, Tryz.ntmps81
  go_wp2_with fail
  refine HS.out.mono ?_
  rintro e w2 ⟨v, rfl, hv, hb⟩
  have HC := Lib.hid (contains_strs 133 #[] (fun v => !atomL (vBytes v)) v _ w2 hv HL.out (enters_of Tryz.func133 (by kernel_rfl) rfl) (by
      intro x hx W hbW
      obtain ⟨p, hp, rfl⟩ := List.mem_map.1 hx
      exact Dot_clo ⟨p.toArray⟩ (Nat.le_trans (HP.out p hp) (by omega)) W ((hA.below hb).below hbW)))
  rw [HQ.out] at HC
  go_wp2_with fail
  refine HC.out.mono ?_
  rintro e w3 ⟨rfl, hb3⟩
  go_wp2
  go_ret
  exact ⟨by simp, hb.trans (hb3.mono hb.size)⟩
end Go.Proofs.YtkoncmmbdlnmfaaGreatDoor

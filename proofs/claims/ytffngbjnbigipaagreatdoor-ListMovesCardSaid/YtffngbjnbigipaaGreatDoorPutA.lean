/- Several texts joined into one (a claim has a limit of files). -/
import Derived.Test.YtffngbjnbigipaaGreatDoorListG
import Derived.Test.YtffngbjnbigipaaGreatDoorTxt
import Derived.Test.YtffngbjnbigipaaGreatDoorCmp
import Derived.Test.YtffngbjnbigipaaGreatDoorSpots
import Derived.Test.YtffngbjnbigipaaGreatDoorParse
import Derived.Deep.RegionHeld3
/- What Put hands back, as a plain function on lists of bytes. -/
namespace Go.Proofs.YtffngbjnbigipaaGreatDoor
open Go.RowKit Go.Lib
set_option linter.unusedSimpArgs false
set_option linter.unusedVariables false

abbrev Ad := List UInt8 × List UInt8
/-- the first k spots gone through: what stands there then, up to which byte of the text. -/
def putUp (s : List UInt8) (sp : List Sp) (l : List Ad) : Nat → List UInt8 × Nat
  | 0 => ([], 0)
  | k + 1 => match sp[k]?, l[k]? with
    | some x, some a => ((putUp s sp l k).1 ++ slc s (putUp s sp l k).2 x.1 ++ (if ordL (normL x.2.2) (normL a) = 0 then slc s x.1 x.2.1 else textL a), x.2.1)
    | _, _ => putUp s sp l k
def putL (s : List UInt8) (l : List Ad) : List UInt8 × Nat :=
  if (findL s).2 = 5 then ([], 5)
  else if (l.any fun a => !mayL a) = true then ([], 1)
  else if (findL s).2 ≠ 0 then ([], (findL s).2)
  else if l.length ≠ (findL s).1.length then ([], 1)
  else ((putUp s (findL s).1 l (findL s).1.length).1 ++ s.drop (putUp s (findL s).1 l (findL s).1.length).2, 0)
theorem putUp_step {s : List UInt8} {sp : List Sp} {l : List Ad} {k : Nat} {x : Sp} {a : Ad} (hx : sp[k]? = some x) (ha : l[k]? = some a) :
    putUp s sp l (k + 1) = ((putUp s sp l k).1 ++ slc s (putUp s sp l k).2 x.1 ++ (if ordL (normL x.2.2) (normL a) = 0 then slc s x.1 x.2.1 else textL a), x.2.1) := by
  rw [putUp, hx, ha]
/-- the spots of a text lie in order within it: what is cut is there. -/
theorem putUp_at {s : List UInt8} {l : List Ad} {long : Bool} {sp : List Sp} (hg : GoodSt s s.length (sp, long)) (hl : l.length = sp.length) : ∀ (k : Nat), k ≤ sp.length →
    (putUp s sp l k).2 ≤ s.length ∧ ∀ (j : Nat) (x : Sp), k ≤ j → sp[j]? = some x → (putUp s sp l k).2 ≤ x.1
  | 0, _ => ⟨Nat.zero_le _, fun _ _ _ _ => Nat.zero_le _⟩
  | k + 1, hk => by
    have hkl : k < sp.length := by omega
    have hka : k < l.length := by omega
    have hx : sp[k]? = some sp[k] := List.getElem?_eq_getElem hkl
    have ha : l[k]? = some l[k] := List.getElem?_eq_getElem hka
    rw [putUp_step hx ha]
    have hs := hg.each sp[k] (List.getElem_mem hkl)
    refine ⟨hs.le, fun j x hj hjx => ?_⟩
    obtain ⟨hjl, rfl⟩ := List.getElem?_eq_some_iff.1 hjx
    exact List.pairwise_iff_getElem.1 hg.inorder k j hkl hjl (by omega)
theorem text_len_le (a : Ad) : (textL a).length ≤ 2 * a.1.length + a.2.length + 3 := by
  unfold textL
  split
  · split
    · simp; omega
    · unfold quoteL
      have := esc_len a.1
      simp
      omega
  · simp
theorem putUp_len {s : List UInt8} {sp : List Sp} {l : List Ad} {T : Nat} (hT : ∀ a ∈ l, (textL a).length ≤ T) : ∀ (k : Nat), (putUp s sp l k).1.length ≤ k * (2 * s.length + T)
  | 0 => by simp [putUp]
  | k + 1 => by
    have ih := putUp_len (s := s) (sp := sp) hT k
    have hm : (k + 1) * (2 * s.length + T) = k * (2 * s.length + T) + (2 * s.length + T) := Nat.succ_mul _ _
    rw [putUp]
    split
    · rename_i x a hx ha
      have h1 := hT a (List.mem_of_getElem? ha)
      have h2 : ∀ i j, (slc s i j).length ≤ s.length := fun i j => by unfold slc; simp; omega
      have h3 := h2 (putUp s sp l k).2 x.1
      have h4 := h2 x.1 x.2.1
      simp only [List.length_append]
      split
      · omega
      · omega
    · omega
end Go.Proofs.YtffngbjnbigipaaGreatDoor

/- Rows of addresses: slices whose elements are these addresses. -/
namespace Go.Proofs.YtffngbjnbigipaaGreatDoor
open Go.RowKit Go.Lib
set_option linter.unusedSimpArgs false
set_option linter.unusedVariables false
set_option linter.unnecessarySimpa false
set_option maxRecDepth 100000

/-- the two cells of an address. -/
structure AdAt (w : World) (b o : Nat) (a : Ad) : Prop where
  c0 : w.cell? ⟨b, o, none⟩ = some (.string ⟨a.1.toArray⟩)
  c1 : w.cell? ⟨b, o + 1, none⟩ = some (.string ⟨a.2.toArray⟩)
theorem AdAt.below {w W : World} {b o : Nat} {a : Ad} (h : AdAt w b o a) (hb : Below w.heap.size w W) : AdAt W b o a :=
  have hl := World.block_lt_of_cell? w _ h.c0
  ⟨(hb.cell (p := ⟨b, o, none⟩) hl).trans h.c0, (hb.cell (p := ⟨b, o + 1, none⟩) hl).trans h.c1⟩
def adC (a : Ad) : List Value := [.string ⟨a.1.toArray⟩, .string ⟨a.2.toArray⟩]
def adsC (l : List Ad) : List Value := l.flatMap adC
theorem adsC_snoc (l : List Ad) (a : Ad) : adsC (l ++ [a]) = adsC l ++ adC a := by simp [adsC]
/-- a slice whose elements are these addresses. -/
def ARow (w : World) (v : Value) (l : List Ad) : Prop := ∃ p cap, v = .slice p l.length cap ∧ (l = [] ∨ ∃ b, p = some ⟨b, 0, none⟩ ∧ ∀ (i : Nat) (a : Ad), l[i]? = some a → AdAt w b (i * 2) a)
theorem ARow.below {w W : World} {v : Value} {l : List Ad} (h : ARow w v l) (hb : Below w.heap.size w W) : ARow W v l := by
  obtain ⟨p, cap, hv, h⟩ := h
  refine ⟨p, cap, hv, ?_⟩
  rcases h with h | ⟨b, hp, h⟩
  · exact .inl h
  · exact .inr ⟨b, hp, fun i a ha => (h i a ha).below hb⟩
theorem adsC_get : ∀ (l : List Ad) (i j : Nat) (a : Ad), l[i]? = some a → j < 2 → (adsC l)[i * 2 + j]? = (adC a)[j]?
  | [], _, _, _, h, _ => by simp at h
  | a :: l, 0, j, x, h, hj => by
    obtain rfl : a = x := by simpa using h
    have e : adsC (a :: l) = adC a ++ adsC l := by simp [adsC]
    rw [e, List.getElem?_append_left (by simp [adC]; omega)]
    congr 1
    omega
  | a :: l, i + 1, j, x, h, hj => by
    have e : adsC (a :: l) = adC a ++ adsC l := by simp [adsC]
    have e4 : (adC a).length = 2 := rfl
    rw [e, List.getElem?_append_right (by rw [e4]; omega), e4, ← adsC_get l i j x (by simpa using h) hj]
    congr 1
    omega
/-- a row of the call's own that holds these addresses' cells (t: api.Addr 30, ref05.Addr 33). -/
theorem ARow.of {w : World} {v : Value} {l : List Ad} {B t : Nat} (ho : w.ownsRow B t 2 v l.length (adsC l)) : ARow w v l := by
  have hc := fun (g : Nat) (hg : v.ownBlock = some g) => World.ownsRow.cells ho (g := g) hg
  obtain ⟨_, ⟨rfl, h0⟩ | ⟨g, cap, cur, rfl, _⟩⟩ := ho
  · exact ⟨none, 0, by rw [h0], .inl (List.eq_nil_of_length_eq_zero h0)⟩
  · refine ⟨_, cap, rfl, .inr ⟨g, rfl, fun i x hx => ?_⟩⟩
    have hadd : ∀ j, (⟨g, 0, none⟩ : Addr).add j = ⟨g, j, none⟩ := fun j => by unfold Addr.add; split <;> simp_all
    have key : ∀ j u, j < 2 → (adC x)[j]? = some u → w.cell? ⟨g, i * 2 + j, none⟩ = some u := fun j u hj hu => by
      have := hc g rfl (i * 2 + j) u (by rw [adsC_get l i j x hx hj]; exact hu)
      rwa [hadd] at this
    exact ⟨key 0 _ (by omega) rfl, key 1 _ (by omega) rfl⟩
end Go.Proofs.YtffngbjnbigipaaGreatDoor

/- Lengths and rows that both ways of Put ask for. -/
namespace Go.Proofs.YtffngbjnbigipaaGreatDoor
open Go.RowKit Go.Lib
set_option linter.unusedSimpArgs false
set_option linter.unusedVariables false
set_option linter.unnecessarySimpa false
set_option maxRecDepth 100000

theorem find_len (l : List UInt8) : (findL l).1.length ≤ 64 := by
  unfold findL
  split
  · simp
  · split
    · simp
    · split
      · simp
      · split
        · simp
        · simpa using (by omega : ¬ 64 < _)
theorem putL_of {s : List UInt8} {l : List Ad} {A : List Sp} {ea : Nat} (hF : findL s = (A, ea)) : putL s l =
    if ea = 5 then ([], 5) else if (l.any fun a => !mayL a) = true then ([], 1) else if ea ≠ 0 then ([], ea) else if l.length ≠ A.length then ([], 1)
    else ((putUp s A l A.length).1 ++ s.drop (putUp s A l A.length).2, 0) := by unfold putL; rw [hF]
theorem add_run {X Y Z : ByteArray} (hZ : Z = X ++ Y) (h : X.size + Y.size ≤ 9000000000000000000) : ∀ w, (Op.stringOp .add X Y).run Tryz.prog w = .ok (.string Z) w := fun w => by
  rw [hZ]; exact run_string_add_sum w _ _ (by omega)
theorem ext_list (s : ByteArray) (i j : Nat) (h : j ≤ s.size) : (s.extract i j).data.toList = slc s.data.toList i j := by
  unfold slc
  rw [ByteArray.data_extract, Array.toList_extract, List.extract_eq_take_drop, List.drop_take]
theorem size_list (s : ByteArray) : s.data.toList.length = s.size := by simp
theorem tail_len (w : List UInt8) : ∀ r : List UInt8, (tailL w r).1.length ≤ w.length ∧ (tailL w r).2.1.length ≤ r.length
  | [] => by simp [tailL]
  | c :: d => by
    have e : tailL w (c :: d) = if c = 64 then (if domL d = 5 then ([], [], 5) else if domL d = 3 ∨ 64 < w.length then ([], [], 3) else (w, d, 0)) else ([], [], 5) := rfl
    rw [e]
    by_cases h1 : c = 64
    · rw [if_pos h1]
      by_cases h2 : domL d = 5
      · rw [if_pos h2]; simp
      · rw [if_neg h2]
        by_cases h3 : domL d = 3 ∨ 64 < w.length
        · rw [if_pos h3]; simp
        · rw [if_neg h3]; simp
    · rw [if_neg h1]; simp
theorem head_len {l w r : List UInt8} (h : headL l = some (w, r)) : w.length ≤ l.length ∧ r.length ≤ l.length := by
  unfold headL at h
  split at h
  · split at h
    · injection h with h
      injection h with h1 h2
      subst h1; subst h2
      exact ⟨quoted_len l, by simp⟩
    · cases h
  · split at h
    · injection h with h
      injection h with h1 h2
      subst h1; subst h2
      exact ⟨(List.takeWhile_prefix _).length_le, (List.dropWhile_suffix _).length_le⟩
    · cases h
theorem parse_len (l : List UInt8) : (parseL l).1.length ≤ l.length ∧ (parseL l).2.1.length ≤ l.length := by
  unfold parseL
  split
  · simp
  · rename_i w r h
    have h1 := head_len h
    have h2 := tail_len w r
    omega
theorem slc_len (l : List UInt8) (i j : Nat) : (slc l i j).length ≤ l.length := by unfold slc; simp; omega
theorem any_may {l : List Ad} (h : ∀ (i : Nat) (a : Ad), i < l.length → l[i]? = some a → mayL a = true) : (l.any fun a => !mayL a) = false := by
  rw [List.any_eq_false]
  intro a ha
  obtain ⟨i, hi, rfl⟩ := List.getElem_of_mem ha
  rw [h i _ hi (List.getElem?_eq_getElem hi)]
  simp
theorem any_not {l : List Ad} {k : Nat} {a : Ad} (h : l[k]? = some a) (hm : mayL a = false) : (l.any fun a => !mayL a) = true := by
  rw [List.any_eq_true]
  exact ⟨a, List.mem_of_getElem? h, by rw [hm]; rfl⟩
theorem arow_at {w : World} {p : Option Addr} {l : List Ad} {k : Nat} (h : l = [] ∨ ∃ b, p = some ⟨b, 0, none⟩ ∧ ∀ (i : Nat) (a : Ad), l[i]? = some a → AdAt w b (i * 2) a) (hk : k < l.length) :
    ∃ b, p = some ⟨b, 0, none⟩ ∧ ∀ (i : Nat) (a : Ad), l[i]? = some a → AdAt w b (i * 2) a := by
  rcases h with rfl | h
  · simp at hk
  · exact h
theorem srow_at {w : World} {p : Option Addr} {l : List Sp} {k : Nat} (h : l = [] ∨ ∃ b, p = some ⟨b, 0, none⟩ ∧ ∀ (i : Nat) (x : Sp), l[i]? = some x → SpAt w b (i * 4) x) (hk : k < l.length) :
    ∃ b, p = some ⟨b, 0, none⟩ ∧ ∀ (i : Nat) (x : Sp), l[i]? = some x → SpAt w b (i * 4) x := by
  rcases h with rfl | h
  · simp at hk
  · exact h

end Go.Proofs.YtffngbjnbigipaaGreatDoor

/- The law's Short: some row of at most 70 addresses, each part at most 80 bytes. -/
namespace Go.Proofs.YtffngbjnbigipaaGreatDoor
open Go.RowKit Go.Lib
set_option linter.unusedSimpArgs false
set_option linter.unusedVariables false
set_option linter.unnecessarySimpa false
set_option maxRecDepth 100000

/-- a slice of addresses that comes in: nil or of some block, its parts texts. -/
def InRow (w : World) (v : Value) (n : Nat) (X Y : Nat → ByteArray) : Prop :=
  ∃ p cap, v = .slice p n cap ∧ (n = 0 ∨ ∃ b o, p = some ⟨b, o, none⟩ ∧ ∀ i, i < n → w.cell? ⟨b, o + i * 2, none⟩ = some (.string (X i)) ∧ w.cell? ⟨b, o + i * 2 + 1, none⟩ = some (.string (Y i)) ∧ (X i).size ≤ 9223372036854775807 ∧ (Y i).size ≤ 9223372036854775807)
theorem info30 : (Tryz.prog.info? 30).map (fun i => (i.zero, i.size, i.bytes)) = some (some (.agg #[.string ⟨#[]⟩, .string ⟨#[]⟩]), 2, 32) := by kernel_rfl
theorem info33 : (Tryz.prog.info? 33).map (fun i => (i.zero, i.size, i.bytes)) = some (some (.agg #[.string ⟨#[]⟩, .string ⟨#[]⟩]), 2, 32) := by kernel_rfl
theorem cells2 (w : World) (a b : Value) (t : TypeId) : ∀ (j : Nat) (u : Value), [a, b][j]? = some u → (w.alloc (.cells #[a, b] t)).cell? ((⟨w.heap.size, 0, none⟩ : Addr).add j) = some u := by
  intro j u h
  match j, h with
  | 0, h => simp at h; subst h; simp [Addr.add]
  | 1, h => simp at h; subst h; simp [Addr.add]
  | n + 2, h => simp at h
/-- one address appended to a row of the call's own. -/
theorem app_ad (t e : TypeId) (ht : Tryz.prog.underlying t = some (.slice e)) (hinf : (Tryz.prog.info? e).map (fun i => (i.zero, i.size, i.bytes)) = some (some (.agg #[.string ⟨#[]⟩, .string ⟨#[]⟩]), 2, 32))
    (w : World) (B : Nat) (v : Value) (n : Nat) (xs : List Value) (hown : w.ownsRow B e 2 v n xs) (x y : ByteArray) (hlen : n + 1 ≤ 2000000) (hbase : B ≤ w.heap.size) :
    ∃ g cap w', (Builtin.append_ #[t, t] t #[v, .slice (some ⟨w.heap.size, 0, none⟩) 1 1]).run Tryz.prog (w.alloc (.cells #[.string x, .string y] e)) = .ok (.slice (some ⟨g, 0, none⟩) (n + 1) cap) w' ∧
      w'.ownsRow B e 2 (.slice (some ⟨g, 0, none⟩) (n + 1) cap) (n + 1) (xs ++ [.string x, .string y]) ∧ Below B w w' ∧ B ≤ w'.heap.size := by
  obtain ⟨i0, hi, hz0, hz1, hz2⟩ := info_parts hinf
  obtain ⟨v', w', hrun, hown', hgr, _⟩ := run_append_own (w.alloc (.cells #[.string x, .string y] e)) B t t e i0 _ 2 32 ht hi hz0 hz1 hz2 rfl (by decide) v n xs (hown.alloc _) ⟨w.heap.size, 0, none⟩ 1 1 [.string x, .string y] rfl (cells2 w _ _ e) (by intro u hu; simp at hu; rcases hu with rfl | rfl <;> rfl) (by unfold maxLen; omega) (by omega) (by rw [World.size_alloc]; omega)
  have hb : ∀ k, v.ownBlock = some k → B ≤ k := by
    intro k hk
    obtain ⟨_, ⟨rfl, _⟩ | ⟨g', cap', cur, rfl, hg, _⟩⟩ := hown
    · simp [Value.ownBlock] at hk
    · simp only [Value.ownBlock, Option.some.injEq] at hk
      omega
  have hB : Below B w w' := (((Below.refl B w).alloc hbase _)).grown hgr (by rw [World.size_alloc]; omega) hb
  have hsz : B ≤ w'.heap.size := Nat.le_trans hbase hB.size
  have h2 := hown'
  obtain ⟨_, ⟨_, h0⟩ | ⟨g, cap, cur, rfl, _⟩⟩ := h2
  · omega
  · exact ⟨g, cap, w', hrun, hown', hB, hsz⟩
theorem step_append_ad {ops : Array Oper} {o : Oper} {a : Act} {w : World} {K : Act → World → Prop} {Q : Exit → Act → World → Prop} {E : Prop}
    (hg : o.guard = none) (s x : Operand) (hop : o.op = Op.call { callee := Callee.builtin Builtin.append, args := #[s, x], argTypes := #[48, 48] }) (hty : o.type = 48)
    (v xv v' : Value) (w' : World) (hs : a.eval s = v) (hx : a.eval x = xv) (hrun : (Builtin.append_ #[48, 48] 48 #[v, xv]).run Tryz.prog w = .ok v' w') (hK : K (a.put o.dst v') w') :
    if Region.wanted o (yielded ops a.tmps) = true then Oper.wp Tryz.prog o a w K Q else E := by
  have hw : Region.wanted o (yielded ops a.tmps) = true := by simp [Region.wanted, hg]
  rw [if_pos hw]
  unfold Oper.wp
  simp [execOp, hop, hty, resolve, invoke, builtin, hs, hx, hrun, Result.andThen]
  exact hK
def cut80 (X : ByteArray) : ByteArray := X.extract 0 (min (X.size : Int) 80).toNat
theorem cut80_size (X : ByteArray) : (cut80 X).size ≤ 80 := by unfold cut80; simp; omega
def ShRel (w : World) (m : Nat) (g : Nat) (v3 v4 : Value) (W : World) : Prop :=
  ∃ (k : Nat) (l : List Ad) (v : Value), v4 = .int .i64 (k : Int) ∧ v = v3 ∧ k ≤ m ∧ k ≤ 70 ∧ g = m - k ∧ l.length = k ∧ (∀ a ∈ l, a.1.length ≤ 80 ∧ a.2.length ≤ 80) ∧ W.ownsRow w.heap.size 30 2 v l.length (adsC l) ∧ Below w.heap.size w W ∧ w.heap.size ≤ W.heap.size
set_option maxHeartbeats 8000000 in
theorem Short_any (v : Value) (m : Nat) (X Y : Nat → ByteArray) (w : World) (h : InRow w v m X Y) (hm : m ≤ 9223372036854775807) :
    Calls Tryz.prog 23 #[v] w fun e w' => ∃ v', e = .returned v' ∧ ∃ l, ARow w' v' l ∧ l.length ≤ 70 ∧ (∀ a ∈ l, a.1.length ≤ 80 ∧ a.2.length ≤ 80) ∧ Below w.heap.size w w' := by
  obtain ⟨p, cap, rfl, hin⟩ := h
  have HIN := Lib.hid hin
  clear hin
  go_enter Tryz.func23, Tryz.ntmps23
  go_wp2_with fail
  go_loopg [3, 4] m (fun g v3 v4 W => ShRel w m g v3 v4 W)
  case atStart => exact ⟨0, [], _, rfl, rfl, Nat.zero_le _, Nat.zero_le _, rfl, rfl, fun a ha => (by cases ha), World.ownsRow_nil _ _ _ _, Below.refl _ _, Nat.le_refl _⟩
  case round =>
    obtain ⟨k, l, v3, rfl, rfl, hk, hk70, hg, hlk, hparts, hown, hb, hsz⟩ := hrel
    have HG := Lib.hid hg
    have HB := Lib.hid hb
    have HL := Lib.hid hlk
    have HP := Lib.hid hparts
    have HO := Lib.hid hown
    have HSZ := Lib.hid hsz
    clear hg hb hlk hparts hown hsz
    have e70 : 70 ≤ 70 := Nat.le_refl _
    by_cases hlt : k < m
    · have hk1 : (k : Int) < (m : Int) := by omega
      by_cases h70 : k < 70
      · have hk2 : (k : Int) < 70 := by omega
        have hk0 : (0 : Int) ≤ (k : Int) := by omega
        have hwk : IntKind.i64.wrap ((k : Int) + 1) = (k : Int) + 1 := by rw [IntKind.wrap_i64]; omega
        obtain ⟨b, o, rfl, hin⟩ := HIN.out.resolve_left (by omega)
        obtain ⟨c0, c1, x1, y1⟩ := hin k hlt
        have hlb : b < w.heap.size := World.block_lt_of_cell? w _ c0
        have d0 : wr.cell? ⟨b, o + k * 2, none⟩ = some (.string (X k)) := (HB.out.cell (p := ⟨b, o + k * 2, none⟩) hlb).trans c0
        have d1 : wr.cell? ⟨b, o + k * 2 + 1, none⟩ = some (.string (Y k)) := (HB.out.cell (p := ⟨b, o + k * 2 + 1, none⟩) hlb).trans c1
        clear hin c0 c1
        generalize X k = x at d0 x1
        generalize Y k = y at d1 y1
        have m0 : (0 : Int) ≤ min (x.size : Int) 80 := by omega
        have m1 : min (x.size : Int) 80 ≤ (x.size : Int) := by omega
        have n0 : (0 : Int) ≤ min (y.size : Int) 80 := by omega
        have n1 : min (y.size : Int) 80 ≤ (y.size : Int) := by omega
        obtain ⟨g, cap', wa, hrun, hown', hbB, hszw⟩ := app_ad 48 30 Tryz.underlying48 info30 wr.drew _ v3 l.length (adsC l) (HO.out) (cut80 x) (cut80 y) (by have := HL.out; omega) HSZ.out
        have HO2 := Lib.hid hown'
        have HB2 := Lib.hid ((HB.out.trans ((drew_below wr).mono HSZ.out)).trans hbB)
        have HSZ2 := Lib.hid hszw
        have e0 : wa.cell? ⟨b, o + k * 2, none⟩ = some (.string x) := (hbB.cell (p := ⟨b, o + k * 2, none⟩) hlb).trans d0
        have e1 : wa.cell? ⟨b, o + k * 2 + 1, none⟩ = some (.string y) := (hbB.cell (p := ⟨b, o + k * 2 + 1, none⟩) hlb).trans d1
        have hS : wr.drew.cell? ⟨b, o + k * 2, none⟩ = some (.string x) ∧ wr.drew.cell? ⟨b, o + k * 2 + 1, none⟩ = some (.string y) := ⟨d0, d1⟩
        have hba := alloc_below wr.drew (.cells #[.string (cut80 x), .string (cut80 y)] 30)
        have hlb2 : b < wr.drew.heap.size := Nat.lt_of_lt_of_le hlb HSZ.out
        have hSA : (wr.drew.alloc (.cells #[.string (cut80 x), .string (cut80 y)] 30)).cell? ⟨b, o + k * 2, none⟩ = some (.string x) ∧ (wr.drew.alloc (.cells #[.string (cut80 x), .string (cut80 y)] 30)).cell? ⟨b, o + k * 2 + 1, none⟩ = some (.string y) :=
          ⟨(hba.cell (p := ⟨b, o + k * 2, none⟩) hlb2).trans d0, (hba.cell (p := ⟨b, o + k * 2 + 1, none⟩) hlb2).trans d1⟩
        have hS2 : wa.cell? ⟨b, o + k * 2, none⟩ = some (.string x) ∧ wa.cell? ⟨b, o + k * 2 + 1, none⟩ = some (.string y) := ⟨e0, e1⟩
        clear hown' hbB hszw hba
        unfold cut80 at hrun hSA
        go_wp2_with fail
        go_region_held3 (fun W => W.cell? ⟨b, o + k * 2, none⟩ = some (.string x) ∧ W.cell? ⟨b, o + k * 2 + 1, none⟩ = some (.string y))
          (first | exact hS2 | exact hSA | exact hS | go_keep)
          (first | (refine step_append_ad rfl _ _ rfl rfl _ _ _ _ rfl rfl hrun ?_))
        all_goals
          go_wp2_with fail
          go_roundg (m - (k + 1))
          case rel =>
            refine ⟨k + 1, l ++ [((cut80 x).data.toList, (cut80 y).data.toList)], _, by go_num, rfl, by omega, by omega, rfl, by simp [HL.out], ?_, ?_, HB2.out, HSZ2.out⟩
            · intro a ha
              rcases List.mem_append.1 ha with ha | ha
              · exact HP.out a ha
              · obtain rfl := List.mem_singleton.1 ha
                have q1 := cut80_size x
                have q2 := cut80_size y
                exact ⟨by simpa using q1, by simpa using q2⟩
            · rw [List.length_append, adsC_snoc]
              exact HO2.out
          case measure => have := HG.out; omega
      · have h70' : ¬ (k : Int) < 70 := by omega
        have hn := HO.out
        have HR := Lib.hid (ARow.of HO.out)
        clear hn
        go_wp2
        go_ret
        exact ⟨_, rfl, l, HR.out, by have := HL.out; omega, fun a b h => HP.out (a, b) h, HB.out⟩
    · have hge : ¬ (k : Int) < (m : Int) := by omega
      have HR := Lib.hid (ARow.of HO.out)
      go_wp2
      go_ret
      exact ⟨_, rfl, l, HR.out, by have := HL.out; omega, fun a b h => HP.out (a, b) h, HB.out⟩
end Go.Proofs.YtffngbjnbigipaaGreatDoor

/- Several texts joined into one (a claim has a limit of files). -/
import Derived.Test.YtkoncmmbdlnmfaaGreatDoorEK1
import Derived.Deep.AppendLies
import Derived.Lib.IndexBytes
/- Rows of elements of several cells; a cell of an own row written; targets of any kind as values. -/
namespace Go.Proofs.YtkoncmmbdlnmfaaGreatDoor
open Go.RowKit Go.Lib
set_option linter.unusedSimpArgs false
set_option linter.unusedVariables false
set_option linter.unnecessarySimpa false
set_option maxRecDepth 100000

/-- a slice whose elements are these, of k cells each. -/
def GRow {α : Type} (k : Nat) (C : α → List Value) (w : World) (v : Value) (l : List α) : Prop :=
  ∃ p cap, v = .slice p l.length cap ∧ (l = [] ∨ ∃ b o, p = some ⟨b, o, none⟩ ∧ b < w.heap.size ∧ ∀ (i : Nat) (x : α), l[i]? = some x → ∀ (j : Nat) (u : Value), (C x)[j]? = some u → w.cell? ⟨b, o + i * k + j, none⟩ = some u)
theorem GRow.below {α : Type} {k : Nat} {C : α → List Value} {w W : World} {v : Value} {l : List α} (h : GRow k C w v l) (hb : Below w.heap.size w W) : GRow k C W v l := by
  obtain ⟨p, cap, hv, h⟩ := h
  refine ⟨p, cap, hv, ?_⟩
  rcases h with h | ⟨b, o, hp, hlt, h⟩
  · exact .inl h
  · exact .inr ⟨b, o, hp, Nat.lt_of_lt_of_le hlt hb.size, fun i x hx j u hu => (hb.cell (p := ⟨b, o + i * k + j, none⟩) hlt).trans (h i x hx j u hu)⟩
theorem flat_len {α : Type} {k : Nat} {C : α → List Value} (hC : ∀ x, (C x).length = k) : ∀ l : List α, (l.flatMap C).length = l.length * k
  | [] => by simp
  | a :: l => by
    rw [List.flatMap_cons, List.length_append, hC, flat_len hC l, List.length_cons, Nat.add_mul]
    omega
theorem flat_get {α : Type} {k : Nat} {C : α → List Value} (hC : ∀ x, (C x).length = k) : ∀ (l : List α) (i j : Nat) (a : α), l[i]? = some a → j < k → (l.flatMap C)[i * k + j]? = (C a)[j]?
  | [], _, _, _, h, _ => by simp at h
  | a :: l, 0, j, x, h, hj => by
    obtain rfl : a = x := by simpa using h
    rw [List.flatMap_cons, Nat.zero_mul, Nat.zero_add, List.getElem?_append_left (by rw [hC]; exact hj)]
  | a :: l, i + 1, j, x, h, hj => by
    have hle : k ≤ (i + 1) * k + j := by rw [Nat.add_mul]; omega
    rw [List.flatMap_cons, List.getElem?_append_right (by rw [hC]; exact hle), hC, ← flat_get hC l i j x (by simpa using h) hj]
    congr 1
    rw [Nat.add_mul]; omega
theorem flat_snoc {α : Type} (C : α → List Value) (l : List α) (a : α) : (l ++ [a]).flatMap C = l.flatMap C ++ C a := by simp
/-- a row of the call's own that holds these cells. -/
theorem GRow.of {α : Type} {k : Nat} {C : α → List Value} (hC : ∀ x, (C x).length = k) {w : World} {v : Value} {l : List α} {B t : Nat} (ho : w.ownsRow B t k v l.length (l.flatMap C)) : GRow k C w v l := by
  have hc := fun (g : Nat) (hg : v.ownBlock = some g) => World.ownsRow.cells ho (g := g) hg
  obtain ⟨_, ⟨rfl, h0⟩ | ⟨g, cap, cur, rfl, _, hh, _⟩⟩ := ho
  · exact ⟨none, 0, by rw [h0], .inl (List.eq_nil_of_length_eq_zero h0)⟩
  · refine ⟨_, cap, rfl, .inr ⟨g, 0, rfl, (Array.getElem?_eq_some_iff.1 hh).1, fun i x hx j u hu => ?_⟩⟩
    have hjk : j < k := by rw [← hC x]; exact (List.getElem?_eq_some_iff.1 hu).1
    have hadd : ∀ j, (⟨g, 0, none⟩ : Addr).add j = ⟨g, j, none⟩ := fun j => by unfold Addr.add; split <;> simp_all
    have := hc g rfl (i * k + j) u (by rw [flat_get hC l i j x hx hjk]; exact hu)
    rw [hadd] at this
    rw [Nat.zero_add]
    exact this
theorem grow_at {α : Type} {k : Nat} {C : α → List Value} {w : World} {l : List α} {p : Option Addr} {i : Nat} (h : l = [] ∨ ∃ b o, p = some ⟨b, o, none⟩ ∧ b < w.heap.size ∧ ∀ (i : Nat) (x : α), l[i]? = some x → ∀ (j : Nat) (u : Value), (C x)[j]? = some u → w.cell? ⟨b, o + i * k + j, none⟩ = some u) (hi : i < l.length) :
    ∃ b o, p = some ⟨b, o, none⟩ ∧ ∀ (i : Nat) (x : α), l[i]? = some x → ∀ (j : Nat) (u : Value), (C x)[j]? = some u → w.cell? ⟨b, o + i * k + j, none⟩ = some u := by
  rcases h with h | ⟨b, o, hp, _, h⟩
  · rw [h] at hi; exact absurd hi (Nat.not_lt_zero _)
  · exact ⟨b, o, hp, h⟩
/-- a row's first ones. -/
theorem GRow.take {α : Type} {k : Nat} {C : α → List Value} {w : World} {p : Option Addr} {n cap : Nat} {l : List α} (h : GRow k C w (.slice p n cap) l) (m : Nat) (hm : m ≤ l.length) (cap' : Nat) : GRow k C w (.slice p m cap') (l.take m) := by
  obtain ⟨p', c', he, h⟩ := h
  obtain rfl : p = p' := by injection he
  refine ⟨p, cap', by rw [List.length_take, Nat.min_eq_left hm], ?_⟩
  rcases h with h | ⟨b, o, hp, hlt, h⟩
  · exact .inl (by rw [h]; simp)
  · refine .inr ⟨b, o, hp, hlt, fun i x hx => h i x ?_⟩
    rw [List.getElem?_take] at hx
    split at hx
    · exact hx
    · cases hx
/-- a cell of a row of one's own, written. -/
theorem own_set {w : World} {B e size g n cap : Nat} {xs : List Value} (h : w.ownsRow B e size (.slice (some ⟨g, 0, none⟩) n cap) n xs) (j : Nat) (u : Value) : (w.setCell ⟨g, j, none⟩ u).ownsRow B e size (.slice (some ⟨g, 0, none⟩) n cap) n (xs.set j u) := by
  obtain ⟨hl, ⟨h1, -⟩ | ⟨g', cap', cur, he, hB, hg, h1, h2, h3, h4⟩⟩ := h
  · cases h1
  · injection he with e1 e2 e3
    injection e1 with e1
    injection e1 with e1
    subst e1
    subst e3
    refine ⟨by rw [List.length_set]; exact hl, .inr ⟨g, cap, cur.setIfInBounds j u, rfl, hB, ?_, h1, h2, by rw [Array.size_setIfInBounds]; exact h3, ?_⟩⟩
    · have hlt := (Array.getElem?_eq_some_iff.1 hg).1
      have h' : w.heap[g] = .cells cur e (0, 0) := by simpa [Array.getElem?_eq_getElem hlt] using hg
      show (w.heap.modify g _)[g]? = _
      rw [Array.getElem?_eq_getElem (by simpa using hlt), Array.getElem_modify_self, h']
      rfl
    · rw [← h4, Array.toList_setIfInBounds, List.take_set]
theorem own_free {w : World} {B e size g n cap : Nat} {xs : List Value} (h : w.ownsRow B e size (.slice (some ⟨g, 0, none⟩) n cap) n xs) (j : Nat) : w.frozen? ⟨g, j, none⟩ = false := by
  obtain ⟨hl, ⟨h1, -⟩ | ⟨g', cap', cur, he, hB, hg, h1, h2, h3, h4⟩⟩ := h
  · cases h1
  · injection he with e1 e2 e3
    injection e1 with e1
    injection e1 with e1
    subst e1
    simp [World.frozen?, hg]
theorem own_alloc {w : World} {B e size n : Nat} {v : Value} {xs : List Value} (h : w.ownsRow B e size v n xs) (o : Obj) : (w.alloc o).ownsRow B e size v n xs := h.alloc _

/-- one element more on a row of the call's own. -/
theorem app_gen {ops : Array Oper} {rest : List Oper} {o : Oper} {a : Act} {Q : Exit → Act → World → Prop} {w : World} (hgd : o.guard = none) (s x : Operand) (t e k by' : Nat) (z : Value)
    (ht : Tryz.prog.underlying t = some (.slice e)) (hinfo : (Tryz.prog.info? e).map (fun i => (i.zero, i.size, i.bytes)) = some (some z, k, by')) (hzs : z.cells.size = k) (hk : 0 < k) (hby : by' ≤ 64)
    (ho : o.op = .call { callee := .builtin .append, args := #[s, x], argTypes := #[t, t] })
    (B : Nat) (v : Value) (n : Nat) (xs : List Value) (hs : a.eval s = v) (hown : w.ownsRow B e k v n xs) (c cp : Nat) (news : List Value) (hx : a.eval x = .slice (some ⟨c, 0, none⟩) 1 cp)
    (hl : news.length = k) (hnews : ∀ (j : Nat) (u : Value), news[j]? = some u → w.cell? ⟨c, j, none⟩ = some u) (h1 : ∀ u ∈ news, u.oneCell' = true) (hlen : n + 1 ≤ 2147483648) (hbase : B ≤ w.heap.size)
    (h : ∀ g cap w', w'.ownsRow B e k (.slice (some ⟨g, 0, none⟩) (n + 1) cap) (n + 1) (xs ++ news) → w.grownBy w' v.ownBlock → (v.ownBlock = some g ∨ g = w.heap.size) → wpList Tryz.prog ops Q rest (a.put o.dst (.slice (some ⟨g, 0, none⟩) (n + 1) cap)) w') : wpList Tryz.prog ops Q (o :: rest) a w := by
  obtain ⟨i0, hi, hz0, hz1, hz2⟩ := info_parts hinfo
  have hadd : ∀ j, (⟨c, 0, none⟩ : Addr).add j = ⟨c, j, none⟩ := fun j => by unfold Addr.add; split <;> simp_all
  refine wpList_plain hgd fun K hK => ?_
  refine wp_append_lies w s x t ho B e i0 z k by' ht hi hz0 hz1 hz2 hzs hk v n xs hs hown ⟨c, 0, none⟩ 1 cp news hx (by rw [hl, Nat.one_mul]) (fun j u hj => by rw [hadd]; exact hnews j u hj) h1 (by decide) (by unfold maxLen; omega) ?_ hbase w.heap.size rfl ?_
  · calc (n + 1) * by' ≤ 2147483648 * 64 := Nat.mul_le_mul hlen hby
      _ ≤ 140737488355328 := by decide
  · intro g cap w' h2 h3 h4 _
    exact hK _ _ (h g cap w' h2 h3 h4)
/-- two rows of one's own, of elements of other types, lie apart. -/
theorem own_apart {w : World} {B B' e e' k k' n n' : Nat} {v v' : Value} {xs xs' : List Value} (h : w.ownsRow B e k v n xs) (h' : w.ownsRow B' e' k' v' n' xs') (hne : e ≠ e') : v'.ownBlock = none ∨ v.ownBlock ≠ v'.ownBlock := by
  obtain ⟨-, ⟨rfl, -⟩ | ⟨g', cap', cur', rfl, -, hg', -⟩⟩ := h'
  · exact .inl rfl
  · refine .inr fun e0 => ?_
    obtain ⟨-, ⟨rfl, -⟩ | ⟨g, cap, cur, rfl, -, hg, -⟩⟩ := h
    · cases e0
    · simp only [Value.ownBlock, Option.some.injEq] at e0
      subst e0
      rw [hg] at hg'
      injection hg' with hg'
      injection hg' with _ h2
      exact hne h2
/-- a target as any caller may have it: its kind is any number. -/
abbrev TI := Int × (List UInt8 × List UInt8) × List UInt8
def tiC (t : TI) : List Value := [.int .i64 t.1, .string ⟨t.2.1.1.toArray⟩, .string ⟨t.2.1.2.toArray⟩, .string ⟨t.2.2.toArray⟩]
def tiV (t : TI) : Value := .agg (tiC t).toArray
def up (t : Tg) : TI := ((t.1 : Int), t.2)
theorem tiV_up (t : Tg) : tiV (up t) = tgV t := rfl
theorem tiC_len (t : TI) : (tiC t).length = 4 := rfl
theorem up_inj {a b : Tg} (h : up a = up b) : a = b := by
  obtain ⟨k, r⟩ := a
  obtain ⟨k', r'⟩ := b
  unfold up at h
  injection h with h1 h2
  simp only at h1 h2
  rw [h2, Int.ofNat.inj h1]
def strC (x : List UInt8) : List Value := [.string ⟨x.toArray⟩]
def sdC (x : Nat × List UInt8 × Bool) : List Value := [.int .i64 (x.1 : Int), .string ⟨x.2.1.toArray⟩, .bool x.2.2]
def enC (x : Nat × List UInt8) : List Value := [.int .i64 (x.1 : Int), .string ⟨x.2.toArray⟩, .slice none 0 0]
def faC (x : Nat × Nat) : List Value := [.int .i64 (x.1 : Int), .int .i64 (x.2 : Int)]
end Go.Proofs.YtkoncmmbdlnmfaaGreatDoor

/- One word of a text without quotes behind the other. Plain Lean. -/
namespace Go.Proofs.YtkoncmmbdlnmfaaGreatDoor
open Go.RowKit Go.Lib
set_option linter.unusedSimpArgs false
set_option linter.unusedVariables false
set_option linter.unnecessarySimpa false
set_option maxRecDepth 100000

theorem trimF_blank {b : UInt8} (h : blkB b = true) (l : List UInt8) : trimF (b :: l) = trimF l := by
  unfold trimF
  rw [List.dropWhile_cons, if_pos h]
theorem trimW_b {b : UInt8} (h : blkB b = true) (l : List UInt8) : trimW (b :: l) = trimW l := by
  unfold trimW
  rw [trimF_blank h]
theorem trimW_two (l : List UInt8) : trimW l = trimF (trimF l.reverse).reverse := by
  have := trim_two blkB l
  unfold trimW trimF
  exact this.symm
theorem trimW_e {b : UInt8} (h : blkB b = true) (l : List UInt8) : trimW (l ++ [b]) = trimW l := by
  rw [trimW_two, trimW_two, List.reverse_append]
  show trimF (trimF (b :: l.reverse)).reverse = _
  rw [trimF_blank h]
theorem blank_no44 {b : UInt8} (h : blkB b = true) : b ≠ 44 := by
  rintro rfl
  simp [blkB] at h
theorem pm_F : ∀ l : List UInt8, (pieces 44 (trimF l)).map trimW = (pieces 44 l).map trimW
  | [] => rfl
  | b :: l => by
    cases hb : blkB b with
    | true =>
      obtain ⟨p, ps, hp⟩ := pieces_form 44 l
      rw [trimF_blank hb, pm_F l, pieces_ne 44 b l p ps (blank_no44 hb) hp, hp, List.map_cons, List.map_cons, trimW_b hb]
    | false =>
      have e : trimF (b :: l) = b :: l := by unfold trimF; rw [List.dropWhile_cons, if_neg (by simp [hb])]
      rw [e]
theorem pieces_end (c b : UInt8) (hb : b ≠ c) : ∀ l : List UInt8, ∃ i q, pieces c l = i ++ [q] ∧ pieces c (l ++ [b]) = i ++ [q ++ [b]]
  | [] => ⟨[], [], by simp [pieces], by simp [pieces, hb]⟩
  | x :: l => by
    obtain ⟨i, q, h1, h2⟩ := pieces_end c b hb l
    by_cases hx : x = c
    · subst hx
      exact ⟨[] :: i, q, by rw [pieces_eq, h1]; rfl, by rw [List.cons_append, pieces_eq, h2]; rfl⟩
    · cases i with
      | nil => exact ⟨[], x :: q, by rw [pieces_ne c x l q [] hx h1]; rfl, by rw [List.cons_append, pieces_ne c x (l ++ [b]) (q ++ [b]) [] hx h2]; rfl⟩
      | cons p i => exact ⟨(x :: p) :: i, q, by rw [pieces_ne c x l p (i ++ [q]) hx h1]; rfl, by rw [List.cons_append, pieces_ne c x (l ++ [b]) p (i ++ [q ++ [b]]) hx h2]; rfl⟩
theorem pm_E : ∀ r : List UInt8, (pieces 44 (trimF r).reverse).map trimW = (pieces 44 r.reverse).map trimW
  | [] => rfl
  | b :: r => by
    cases hb : blkB b with
    | true =>
      obtain ⟨i, q, h1, h2⟩ := pieces_end 44 b (blank_no44 hb) r.reverse
      rw [trimF_blank hb, pm_E r, List.reverse_cons, h1, h2, List.map_append, List.map_append, List.map_cons, List.map_cons, trimW_e hb]
    | false =>
      have e : trimF (b :: r) = b :: r := by unfold trimF; rw [List.dropWhile_cons, if_neg (by simp [hb])]
      rw [e]
theorem pm_W (l : List UInt8) : (pieces 44 (trimW l)).map trimW = (pieces 44 l).map trimW := by
  have h1 := pm_E (trimF l).reverse
  rw [List.reverse_reverse] at h1
  unfold trimW
  exact h1.trans (pm_F l)
/-- the first word of a text, what stands behind it, whether something does. -/
def wordL (s : List UInt8) : List UInt8 × List UInt8 × Bool := (trimW (Lib.cut (trimW s) [44]).1, (Lib.cut (trimW s) [44]).2.1, (Lib.cut (trimW s) [44]).2.2)
theorem cut_44 (s : List UInt8) : (∃ i : Nat, Lib.indexByte s 44 = i ∧ Lib.cut s [44] = (s.take i, s.drop (i + 1), true)) ∨ (Lib.indexByte s 44 = -1 ∧ Lib.cut s [44] = (s, [], false)) := by
  unfold Lib.cut
  rw [Lib.index_one]
  rcases Int.lt_or_le (Lib.indexByte s 44) 0 with h | h
  · have h1 : Lib.indexByte s 44 = -1 := by
      have := Lib.indexByte_ge s 44
      omega
    exact .inr ⟨h1, by rw [h1, if_neg (by decide)]⟩
  · obtain ⟨o, ho⟩ := Int.eq_ofNat_of_zero_le h
    exact .inl ⟨o, ho, by rw [ho, if_pos (by omega)]; rfl⟩
theorem word_step (s : List UInt8) : if (wordL s).2.2 = true then (pieces 44 s).map trimW = (wordL s).1 :: (pieces 44 (wordL s).2.1).map trimW else (pieces 44 s).map trimW = [(wordL s).1] := by
  rw [← pm_W s]
  unfold wordL
  rcases cut_44 (trimW s) with ⟨i, h1, h2⟩ | ⟨h1, h2⟩
  · rw [h2]
    simp only [if_true]
    rw [pieces_hit 44 _ i h1, List.map_cons]
  · rw [h2]
    simp only [Bool.false_eq_true, if_false]
    rw [pieces_miss 44 _ h1, List.map_cons, List.map_nil]
theorem word_noq {s : List UInt8} (h : ∀ b ∈ s, b ≠ 34) : (∀ b ∈ (wordL s).1, b ≠ 34) ∧ (∀ b ∈ (wordL s).2.1, b ≠ 34) ∧ (wordL s).2.1.length ≤ s.length := by
  have hW : ∀ b ∈ trimW s, b ≠ 34 := fun b hb => h b (trimW_mem hb)
  have hl : (trimW s).length ≤ s.length := by
    unfold trimW trimF
    have h1 := (List.dropWhile_sublist blkB (l := s)).length_le
    have h2 := (List.dropWhile_sublist blkB (l := (s.dropWhile blkB).reverse)).length_le
    rw [List.length_reverse] at h2 ⊢
    omega
  unfold wordL
  rcases cut_44 (trimW s) with ⟨i, h1, h2⟩ | ⟨h1, h2⟩
  · rw [h2]
    refine ⟨fun b hb => hW b (List.mem_of_mem_take (trimW_mem hb)), fun b hb => hW b (List.mem_of_mem_drop hb), ?_⟩
    simp only [List.length_drop]
    omega
  · rw [h2]
    refine ⟨fun b hb => hW b (trimW_mem hb), fun b hb => (by cases hb), ?_⟩
    simp only [List.length_nil]
    omega
end Go.Proofs.YtkoncmmbdlnmfaaGreatDoor

/- The lines of a text, put together: what the walk asks. Plain Lean. -/
namespace Go.Proofs.YtkoncmmbdlnmfaaGreatDoor
open Go.RowKit Go.Lib
set_option linter.unusedSimpArgs false
set_option linter.unusedVariables false
set_option linter.unnecessarySimpa false
set_option maxRecDepth 100000

theorem pieces_sum (c : UInt8) : ∀ l : List UInt8, ((pieces c l).map (fun p => p.length + 1)).sum = l.length + 1
  | [] => rfl
  | x :: xs => by
    have ih := pieces_sum c xs
    obtain ⟨p, ps, hp⟩ := pieces_form c xs
    by_cases hx : x = c
    · subst hx
      rw [pieces_eq, List.map_cons, List.sum_cons, ih]
      simp only [List.length_nil, List.length_cons]
      omega
    · rw [pieces_ne c x xs p ps hx hp]
      rw [hp] at ih
      simp only [List.map_cons, List.sum_cons, List.length_cons] at ih ⊢
      omega
theorem trimW_len (l : List UInt8) : (trimW l).length ≤ l.length := by
  unfold trimW trimF
  have h1 := (List.dropWhile_sublist blkB (l := l)).length_le
  have h2 := (List.dropWhile_sublist blkB (l := (l.dropWhile blkB).reverse)).length_le
  rw [List.length_reverse] at h2 ⊢
  omega
theorem cutCR_len (l : List UInt8) : (cutCR l).length ≤ l.length := by
  unfold cutCR
  split
  · rw [List.length_dropLast]; omega
  · exact Nat.le_refl _
theorem cutCR_suffix (l : List UInt8) : Lib.trimSuffix l [13] = cutCR l := by
  unfold Lib.trimSuffix cutCR
  rw [← Lib.hasSuffix_of_drop]
  rcases List.eq_nil_or_concat l with rfl | ⟨i, b, rfl⟩
  · rfl
  · rw [List.concat_eq_append]
    have e1 : (i ++ [b]).length - ([13] : List UInt8).length = i.length := by simp
    rw [e1, List.drop_left]
    by_cases hb : b = 13
    · subst hb; simp
    · simp [hb]
theorem goOn_some {l : List Sd} {x : Sd} (i : List Sd) (hl : l = i ++ [x]) (bare : List UInt8) : goOn l bare = i ++ [(x.1, x.2.1 ++ 32 :: bare, x.2.2)] := by
  subst hl
  unfold goOn
  simp
theorem goOn_cells {l i : List Sd} {x : Sd} (hl : l = i ++ [x]) (bare : List UInt8) : (goOn l bare).flatMap sdC = (l.flatMap sdC).set (i.length * 3 + 1) (.string ⟨(x.2.1 ++ 32 :: bare).toArray⟩) := by
  rw [goOn_some i hl, hl, flat_snoc, flat_snoc]
  have e := flat_len (k := 3) (C := sdC) (fun _ => rfl) i
  rw [List.set_append_right _ _ (by rw [e]; omega), e]
  have : i.length * 3 + 1 - i.length * 3 = 1 := by omega
  rw [this]
  rfl
/-- texts stay short. -/
theorem log_bound (st : List Sd × Bool) (k : Nat) (x : List UInt8) (R N : Nat) (h : ∀ y ∈ st.1, y.2.1.length + (x.length + 1 + R) ≤ N) (h0 : x.length + 1 + R ≤ N) : ∀ y ∈ (logStep st k x).1, y.2.1.length + R ≤ N := by
  have ht : (trimW (cutCR x)).length ≤ x.length := Nat.le_trans (trimW_len _) (cutCR_len _)
  have hold : ∀ y ∈ st.1, y.2.1.length + R ≤ N := fun y hy => by have := h y hy; omega
  have hnew : ∀ (b : Bool), ∀ y ∈ st.1 ++ [(k + 1, trimW (cutCR x), b)], y.2.1.length + R ≤ N := by
    intro b y hy
    rcases List.mem_append.1 hy with hy | hy
    · exact hold y hy
    · obtain rfl := List.mem_singleton.1 hy
      show (trimW (cutCR x)).length + R ≤ N
      omega
  unfold logStep
  split
  · exact hold
  · split
    · exact hnew _
    · split
      · exact hnew _
      · intro y hy
        unfold goOn at hy
        split at hy
        · exact hold y hy
        · rename_i z hz
          rcases List.mem_append.1 hy with hy | hy
          · exact hold y (List.dropLast_subset _ hy)
          · obtain rfl := List.mem_singleton.1 hy
            have := h z (List.mem_of_getLast? hz)
            show (z.2.1 ++ 32 :: trimW (cutCR x)).length + R ≤ N
            rw [List.length_append, List.length_cons]
            omega
theorem log_some (st : List Sd × Bool) (k : Nat) (x : List UInt8) (h : st.2 = true → st.1 ≠ []) : (logStep st k x).2 = true → (logStep st k x).1 ≠ [] := by
  unfold logStep
  split
  · exact h
  · split
    · intro _; simp
    · split
      · intro _; simp
      · intro h2
        have := h h2
        unfold goOn
        split
        · exact this
        · simp
theorem log_many (st : List Sd × Bool) (k : Nat) (x : List UInt8) : (logStep st k x).1.length ≤ st.1.length + 1 := by
  unfold logStep
  split
  · simp
  · split
    · simp
    · split
      · simp
      · unfold goOn
        split
        · simp
        · rename_i z hz
          simp only [List.length_append, List.length_dropLast, List.length_cons, List.length_nil]
          have : 0 < st.1.length := by
            cases hs : st.1 with
            | nil => rw [hs] at hz; cases hz
            | cons a b => simp
          omega
theorem log_snoc : ∀ (a : List (List UInt8)) (x : List UInt8) (k : Nat) (st : List Sd × Bool), logGo (a ++ [x]) k st = logStep (logGo a k st) (k + a.length) x
  | [], x, k, st => rfl
  | y :: a, x, k, st => by
    show logGo (a ++ [x]) (k + 1) (logStep st k y) = _
    rw [log_snoc a x (k + 1)]
    show logStep (logGo a (k + 1) (logStep st k y)) (k + 1 + a.length) x = logStep (logGo a (k + 1) (logStep st k y)) (k + (a.length + 1)) x
    rw [show k + 1 + a.length = k + (a.length + 1) by omega]
end Go.Proofs.YtkoncmmbdlnmfaaGreatDoor

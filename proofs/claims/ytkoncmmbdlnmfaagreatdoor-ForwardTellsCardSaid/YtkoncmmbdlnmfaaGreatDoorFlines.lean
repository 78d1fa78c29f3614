/- Lines and commas: the plain law of ForwardLines. Plain Lean. (Written in seat ZD's namespace; to be carried over by its name.) -/
import Derived.Test.YtkoncmmbdlnmfaaGreatDoorFback
namespace Go.Proofs.YtkoncmmbdlnmfaaGreatDoor
open Go.RowKit Go.Lib
set_option linter.unusedSimpArgs false
set_option linter.unusedVariables false
set_option linter.unnecessarySimpa false
set_option maxRecDepth 100000

theorem addAll_app (user : List UInt8) : ∀ (l l' out : List Tg), addAll user out (l ++ l') = addAll user (addAll user out l) l'
  | [], l', out => rfl
  | t :: l, l', out => by
    rw [List.cons_append, addAll, addAll]
    exact addAll_app user l l' _
theorem addAll_ne (user : List UInt8) : ∀ (l out : List Tg), out ≠ [] → addAll user out l ≠ []
  | [], out, h => h
  | t :: l, out, h => by
    rw [addAll]
    refine addAll_ne user l _ ?_
    unfold addT
    split
    · exact h
    · simp
theorem addAll_some (user : List UInt8) {l : List Tg} (h : l ≠ []) : addAll user [] l ≠ [] := by
  cases l with
  | nil => exact absurd rfl h
  | cons t l =>
    rw [addAll]
    refine addAll_ne user l _ ?_
    unfold addT
    simp
theorem addAll_len (user : List UInt8) : ∀ (l out : List Tg), (addAll user out l).length ≤ out.length + l.length
  | [], out => by simp [addAll]
  | t :: l, out => by
    rw [addAll]
    have := addAll_len user l (addT user out t)
    have h2 : (addT user out t).length ≤ out.length + 1 := by
      unfold addT
      split
      · omega
      · simp
    simp only [List.length_cons]
    omega
theorem log_app : ∀ (a b : List (List UInt8)) (k : Nat) (st : List Sd × Bool), logGo (a ++ b) k st = logGo b (k + a.length) (logGo a k st)
  | [], b, k, st => rfl
  | x :: a, b, k, st => by
    rw [List.cons_append, logGo, logGo, log_app a b (k + 1) _, List.length_cons]
    congr 1
    omega
/-- a line's text: clean, not empty, no remark. -/
def LineT (t : List UInt8) : Prop := t ≠ [] ∧ (∀ b ∈ t, cleanB b = true) ∧ t.head? ≠ some 35
theorem lineT_step {t : List UInt8} (h : LineT t) (st : List Sd × Bool) (k : Nat) : logStep st k t = (st.1 ++ [(k + 1, t, false)], true) := by
  obtain ⟨h0, hc, h35⟩ := h
  have hcr : cutCR t = t := cr_same (fun c hc' => (clean_no (hc c (List.mem_of_getLast? hc'))).2.2.2.1)
  have ht := trimW_clean hc
  unfold logStep
  rw [hcr, ht, if_neg (by
    rintro (h | h)
    · exact h0 h
    · exact h35 h), if_pos rfl]
def remark : List UInt8 := [35, 32, 114, 101, 109, 97, 114, 107]
theorem remark_step (st : List Sd × Bool) (k : Nat) : logStep st k remark = st := by
  unfold logStep
  rw [if_pos (.inr (by decide))]
theorem empty_step (st : List Sd × Bool) (k : Nat) : logStep st k [] = st := by
  unfold logStep
  rw [if_pos (.inl (by decide))]
def blocks (ts : List (List UInt8)) : List (List UInt8) := ts.flatMap fun t => [t, remark, []]
def rowsB (ts : List (List UInt8)) : List UInt8 := ts.flatMap fun t => t ++ (10 :: (remark ++ [10, 10]))
theorem pieces_rows (r : List UInt8) : ∀ (ts : List (List UInt8)), (∀ t ∈ ts, ∀ b ∈ t, cleanB b = true) → pieces 10 (rowsB ts ++ r) = blocks ts ++ pieces 10 r
  | [], _ => rfl
  | t :: ts, h => by
    have ih := pieces_rows r ts (fun x hx => h x (List.mem_cons_of_mem _ hx))
    have e : rowsB (t :: ts) ++ r = t ++ 10 :: (remark ++ 10 :: (10 :: (rowsB ts ++ r))) := by simp [rowsB]
    have e2 : blocks (t :: ts) ++ pieces 10 r = t :: remark :: [] :: (blocks ts ++ pieces 10 r) := by simp [blocks]
    rw [e, e2, pieces_cut 10 t _ (fun b hb => (clean_no (h t List.mem_cons_self b hb)).2.2.1), pieces_cut 10 remark _ (by decide), pieces_eq, ih]
theorem log_blocks : ∀ (ts : List (List UInt8)) (k : Nat) (L : List Sd) (b : Bool), (∀ t ∈ ts, LineT t) →
    ∃ L', (logGo (blocks ts) k (L, b)).1 = L ++ L' ∧ L'.map (fun x => x.2.1) = ts ∧ ∀ x ∈ L', x.2.2 = false
  | [], k, L, b, _ => ⟨[], by simp [blocks, logGo], rfl, fun x hx => by cases hx⟩
  | t :: ts, k, L, b, h => by
    have e : blocks (t :: ts) = t :: remark :: [] :: blocks ts := by simp [blocks]
    obtain ⟨L', h1, h2, h3⟩ := log_blocks ts (k + 1 + 1 + 1) (L ++ [(k + 1, t, false)]) true (fun x hx => h x (List.mem_cons_of_mem _ hx))
    refine ⟨(k + 1, t, false) :: L', ?_, by simp [h2], fun x hx => ?_⟩
    · rw [e, logGo, lineT_step (h t List.mem_cons_self), logGo, remark_step, logGo, empty_step, h1]
      simp
    · rcases List.mem_cons.1 hx with rfl | hx
      · rfl
      · exact h3 x hx
theorem clean_print {t : List UInt8} (h : ∀ b ∈ t, cleanB b = true) : printL t = true ∧ t.contains 34 = false := by
  refine ⟨?_, ?_⟩
  · unfold printL
    rw [List.all_eq_true]
    exact fun b hb => (clean_no (h b hb)).2.2.2.2.2
  · rw [List.contains_eq_mem]
    simp only [decide_eq_false_iff_not]
    exact fun hm => (clean_no (h 34 hm)).2.2.2.2.1 rfl
theorem ent_good : ∀ (L : List Sd) (st : Es), (∀ x ∈ L, x.2.2 = false ∧ ∀ b ∈ x.2.1, cleanB b = true) → ((st.1.map fun y => lowL y.2) ++ L.map fun x => lowL x.2.1).Nodup → st.1.length + L.length ≤ 64 →
    entGo L st = (st.1 ++ L.map (fun x => (x.1, x.2.1)), st.2)
  | [], st, _, _, _ => by simp [entGo]
  | x :: L, st, h, hn, hl => by
    obtain ⟨h1, h2⟩ := h x List.mem_cons_self
    obtain ⟨hp, hq⟩ := clean_print h2
    have hs : entStep st x = (st.1 ++ [(x.1, x.2.1)], st.2) := by
      unfold entStep
      rw [if_neg (by simp only [h1, hp, hq]; simp), if_neg (by simp only [List.length_cons] at hl; omega), if_neg]
      intro hany
      rw [List.any_eq_true] at hany
      obtain ⟨y, hy, he⟩ := hany
      have he : lowL y.2 = lowL x.2.1 := by simpa using he
      rw [List.map_cons] at hn
      exact (List.nodup_append.1 hn).2.2 _ (List.mem_map.2 ⟨y, hy, rfl⟩) _ List.mem_cons_self he
    rw [entGo, hs, ent_good L _ (fun y hy => h y (List.mem_cons_of_mem _ hy))]
    · simp
    · simpa [List.append_assoc] using hn
    · simp only [List.length_cons] at hl
      simp only [List.length_append, List.length_cons, List.length_nil]
      omega
theorem vals_one {t : List UInt8} (h : LineT t) : valsL t = some [t] := by
  have e1 := pieces_only 44 t (fun b hb => (clean_no (h.2.1 b hb)).2.1)
  unfold valsL
  rw [e1]
  simp only [List.map_cons, List.map_nil, trimW_clean h.2.1]
  rw [if_pos (by
    cases t with
    | nil => exact absurd rfl h.1
    | cons a x => rfl), if_neg (by simp)]
theorem said_one {t : Tg} (h : OkT t) : saidL (tellL t) = some [t] := by
  have hc := okT_clean h
  unfold saidL
  rw [vals_one ⟨hc.1, hc.2, h.2.1⟩]
  simp only [targsL, h.1]
theorem fwd_rows (user : List UInt8) (more : List (List UInt8)) : ∀ (own : List Tg) (many : Nat) (out : List Tg), (∀ t ∈ own, OkT t) → many + own.length ≤ 16 →
    fwdGo user (own.map tellL ++ more) many out = fwdGo user more (many + own.length) (addAll user out own)
  | [], many, out, _, _ => rfl
  | t :: own, many, out, h, hl => by
    rw [List.map_cons, List.cons_append, fwdGo, said_one (h t List.mem_cons_self)]
    simp only [List.length_cons, List.length_nil] at hl ⊢
    rw [if_neg (by omega), fwd_rows user more own (many + (0 + 1)) _ (fun x hx => h x (List.mem_cons_of_mem _ hx)) (by omega), addAll]
    simp only [addAll]
    congr 1
    omega
/-- what rows tell, with more rows ahead and behind. -/
theorem fwd_lines (user : List UInt8) (pre post : List (List UInt8)) (own : List Tg) (s : List UInt8) (h : ∀ t ∈ own, OkT t) (hp : ∀ t ∈ pre ++ post, LineT t)
    (hs : ∃ L, logicalL s = L ∧ L.map (fun x => x.2.1) = pre ++ (own.map tellL ++ post) ∧ ∀ x ∈ L, x.2.2 = false) (hn : ((pre ++ (own.map tellL ++ post)).map lowL).Nodup) (hl : pre.length + own.length + post.length ≤ 16) (hlen : s.length ≤ 8192) :
    fwdL user s = match fwdGo user (pre ++ (own.map tellL ++ post)) 0 [] with | none => [] | some out => out := by
  obtain ⟨L, h1, h2, h3⟩ := hs
  have hc : ∀ x ∈ L, x.2.2 = false ∧ ∀ b ∈ x.2.1, cleanB b = true := by
    intro x hx
    refine ⟨h3 x hx, ?_⟩
    have hm : x.2.1 ∈ pre ++ (own.map tellL ++ post) := by rw [← h2]; exact List.mem_map.2 ⟨x, hx, rfl⟩
    rcases List.mem_append.1 hm with hm | hm
    · exact (hp _ (List.mem_append_left _ hm)).2.1
    · rcases List.mem_append.1 hm with hm | hm
      · obtain ⟨t, ht, e⟩ := List.mem_map.1 hm
        rw [← e]
        exact (okT_clean (h t ht)).2
      · exact (hp _ (List.mem_append_right _ hm)).2.1
  have hlL : L.length = pre.length + (own.length + post.length) := by
    have := congrArg List.length h2
    simpa using this
  have hE : linesL s = (L.map (fun x => (x.1, x.2.1)), []) := by
    unfold linesL
    rw [if_neg (by omega), h1, ent_good L ([], []) hc (by
      simp only [List.map_nil, List.nil_append]
      have : (L.map fun x => lowL x.2.1) = (L.map fun x => x.2.1).map lowL := by rw [List.map_map]; rfl
      rw [this, h2]
      exact hn) (by simp only [List.length_nil]; omega)]
    simp
  unfold fwdL
  rw [hE]
  simp only [List.any_nil, Bool.false_eq_true, if_false, List.map_map]
  have : (L.map ((fun x => x.2) ∘ fun x => (x.1, x.2.1))) = L.map (fun x => x.2.1) := rfl
  rw [this, h2]
  generalize fwdGo user (pre ++ (own.map tellL ++ post)) 0 [] = z
  cases z <;> rfl
theorem log_rows (own : List Tg) (h : ∀ t ∈ own, OkT t) : ∃ L, logicalL (rowsB (own.map tellL)) = L ∧ L.map (fun x => x.2.1) = own.map tellL ∧ ∀ x ∈ L, x.2.2 = false := by
  have hl : ∀ t ∈ own.map tellL, LineT t := fun x hx => by
    obtain ⟨t, ht, rfl⟩ := List.mem_map.1 hx
    exact ⟨(okT_clean (h t ht)).1, (okT_clean (h t ht)).2, (h t ht).2.1⟩
  obtain ⟨L', h1, h2, h3⟩ := log_blocks (own.map tellL) 0 [] false hl
  refine ⟨_, rfl, ?_, ?_⟩
  · unfold logicalL
    have := pieces_rows [] (own.map tellL) (fun t ht => (hl t ht).2.1)
    rw [List.append_nil] at this
    rw [this, log_app]
    show ((logGo [[]] _ _).1).map _ = _
    rw [logGo, empty_step, logGo, h1]
    exact h2
  · unfold logicalL
    have := pieces_rows [] (own.map tellL) (fun t ht => (hl t ht).2.1)
    rw [List.append_nil] at this
    rw [this, log_app]
    show ∀ x ∈ (logGo [[]] _ _).1, _
    rw [logGo, empty_step, logGo, h1]
    exact h3
theorem rows_law (user : List UInt8) (own : List Tg) (h : ∀ t ∈ own, OkT t) (hn : ((own.map tellL).map lowL).Nodup) (hl : own.length ≤ 15) (hlen : (rowsB (own.map tellL)).length ≤ 8000) : fwdL user (rowsB (own.map tellL)) = addAll user [] own := by
  obtain ⟨L, h1, h2, h3⟩ := log_rows own h
  rw [fwd_lines user [] [] own _ h (fun t ht => by cases ht) ⟨L, h1, by simpa using h2, h3⟩ (by simpa using hn) (by simp; omega) (by omega)]
  rw [List.nil_append, fwd_rows user [] own 0 [] h (by omega)]
  rfl
/-! commas alone -/
def joinK : List (List UInt8) → List UInt8
  | [] => []
  | [x] => x
  | x :: y :: r => x ++ 44 :: joinK (y :: r)
theorem vals_k : ∀ (ts : List (List UInt8)), ts ≠ [] → (∀ t ∈ ts, ∀ b ∈ t, cleanB b = true) → pieces 44 (joinK ts) = ts
  | [], h, _ => absurd rfl h
  | [x], _, h => pieces_only 44 x (fun b hb => (clean_no (h x List.mem_cons_self b hb)).2.1)
  | x :: y :: r, _, h => by
    simp only [joinK]
    rw [pieces_cut 44 x _ (fun b hb => (clean_no (h x List.mem_cons_self b hb)).2.1), vals_k (y :: r) (by simp) (fun t ht => h t (List.mem_cons_of_mem _ ht))]
theorem map_trim : ∀ (ts : List (List UInt8)), (∀ t ∈ ts, ∀ b ∈ t, cleanB b = true) → ts.map trimW = ts
  | [], _ => rfl
  | x :: r, h => by
    rw [List.map_cons, trimW_clean (h x List.mem_cons_self), map_trim r (fun t ht => h t (List.mem_cons_of_mem _ ht))]
theorem joinK_bytes : ∀ (ts : List (List UInt8)), (∀ t ∈ ts, ∀ b ∈ t, cleanB b = true) → ∀ b ∈ joinK ts, cleanB b = true ∨ b = 44
  | [], _, b, hb => by cases hb
  | [x], h, b, hb => .inl (h x List.mem_cons_self b hb)
  | x :: y :: r, h, b, hb => by
    simp only [joinK] at hb
    rcases List.mem_append.1 hb with hb | hb
    · exact .inl (h x List.mem_cons_self b hb)
    · rcases List.mem_cons.1 hb with rfl | hb
      · exact .inr rfl
      · exact joinK_bytes (y :: r) (fun t ht => h t (List.mem_cons_of_mem _ ht)) b hb
theorem joinK_ends : ∀ (ts : List (List UInt8)), ts ≠ [] → (∀ t ∈ ts, LineT t) → ∃ x r y, joinK ts = x :: r ∧ (joinK ts).getLast? = some y ∧ cleanB x = true ∧ x ≠ 35 ∧ cleanB y = true
  | [], h, _ => absurd rfl h
  | [x], _, h => by
    obtain ⟨h0, hc, h35⟩ := h x List.mem_cons_self
    cases x with
    | nil => exact absurd rfl h0
    | cons a x =>
      have hl : (a :: x).getLast? = some ((a :: x).getLast (by simp)) := List.getLast?_eq_some_getLast (by simp)
      exact ⟨a, x, _, rfl, hl, hc a List.mem_cons_self, by simpa using h35, hc _ (List.getLast_mem _)⟩
  | x :: y :: r, _, h => by
    obtain ⟨h0, hc, h35⟩ := h x List.mem_cons_self
    obtain ⟨a, q, z, e1, e3, e4, e6, e5⟩ := joinK_ends (y :: r) (by simp) (fun t ht => h t (List.mem_cons_of_mem _ ht))
    cases x with
    | nil => exact absurd rfl h0
    | cons b x =>
      refine ⟨b, x ++ 44 :: joinK (y :: r), z, rfl, ?_, hc b List.mem_cons_self, by simpa using h35, e5⟩
      simp only [joinK]
      rw [List.getLast?_append, List.getLast?_cons, e3]
      rfl
theorem lines_k {ts : List (List UInt8)} (h0 : ts ≠ []) (h : ∀ t ∈ ts, LineT t) (hl : (joinK ts).length ≤ 8192) : linesL (joinK ts) = ([(1, joinK ts)], []) := by
  obtain ⟨x, r, y, e1, e3, e4, e6, e5⟩ := joinK_ends ts h0 h
  have hb := joinK_bytes ts (fun t ht => (h t ht).2.1)
  have hp : pieces 10 (joinK ts) = [joinK ts] := pieces_only 10 _ (fun b hb' => by
    rcases hb b hb' with hc | rfl
    · exact (clean_no hc).2.2.1
    · decide)
  have hh : (joinK ts).head? = some x := by rw [e1]; rfl
  have ht : trimW (joinK ts) = joinK ts := trimW_same (fun c hc => by rw [hh] at hc; injection hc with hc; rw [← hc]; exact (clean_no e4).1) (fun c hc => by rw [e3] at hc; injection hc with hc; rw [← hc]; exact (clean_no e5).1)
  have hcr : cutCR (joinK ts) = joinK ts := cr_same (fun c hc => by rw [e3] at hc; injection hc with hc; rw [← hc]; exact (clean_no e5).2.2.2.1)
  have hne : joinK ts ≠ [] := by rw [e1]; simp
  have hlog : logicalL (joinK ts) = [(1, joinK ts, false)] := by
    unfold logicalL
    rw [hp]
    simp only [logGo]
    unfold logStep
    rw [hcr, ht, if_neg (by
      rintro (h | h)
      · exact hne h
      · rw [hh] at h
        injection h with h
        exact e6 h), if_pos rfl]
    rfl
  have hpr : printL (joinK ts) = true := by
    unfold printL
    rw [List.all_eq_true]
    intro b hb'
    rcases hb b hb' with hc | rfl
    · exact (clean_no hc).2.2.2.2.2
    · decide
  have hq : (joinK ts).contains 34 = false := by
    rw [List.contains_eq_mem]
    simp only [decide_eq_false_iff_not]
    intro hm
    rcases hb 34 hm with hc | hc
    · exact (clean_no hc).2.2.2.2.1 rfl
    · cases hc
  unfold linesL
  rw [if_neg (by omega), hlog]
  simp only [entGo]
  unfold entStep
  rw [if_neg (by simp only [hpr, hq]; simp), if_neg (by simp), if_neg (by simp)]
  rfl
theorem comma_law (user : List UInt8) {own : List Tg} (h0 : own ≠ []) (h : ∀ t ∈ own, OkT t) (hl : own.length ≤ 16) (hlen : (joinK (own.map tellL)).length ≤ 8192) : fwdL user (joinK (own.map tellL)) = addAll user [] own := by
  have hne : own.map tellL ≠ [] := by simpa using h0
  have hL : ∀ t ∈ own.map tellL, LineT t := fun x hx => by
    obtain ⟨t, ht, rfl⟩ := List.mem_map.1 hx
    exact ⟨(okT_clean (h t ht)).1, (okT_clean (h t ht)).2, (h t ht).2.1⟩
  have v1 := vals_k (own.map tellL) hne (fun t ht => (hL t ht).2.1)
  have v2 := map_trim (own.map tellL) (fun t ht => (hL t ht).2.1)
  have hv : valsL (joinK (own.map tellL)) = some (own.map tellL) := by
    unfold valsL
    rw [v1, v2, if_pos (by
      rw [List.all_eq_true]
      intro x hx
      have := (hL x hx).1
      cases x with
      | nil => exact absurd rfl this
      | cons a x => rfl), if_neg (by rw [List.length_map]; omega)]
  have hs : saidL (joinK (own.map tellL)) = some own := by
    unfold saidL
    rw [hv]
    exact targs_map own (fun t ht => (h t ht).1)
  unfold fwdL
  rw [lines_k hne hL hlen]
  simp only [List.any_nil, Bool.false_eq_true, if_false, List.map_cons, List.map_nil, fwdGo, hs]
  rw [if_neg (by omega)]
/-! a line that is none, behind or ahead: nothing counts -/
def badL : List UInt8 := [97, 46, 46, 98]
def dropL' : List UInt8 := [58, 100, 114, 111, 112, 58]
theorem low_tell_ne {t : Tg} (h : OkT t) (hlow : lowL (tellL t) = tellL t) {x : List UInt8} (hx : targL x = none) (hxl : lowL x = x) : lowL (tellL t) ≠ lowL x := by
  intro e
  rw [hlow, hxl] at e
  have := h.1
  rw [e, hx] at this
  cases this
theorem bad_law (user : List UInt8) (own : List Tg) (h : ∀ t ∈ own, OkT t) (hlow : ∀ t ∈ own, lowL (tellL t) = tellL t) (hn : ((own.map tellL).map lowL).Nodup) (hl : own.length ≤ 15) (hlen : (rowsB (own.map tellL)).length ≤ 8000) :
    fwdL user (rowsB (own.map tellL) ++ (badL ++ [10])) = [] := by
  have hL : ∀ t ∈ own.map tellL, LineT t := fun x hx => by
    obtain ⟨t, ht, rfl⟩ := List.mem_map.1 hx
    exact ⟨(okT_clean (h t ht)).1, (okT_clean (h t ht)).2, (h t ht).2.1⟩
  have hbad : LineT badL := ⟨by decide, by decide, by decide⟩
  have hs : ∃ L, logicalL (rowsB (own.map tellL) ++ (badL ++ [10])) = L ∧ L.map (fun x => x.2.1) = [] ++ (own.map tellL ++ [badL]) ∧ ∀ x ∈ L, x.2.2 = false := by
    obtain ⟨L', h1, h2, h3⟩ := log_blocks (own.map tellL) 0 [] false hL
    refine ⟨L' ++ [(0 + (blocks (own.map tellL)).length + 1, badL, false)], ?_, by simp [h2], fun x hx => ?_⟩
    · unfold logicalL
      rw [pieces_rows _ _ (fun t ht => (hL t ht).2.1), log_app]
      have e : pieces 10 (badL ++ [10]) = [badL, []] := by decide
      rw [e, logGo, lineT_step hbad, logGo, empty_step, logGo, h1]
      rfl
    · rcases List.mem_append.1 hx with hx | hx
      · exact h3 x hx
      · obtain rfl := List.mem_singleton.1 hx
        rfl
  rw [fwd_lines user [] [badL] own _ h (fun t ht => by
    simp only [List.nil_append, List.mem_singleton] at ht
    rw [ht]
    exact hbad) hs (by
    simp only [List.nil_append, List.map_append, List.map_cons, List.map_nil]
    rw [List.nodup_append]
    refine ⟨hn, by simp, fun x hx y hy => ?_⟩
    obtain rfl := List.mem_singleton.1 hy
    obtain ⟨z, hz, rfl⟩ := List.mem_map.1 hx
    obtain ⟨t, ht, rfl⟩ := List.mem_map.1 hz
    exact low_tell_ne (h t ht) (hlow t ht) (by decide +kernel) (by decide)) (by simp; omega) (by
    simp only [List.length_append]
    have : badL.length = 4 := rfl
    simp only [List.length_cons, List.length_nil]
    omega)]
  rw [List.nil_append, fwd_rows user [badL] own 0 [] h (by omega)]
  have hb : saidL badL = none := by decide +kernel
  simp only [fwdGo, hb]
theorem drop_law (user : List UInt8) (own : List Tg) (h : ∀ t ∈ own, OkT t) (hlow : ∀ t ∈ own, lowL (tellL t) = tellL t) (hn : ((own.map tellL).map lowL).Nodup) (hl : own.length ≤ 15) (hlen : (rowsB (own.map tellL)).length ≤ 8000) :
    fwdL user (dropL' ++ 10 :: rowsB (own.map tellL)) = [] := by
  have hL : ∀ t ∈ own.map tellL, LineT t := fun x hx => by
    obtain ⟨t, ht, rfl⟩ := List.mem_map.1 hx
    exact ⟨(okT_clean (h t ht)).1, (okT_clean (h t ht)).2, (h t ht).2.1⟩
  have hd : LineT dropL' := ⟨by decide, by decide, by decide⟩
  have hs : ∃ L, logicalL (dropL' ++ 10 :: rowsB (own.map tellL)) = L ∧ L.map (fun x => x.2.1) = [dropL'] ++ (own.map tellL ++ []) ∧ ∀ x ∈ L, x.2.2 = false := by
    obtain ⟨L', h1, h2, h3⟩ := log_blocks (own.map tellL) (0 + 1) [(0 + 1, dropL', false)] true hL
    refine ⟨[(0 + 1, dropL', false)] ++ L', ?_, by simp [h2], fun x hx => ?_⟩
    · unfold logicalL
      have e := pieces_rows [] (own.map tellL) (fun t ht => (hL t ht).2.1)
      rw [List.append_nil] at e
      rw [pieces_cut 10 dropL' _ (by decide), logGo, lineT_step hd, e, log_app]
      show (logGo [[]] _ _).1 = _
      rw [logGo, empty_step, logGo]
      exact h1
    · rcases List.mem_append.1 hx with hx | hx
      · obtain rfl := List.mem_singleton.1 hx
        rfl
      · exact h3 x hx
  rw [fwd_lines user [dropL'] [] own _ h (fun t ht => by
    simp only [List.append_nil, List.mem_singleton] at ht
    rw [ht]
    exact hd) hs (by
    simp only [List.append_nil, List.map_append, List.map_cons, List.map_nil, List.singleton_append, List.nodup_cons]
    refine ⟨fun hm => ?_, hn⟩
    obtain ⟨z, hz, e⟩ := List.mem_map.1 hm
    obtain ⟨t, ht, rfl⟩ := List.mem_map.1 hz
    exact low_tell_ne (h t ht) (hlow t ht) (x := dropL') (by decide +kernel) (by decide) e) (by simp; omega) (by
    simp only [List.length_append, List.length_cons]
    have : dropL'.length = 6 := rfl
    omega)]
  have hb : saidL dropL' = none := by decide +kernel
  simp only [List.singleton_append, fwdGo, hb]
end Go.Proofs.YtkoncmmbdlnmfaaGreatDoor

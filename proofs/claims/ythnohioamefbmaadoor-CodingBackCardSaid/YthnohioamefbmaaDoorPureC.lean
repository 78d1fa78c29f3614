/- Plain law: the package's teller and reader answer as the references do, for bytes below 256; no program in sight. -/
import Derived.Test.YthnohioamefbmaaDoorPureB
import Derived.Lib.TrimAscii
import Derived.Lib.MapLaws
namespace Go.Proofs.YthnohioamefbmaaDoor
open Go.RowKit Go.Lib
set_option linter.unusedSimpArgs false
set_option linter.unusedVariables false

theorem decodeN_high (n b0 b1 b2 b3 : Nat) (h0 : 128 ≤ b0) (h1 : b0 < 256) (g1 : b1 < 256) (g2 : b2 < 256) (g3 : b3 < 256) : 128 ≤ (decodeN n b0 b1 b2 b3).1 := by
  unfold decodeN
  repeat' split
  all_goals (simp only; try omega)
  all_goals simp_all
  all_goals omega
theorem decodeL_high (b : UInt8) (l : List UInt8) (h : 128 ≤ b.toNat) : 128 ≤ (decodeL (b :: l)).1 := by
  unfold decodeL
  rw [decode_at]
  refine decodeN_high _ _ _ _ _ ?_ (UInt8.toNat_lt _) (UInt8.toNat_lt _) (UInt8.toNat_lt _) (UInt8.toNat_lt _)
  have e : (⟨(b :: l).toArray⟩ : ByteArray).get! 0 = b := rfl
  rw [e]; exact h
theorem encode_high (r : Int) (h : 128 ≤ r) : ∃ c ∈ encodeRune r, 128 ≤ c.toNat := by
  unfold encodeRune
  have hz : ∀ x : Int, 128 ≤ x → x < 256 → 128 ≤ (x.toNat.toUInt8).toNat := by
    intro x h1 h2
    simp; omega
  unfold encodeRuneZ
  rw [if_neg (by omega)]
  split
  · exact ⟨_, List.mem_map.2 ⟨_, List.mem_cons_self, rfl⟩, hz _ (by omega) (by omega)⟩
  · split
    · exact ⟨_, List.mem_map.2 ⟨_, List.mem_cons_self, rfl⟩, hz _ (by omega) (by omega)⟩
    · split
      · exact ⟨_, List.mem_map.2 ⟨_, List.mem_cons_self, rfl⟩, hz _ (by omega) (by omega)⟩
      · exact ⟨_, List.mem_map.2 ⟨_, List.mem_cons_self, rfl⟩, hz _ (by omega) (by omega)⟩
theorem encode_len (r : Int) : (encodeRune r).length ≤ 4 := by
  unfold encodeRune encodeRuneZ
  repeat' split
  all_goals simp
theorem mapD_len (f : Int → Int) : ∀ (n : Nat) (l : List UInt8), l.length ≤ n → (mapD f l).length ≤ 4 * l.length
  | 0, l, h => by
    have : l = [] := List.eq_nil_of_length_eq_zero (by omega)
    subst this; rw [mapD_nil]; simp
  | n + 1, l, h => by
    by_cases hne : l = []
    · subst hne; rw [mapD_nil]; simp
    · have hw := decodeL_width l
      have hl : 0 < l.length := List.length_pos_iff.2 hne
      rw [mapD_step f l hne, List.length_append]
      have h1 := mapD_len f n (l.drop (decodeL l).2) (by rw [List.length_drop]; omega)
      rw [List.length_drop] at h1
      have h2 : (if 0 ≤ f (decodeL l).1 then encodeRune (f (decodeL l).1) else []).length ≤ 4 := by
        split
        · exact encode_len _
        · simp
      omega
/-- a case map of ASCII letters. -/
structure CaseMap (F : Int → Int) (g : UInt8 → UInt8) : Prop where
  low : ∀ b : UInt8, b.toNat < 128 → F (b.toNat : Int) = ((g b).toNat : Int) ∧ (g b).toNat < 128
  high : ∀ r : Int, 128 ≤ r → F r = r
theorem mapD_ascii {F : Int → Int} {g : UInt8 → UInt8} (h : CaseMap F g) : ∀ l : List UInt8, (∀ b ∈ l, b.toNat < 128) → mapD F l = l.map g
  | [], _ => mapD_nil F
  | b :: l, hl => by
    have hb := hl b (by simp)
    have := h.low b hb
    rw [mapD_step F _ (by simp), decodeL_ascii b l hb]
    simp only [this.1, List.drop_one, List.tail_cons, List.map_cons]
    rw [if_pos (by omega), mapD_ascii h l (fun x hx => hl x (List.mem_cons_of_mem _ hx))]
    have e : encodeRune ((g b).toNat : Int) = [g b] := by
      unfold encodeRune
      rw [encodeRuneZ_one (by omega) (by omega)]
      simp
    rw [e]; rfl
theorem mapD_high {F : Int → Int} {g : UInt8 → UInt8} (h : CaseMap F g) : ∀ (n : Nat) (l : List UInt8), l.length ≤ n → (∃ b ∈ l, 128 ≤ b.toNat) → ∃ c ∈ mapD F l, 128 ≤ c.toNat
  | _, [], _, hl => by obtain ⟨b, hb, _⟩ := hl; simp at hb
  | 0, _ :: _, hn, _ => by simp at hn
  | n + 1, b :: l, hn, hl => by
    rw [mapD_step F _ (by simp)]
    by_cases hb : b.toNat < 128
    · rw [decodeL_ascii b l hb]
      obtain ⟨x, hx, hx2⟩ := hl
      have hxl : x ∈ l := by
        rcases List.mem_cons.1 hx with rfl | hx
        · omega
        · exact hx
      obtain ⟨c, hc, hc2⟩ := mapD_high h n l (by simpa using hn) ⟨x, hxl, hx2⟩
      exact ⟨c, List.mem_append.2 (.inr (by simpa using hc)), hc2⟩
    · have hd := decodeL_high b l (by omega)
      rw [h.high _ (by exact_mod_cast hd), if_pos (by omega)]
      obtain ⟨c, hc, hc2⟩ := encode_high ((decodeL (b :: l)).1 : Int) (by exact_mod_cast hd)
      exact ⟨c, List.mem_append.2 (.inl hc), hc2⟩
theorem great_case : CaseMap greatF (caseF 5) := ⟨fun b hb => by
    unfold greatF caseF
    by_cases h : 97 ≤ b.toNat ∧ b.toNat ≤ 122
    · rw [if_pos (by omega), if_pos ⟨rfl, h⟩]
      have : (32 : UInt8) ≤ b := by rw [UInt8.le_iff_toNat_le]; show 32 ≤ b.toNat; omega
      rw [UInt8.toNat_sub_of_le _ _ this]; show _ = ((b.toNat - 32 : Nat) : Int) ∧ b.toNat - 32 < 128; omega
    · rw [if_neg (by omega), if_neg (by omega), if_neg (by omega)]; exact ⟨rfl, hb⟩, fun r hr => by unfold greatF; rw [if_neg (by omega)]⟩
theorem small_case : CaseMap smallF (caseF 4) := ⟨fun b hb => by
    unfold smallF caseF
    by_cases h : 65 ≤ b.toNat ∧ b.toNat ≤ 90
    · rw [if_pos (by omega), if_neg (by omega), if_pos ⟨rfl, h⟩]
      rw [UInt8.toNat_add]; show _ = (((b.toNat + 32) % 256 : Nat) : Int) ∧ (b.toNat + 32) % 256 < 128; omega
    · rw [if_neg (by omega), if_neg (by omega), if_neg (by omega)]; exact ⟨rfl, hb⟩, fun r hr => by unfold smallF; rw [if_neg (by omega)]⟩
/-- letters are ASCII, each once. -/
theorem letters_ascii (t : Nat) (ht : IsKind t) : ∀ c ∈ (lettersOf t).data.toList, c.toNat < 128 := by
  rcases ht with rfl | rfl | rfl <;> decide
theorem letters_nodup (t : Nat) (ht : IsKind t) : (lettersOf t).data.toList.Nodup := by
  rcases ht with rfl | rfl | rfl <;> decide
theorem letters_noeq (t : Nat) (ht : IsKind t) : (61 : UInt8) ∉ (lettersOf t).data.toList := by
  rcases ht with rfl | rfl | rfl <;> decide
theorem idx_high (t : Nat) (ht : IsKind t) (c : UInt8) (h : 128 ≤ c.toNat) : idxL (lettersOf t) c < 0 := by
  unfold idxL
  have h0 := indexByte_ge (lettersOf t).data.toList c
  rcases Int.lt_or_le (indexByte (lettersOf t).data.toList c) 0 with hl | hl
  · exact hl
  · obtain ⟨o, ho⟩ := Int.eq_ofNat_of_zero_le hl
    have := (indexByte_some ho).1
    have := letters_ascii t ht c (List.mem_of_getElem? this)
    omega
theorem lt_idx (t : Nat) (c : UInt8) (h : 0 ≤ idxL (lettersOf t) c) : lt (lettersOf t) (idxL (lettersOf t) c).toNat = c := by
  unfold idxL at h ⊢
  obtain ⟨o, ho⟩ := Int.eq_ofNat_of_zero_le h
  have := (indexByte_some ho).1
  rw [ho]
  unfold lt
  simp [List.getD_eq_getElem?_getD, this]
theorem lt_inj (t : Nat) (ht : IsKind t) (a b : Nat) (ha : a < 2 ^ t) (hb : b < 2 ^ t) (h : lt (lettersOf t) a = lt (lettersOf t) b) : a = b := by
  have hs : (lettersOf t).data.toList.length = 2 ^ t := by rw [← letters_size t ht]; simp
  have hn := letters_nodup t ht
  unfold lt at h
  rw [List.getD_eq_getElem?_getD, List.getD_eq_getElem?_getD, List.getElem?_eq_getElem (by omega), List.getElem?_eq_getElem (by omega)] at h
  have hp := List.pairwise_iff_getElem.1 hn
  rcases Nat.lt_trichotomy a b with h1 | h1 | h1
  · exact absurd h (hp a b (by omega) (by omega) h1)
  · exact h1
  · exact absurd h.symm (hp b a (by omega) (by omega) h1)
theorem lt_ne (t : Nat) (ht : IsKind t) (a : Nat) (ha : a < 2 ^ t) : lt (lettersOf t) a ≠ 61 := by
  have hs : (lettersOf t).data.toList.length = 2 ^ t := by rw [← letters_size t ht]; simp
  unfold lt
  rw [List.getD_eq_getElem?_getD, List.getElem?_eq_getElem (by omega)]
  intro h
  exact letters_noeq t ht (h ▸ List.getElem_mem _)
theorem map_lt_inj (t : Nat) (ht : IsKind t) : ∀ (A B : List Nat), (∀ x ∈ A, x < 2 ^ t) → (∀ x ∈ B, x < 2 ^ t) → A.map (lt (lettersOf t)) = B.map (lt (lettersOf t)) → A = B
  | [], [], _, _, _ => rfl
  | [], _ :: _, _, _, h => by simp at h
  | _ :: _, [], _, _, h => by simp at h
  | a :: A, b :: B, ha, hb, h => by
    simp only [List.map_cons, List.cons.injEq] at h
    rw [lt_inj t ht a b (ha a (by simp)) (hb b (by simp)) h.1, map_lt_inj t ht A B (fun x hx => ha x (List.mem_cons_of_mem _ hx)) (fun x hx => hb x (List.mem_cons_of_mem _ hx)) h.2]
/-- bytes of letters, told again, are the letters just if nothing is left over. -/
theorem again (t : Nat) (ht : IsKind t) (L : List Nat) (hL : ∀ x ∈ L, x < 2 ^ t) :
    tellG t (regroup t 8 L 0 0).1 = L ↔ ((regroup t 8 L 0 0).2.2 < t ∧ (regroup t 8 L 0 0).2.1 = 0) := by
  have h4 : 4 ≤ t ∧ t ≤ 8 := by rcases ht with rfl | rfl | rfl <;> omega
  obtain ⟨E, R, h1, h2, h3, h4'⟩ := regroup_flat t 8 (by omega) h4.2 (by omega) L hL
  rw [h1]
  simp only
  obtain ⟨z, hz, hf, hx⟩ := tellG_flat t h4.1 h4.2 E h4'
  unfold padded at hf
  have e8 : flat 8 E ++ R = flat t L := h2.symm
  constructor
  · intro hg
    rw [hg] at hf
    rw [hf] at e8
    have hR := List.append_cancel_left e8
    rw [hR]
    exact ⟨by simpa using hz, val_zero z⟩
  · intro ⟨hm, hv⟩
    have hR : R = List.replicate R.length false := val_inj _ _ (by simp) (by rw [hv, val_zero])
    have hlen1 := congrArg List.length hf
    have hlen2 := congrArg List.length e8
    rw [List.length_append, flat_len, flat_len] at hlen2
    rw [List.length_append, flat_len, flat_len, List.length_replicate] at hlen1
    have hq1 := ceil_eq t E.length (tellG t E).length (by omega) (by rw [Nat.mul_comm _ t]; omega) (by rw [Nat.mul_comm _ t]; omega)
    have hq2 := ceil_eq t E.length L.length (by omega) (by rw [Nat.mul_comm _ t]; omega) (by rw [Nat.mul_comm _ t]; omega)
    have hll : (tellG t E).length = L.length := by omega
    rw [hll] at hlen1
    have hzr : z = R.length := by omega
    rw [hzr, ← hR, e8] at hf
    exact (flat_inj t (tellG t E) L [] [] hx hL hll (by simpa using hf)).1

/-- the letters in their one case, of a kind that says so. -/
def mapOf (t : Nat) (s : List UInt8) : List UInt8 := if t = 5 then mapD greatF s else if t = 4 then mapD smallF s else s
theorem places_lt (t : Nat) (ht : IsKind t) (bare : List UInt8) : ∀ x ∈ placesN t bare, x < 2 ^ t := by
  intro x hx
  obtain ⟨c, _, rfl⟩ := List.mem_map.1 hx
  have := placeN_lt t ht c
  have : 0 < 2 ^ t := Nat.two_pow_pos t
  have e : ((2 : Int) ^ t) = ((2 ^ t : Nat) : Int) := by simp
  omega
theorem padL_one (o : List UInt8) : padL 1 o = o := by unfold padL; rw [Nat.mod_one]; exact List.append_nil _
theorem caseF_high (t : Nat) (b : UInt8) (h : 128 ≤ b.toNat) : caseF t b = b := by
  unfold caseF; rw [if_neg (by omega), if_neg (by omega)]
/-- of a kind that fills up nothing. -/
theorem read_one (t : Nat) (ht : IsKind t) (h6 : t ≠ 6) (F : Int → Int) (hF : CaseMap F (caseF t)) (s : List UInt8) :
    readL (lettersOf t) t 1 (mapD F s) = refRead s t := by
  have hrr : refRead s t = refReadE s t s.length := by
    unfold refRead endOf; rw [if_neg (by omega), if_neg h6]
  rw [hrr]
  unfold readL refReadE
  rw [if_neg (by omega), List.take_length]
  by_cases hasc : ∀ b ∈ s, b.toNat < 128
  · rw [mapD_ascii hF s hasc]
    unfold readB
    have hall : ((s.map (caseF t)).all fun c => decide (0 ≤ idxL (lettersOf t) c)) = (s.all fun c => decide (0 ≤ placeN t c)) := by
      rw [List.all_map]; rfl
    rw [hall]
    by_cases hv : (s.all fun c => decide (0 ≤ placeN t c)) = true
    · rw [if_pos hv, if_pos hv]
      have hl : ((s.map (caseF t)).map fun c => (idxL (lettersOf t) c).toNat) = placesN t s := by rw [List.map_map]; rfl
      simp only [hl]
      have hv' : ∀ c ∈ s, 0 ≤ placeN t c := by simpa using hv
      have hs : s.map (caseF t) = (placesN t s).map (lt (lettersOf t)) := by
        unfold placesN
        rw [List.map_map]
        refine List.map_congr_left fun c hc => ?_
        exact (lt_idx t (caseF t c) (hv' c hc)).symm
      have hag := again t ht (placesN t s) (places_lt t ht s)
      obtain ⟨E, R, h1, h2, h3, h4'⟩ := regroup_flat t 8 (by rcases ht with rfl | rfl | rfl <;> omega) (by rcases ht with rfl | rfl | rfl <;> omega) (by omega) (placesN t s) (places_lt t ht s)
      have hx : ∀ x ∈ tellG t (regroup t 8 (placesN t s) 0 0).1, x < 2 ^ t := by
        rw [h1]
        obtain ⟨z, _, _, hx⟩ := tellG_flat t (by rcases ht with rfl | rfl | rfl <;> omega) (by rcases ht with rfl | rfl | rfl <;> omega) E h4'
        exact hx
      have hiff : tellL (lettersOf t) t 1 (regroup t 8 (placesN t s) 0 0).1 = s.map (caseF t) ↔ ((regroup t 8 (placesN t s) 0 0).2.2 < t ∧ (regroup t 8 (placesN t s) 0 0).2.1 = 0) := by
        rw [← hag, tellL_G, padL_one, hs]
        exact ⟨fun h => map_lt_inj t ht _ _ hx (places_lt t ht s) h, fun h => by rw [h]⟩
      unfold refFin
      by_cases hc : tellL (lettersOf t) t 1 (regroup t 8 (placesN t s) 0 0).1 = s.map (caseF t)
      · rw [if_pos hc, if_neg (by have := hiff.1 hc; omega)]
      · rw [if_neg hc, if_pos (by
          rcases Nat.lt_or_ge (regroup t 8 (placesN t s) 0 0).2.2 t with h | h
          · right; intro h0; exact hc (hiff.2 ⟨h, h0⟩)
          · left; exact h)]
    · rw [if_neg hv, if_neg hv]
  · have hex : ∃ b ∈ s, 128 ≤ b.toNat := by
      apply Classical.byContradiction
      intro h
      refine hasc fun b hb => ?_
      rcases Nat.lt_or_ge b.toNat 128 with h1 | h1
      · exact h1
      · exact absurd ⟨b, hb, h1⟩ h
    have hl : ((mapD F s).all fun c => decide (0 ≤ idxL (lettersOf t) c)) ≠ true := by
      intro h
      obtain ⟨c, hc, hc2⟩ := mapD_high hF _ s (Nat.le_refl _) hex
      have := List.all_eq_true.1 h c hc
      have h2 := idx_high t ht c hc2
      simp at this; omega
    have hr : (s.all fun c => decide (0 ≤ placeN t c)) ≠ true := by
      intro h
      obtain ⟨c, hc, hc2⟩ := hex
      have := List.all_eq_true.1 h c hc
      have h2 := idx_high t ht (caseF t c) (by rw [caseF_high t c hc2]; exact hc2)
      unfold placeN at this
      simp at this; omega
    unfold readB
    rw [if_neg hl, if_neg hr]
end Go.Proofs.YthnohioamefbmaaDoor

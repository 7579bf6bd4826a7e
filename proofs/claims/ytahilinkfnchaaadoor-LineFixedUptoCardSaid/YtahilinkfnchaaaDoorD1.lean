/- Desk, plain: words of a line, numbers, digits. No program. -/
import Derived.Test.YtahilinkfnchaaaDoorTU
import Derived.Lib.SplitLaws
import Derived.Lib.IndexBytes
import Derived.Lib.AtoiAllCases
import Derived.Lib.ItoaMem
set_option linter.unusedVariables false
set_option linter.unusedSimpArgs false
namespace Go.Proofs.YtahilinkfnchaaaDoor.T
open Go Go.RowKit
set_option maxRecDepth 10000

def B (l : List UInt8) : ByteArray := ⟨l.toArray⟩
theorem B_data (l : List UInt8) : (B l).data.toList = l := by simp [B]
theorem B_of (s : ByteArray) : B s.data.toList = s := by cases s; simp [B]
theorem B_size (l : List UInt8) : (B l).size = l.length := by simp [B, ByteArray.size]
theorem B_inj {a b : List UInt8} (h : B a = B b) : a = b := by rw [← B_data a, h, B_data]
theorem dt_inj {a b : ByteArray} (h : a.data.toList = b.data.toList) : a = b := by rw [← B_of a, h, B_of]

/-! ### words -/
def cutW : List UInt8 → List (List UInt8)
  | [] => [[]]
  | b :: l => if b = 32 then [] :: cutW l else (match cutW l with | [] => [[b]] | w :: ws => (b :: w) :: ws)
def joinW (ws : List (List UInt8)) : List UInt8 := [32].intercalate ws
theorem joinW_one (w : List UInt8) : joinW [w] = w := by simp [joinW]
theorem joinW_cons (w v : List UInt8) (ws : List (List UInt8)) : joinW (w :: v :: ws) = w ++ 32 :: joinW (v :: ws) := by simp [joinW, List.intercalate]
theorem cutW_ne : ∀ l, cutW l ≠ []
  | [] => by simp [cutW]
  | b :: l => by
    unfold cutW
    split
    · simp
    · cases cutW l <;> simp
theorem cutW_app (w : List UInt8) (hw : (32 : UInt8) ∉ w) (l : List UInt8) : cutW (w ++ 32 :: l) = w :: cutW l := by
  induction w with
  | nil => simp [cutW]
  | cons b w ih =>
    have h1 : b ≠ 32 := fun e => hw (by simp [e])
    have h2 : (32 : UInt8) ∉ w := fun e => hw (by simp [e])
    rw [List.cons_append, cutW, if_neg h1, ih h2]
theorem cutW_word (w : List UInt8) (hw : (32 : UInt8) ∉ w) : cutW w = [w] := by
  induction w with
  | nil => rfl
  | cons b w ih =>
    have h1 : b ≠ 32 := fun e => hw (by simp [e])
    have h2 : (32 : UInt8) ∉ w := fun e => hw (by simp [e])
    rw [cutW, if_neg h1, ih h2]
theorem cutW_join : ∀ (ws : List (List UInt8)), ws ≠ [] → (∀ w ∈ ws, (32 : UInt8) ∉ w) → cutW (joinW ws) = ws
  | [], h, _ => absurd rfl h
  | [w], _, h => by rw [joinW_one, cutW_word w (h w (by simp))]
  | w :: v :: ws, _, h => by
    rw [joinW_cons, cutW_app w (h w (by simp)), cutW_join (v :: ws) (by simp) (fun x hx => h x (List.mem_cons_of_mem _ hx))]
theorem join_cutW : ∀ l, joinW (cutW l) = l
  | [] => by simp [cutW, joinW]
  | b :: l => by
    have ih := join_cutW l
    unfold cutW
    split
    · rename_i e; subst e
      cases hc : cutW l with
      | nil => exact absurd hc (cutW_ne l)
      | cons w ws => rw [joinW_cons, List.nil_append, ← hc, ih]
    · cases hc : cutW l with
      | nil => exact absurd hc (cutW_ne l)
      | cons w ws =>
        rw [hc] at ih
        cases ws with
        | nil => rw [joinW_one] at ih ⊢; rw [ih]
        | cons v vs => simp only [joinW_cons] at ih ⊢; rw [← ih]; rfl
theorem cutW_nb : ∀ l, ∀ w ∈ cutW l, (32 : UInt8) ∉ w
  | [], w, h => by simp [cutW] at h; simp [h]
  | b :: l, w, h => by
    have ih := cutW_nb l
    unfold cutW at h
    split at h
    · rcases List.mem_cons.1 h with rfl | h
      · simp
      · exact ih w h
    · rename_i e
      cases hc : cutW l with
      | nil => exact absurd hc (cutW_ne l)
      | cons v vs =>
        rw [hc] at h ih
        rcases List.mem_cons.1 h with rfl | h
        · intro q
          rcases List.mem_cons.1 q with q | q
          · exact e q.symm
          · exact ih v (by simp) q
        · exact ih w (by simp [h])
theorem cutW_snoc (ws : List (List UInt8)) (h : ws ≠ []) (v : List UInt8) : joinW ws ++ 32 :: v = joinW (ws ++ [v]) := by
  induction ws with
  | nil => exact absurd rfl h
  | cons w ws ih =>
    cases ws with
    | nil => simp [joinW_one, joinW_cons]
    | cons x xs => rw [joinW_cons, List.cons_append, List.cons_append, joinW_cons, List.append_assoc, List.cons_append, ih (by simp)]; rfl
theorem splitK_words : ∀ l : List UInt8, Lib.splitK [32] 0 (l.count 32) l = cutW l
  | [] => rfl
  | b :: l => by
    have ih := splitK_words l
    by_cases e : b = 32
    · subst e
      rw [List.count_cons_self]
      unfold Lib.splitK
      have hi : Lib.index (32 :: l) [32] = 0 := by rw [Lib.index_one]; simp [Lib.indexByte]
      rw [hi, if_neg (by decide)]
      simp only [Int.toNat_zero, Nat.add_zero, List.take_zero, List.length_cons, List.length_nil, Nat.zero_add, List.drop_succ_cons, List.drop_zero]
      rw [ih]; simp [cutW]
    · rw [List.count_cons_of_ne (fun q => e (by simpa using q))]
      have hi : Lib.index (b :: l) [32] = if Lib.index l [32] == -1 then -1 else Lib.index l [32] + 1 := by
        rw [Lib.index_one, Lib.index_one]; simp only [Lib.indexByte]; rw [if_neg (by simpa using e)]
      cases hk : l.count 32 with
      | zero =>
        have : (32 : UInt8) ∉ l := List.count_eq_zero.1 hk
        show [b :: l] = _
        rw [cutW_word _ (by simp; exact ⟨fun q => e q.symm, this⟩)]
      | succ k =>
        rw [hk] at ih
        have hm : (32 : UInt8) ∈ l := List.count_pos_iff.1 (by omega)
        have hn : ¬ (Lib.index l [32] == -1) = true := by
          intro q
          have q := beq_iff_eq.1 q
          rw [Lib.index_one] at q
          obtain ⟨j, hj, hj2⟩ := List.getElem_of_mem hm
          exact Lib.indexByte_none q j (by rw [List.getElem?_eq_getElem hj, hj2])
        have hge : 0 ≤ Lib.index l [32] := by have := Lib.index_ge l [32]; have : Lib.index l [32] ≠ -1 := fun q => hn (by simp [q]); omega
        unfold Lib.splitK at ih ⊢
        rw [if_neg hn] at ih
        rw [hi, if_neg hn]
        rw [if_neg (by simp; omega)]
        have e1 : (Lib.index l [32] + 1).toNat = (Lib.index l [32]).toNat + 1 := by omega
        rw [e1]
        simp only [Nat.add_zero, List.length_cons, List.length_nil, Nat.zero_add, List.take_succ_cons, List.drop_succ_cons] at ih ⊢
        rw [cutW, if_neg e, ← ih]
def sp : ByteArray := ByteArray.mk #[32]
def wordsOf (s : ByteArray) : List ByteArray := (cutW s.data.toList).map B
theorem splitB_words (s : ByteArray) : Lib.splitB sp 0 (Lib.countB s sp) s = wordsOf s := by
  have h := Lib.splitB_data sp 0 (Lib.countB s sp) s
  have e : Lib.countB s sp = s.data.toList.count 32 := Lib.count_one 32 s.data.toList
  have e2 : sp.data.toList = [32] := rfl
  rw [e2, e, splitK_words] at h
  rw [e]
  unfold wordsOf
  rw [← h, List.map_map]
  symm
  conv => rhs; rw [← List.map_id (Lib.splitB sp 0 _ s)]
  apply List.map_congr_left
  intro x _
  exact B_of x
theorem words_count (s : ByteArray) : Lib.countB s sp + 1 = (cutW s.data.toList).length := by
  rw [← Lib.splitB_all sp (by decide) 0 _ s rfl, splitB_words]; simp [wordsOf]
theorem joinB_words (ss : List ByteArray) : joinB ss sp = joinW (ss.map (·.data.toList)) := rfl
theorem cutW_len (l : List UInt8) : (cutW l).length ≤ l.length + 1 := by
  induction l with
  | nil => simp [cutW]
  | cons b l ih =>
    unfold cutW
    split
    · simp; omega
    · cases hc : cutW l with
      | nil => exact absurd hc (cutW_ne l)
      | cons v vs => rw [hc] at ih; simp at ih ⊢; omega
theorem cutW_le (l : List UInt8) : ∀ w ∈ cutW l, w.length ≤ l.length := by
  induction l with
  | nil => simp [cutW]
  | cons b l ih =>
    unfold cutW
    intro w h
    split at h
    · rcases List.mem_cons.1 h with rfl | h
      · simp
      · have := ih w h; simp; omega
    · cases hc : cutW l with
      | nil => exact absurd hc (cutW_ne l)
      | cons v vs =>
        rw [hc] at h ih
        rcases List.mem_cons.1 h with rfl | h
        · have := ih v (by simp); simp; omega
        · have := ih w (by simp [h]); simp; omega

/-! ### numbers -/
theorem parseUint10_app : ∀ (l : List UInt8) (acc : Nat) (c : UInt8), Lib.parseUint10 acc (l ++ [c]) = match Lib.parseUint10 acc l with | .ok v => Lib.parseUint10 v [c] | e => e
  | [], acc, c => by simp only [List.nil_append, Lib.parseUint10]
  | b :: l, acc, c => by
    rw [List.cons_append, Lib.parseUint10, Lib.parseUint10]
    split
    · split
      · rfl
      · split
        · rfl
        · exact parseUint10_app l _ c
    · rfl
theorem dig_nat {d : Nat} (h : d < 10) : (UInt8.ofNat (48 + d)).toNat = 48 + d := by simp; omega
theorem parse_dig (v d : Nat) (hd : d < 10) (h : v * 10 + d < 18446744073709551616) : Lib.parseUint10 v [UInt8.ofNat (48 + d)] = .ok (v * 10 + d) := by
  simp only [Lib.parseUint10, dig_nat hd]
  rw [if_pos (by omega), if_neg (by omega), if_neg (by omega)]
  congr 1; omega
theorem parse_dec (u : Nat) (h : u < 18446744073709551616) : Lib.parseUint10 0 (Lib.decDigits u) = .ok u := by
  induction u using Nat.strongRecOn with
  | ind u ih =>
    by_cases c : u < 10
    · rw [Lib.decDigits, dif_pos c, parse_dig 0 u c (by omega)]; simp
    · rw [Lib.decDigits, dif_neg c, parseUint10_app, ih (u / 10) (by omega) (by omega)]
      simp only
      rw [parse_dig _ _ (by omega) (by omega)]
      congr 1; omega
theorem dec_ne (u : Nat) : Lib.decDigits u ≠ [] := by
  intro e
  have h1 := Lib.decDigits_length u
  have h2 := Lib.nDigits_pos u
  rw [e] at h1; simp at h1; omega
theorem dec_range (u : Nat) : ∀ c ∈ Lib.decDigits u, 48 ≤ c.toNat ∧ c.toNat ≤ 57 := by
  induction u using Nat.strongRecOn with
  | ind u ih =>
    intro c hc
    by_cases h : u < 10
    · rw [Lib.decDigits, dif_pos h] at hc
      obtain rfl := List.mem_singleton.1 hc
      rw [dig_nat h]; omega
    · rw [Lib.decDigits, dif_neg h] at hc
      rcases List.mem_append.1 hc with hc | hc
      · exact ih (u / 10) (by omega) c hc
      · obtain rfl := List.mem_singleton.1 hc
        rw [dig_nat (by omega)]; omega
theorem parseMag_dec (u : Nat) (h : u < 18446744073709551616) : Lib.parseMag (Lib.decDigits u) = .ok u := by
  unfold Lib.parseMag; rw [if_neg (dec_ne u), parse_dec u h]
theorem atoi_itoa (n : Int) (h1 : -9223372036854775808 ≤ n) (h2 : n ≤ 9223372036854775807) : Lib.atoiAll (Lib.itoa n) = .ok n := by
  unfold Lib.itoa
  split
  · rename_i h
    unfold Lib.atoiAll
    simp only
    rw [show (45 : UInt8).toNat = 45 from rfl, if_pos (by omega), parseMag_dec _ (by omega)]
    simp only
    rw [if_neg (by simp), if_neg (by simp; omega), if_pos trivial]
    congr 1; omega
  · rename_i h
    cases hd : Lib.decDigits n.toNat with
    | nil => exact absurd hd (dec_ne _)
    | cons c r =>
      have hc := dec_range n.toNat c (by rw [hd]; simp)
      unfold Lib.atoiAll
      simp only
      rw [if_neg (by omega), ← hd, parseMag_dec _ (by omega)]
      simp only
      rw [if_neg (by omega), if_neg (by omega), if_neg (by omega)]
      congr 1; omega
theorem itoa_nb (n : Int) : (32 : UInt8) ∉ Lib.itoa n := by
  unfold Lib.itoa
  intro h
  split at h
  · rcases List.mem_cons.1 h with h | h
    · exact absurd h (by decide)
    · have := dec_range _ _ h; simp at this
  · have := dec_range _ _ h; simp at this
theorem dec_len (u : Nat) (h : u < 18446744073709551616) : (Lib.decDigits u).length ≤ 20 := by
  rw [Lib.decDigits_length]
  by_cases c : Lib.nDigits u ≤ 20
  · exact c
  · exfalso
    have : ∀ k u, k < Lib.nDigits u → 10 ^ k ≤ u ∨ k = 0 := by
      intro k
      induction k with
      | zero => intro u _; exact .inr rfl
      | succ k ih =>
        intro u hu
        by_cases c : u < 10
        · rw [Lib.nDigits_small c] at hu; omega
        · rw [Lib.nDigits_big c] at hu
          left
          rcases ih (u / 10) (by omega) with q | q
          · rw [Nat.pow_succ]; omega
          · subst q; simp; omega
    rcases this 20 u (by omega) with q | q
    · have : (10 : Nat) ^ 20 = 100000000000000000000 := by decide
      omega
    · omega
theorem itoa_len (n : Int) (h1 : -9223372036854775808 ≤ n) (h2 : n ≤ 9223372036854775807) : (Lib.itoa n).length ≤ 21 := by
  unfold Lib.itoa
  split
  · have := dec_len n.natAbs (by omega); simp; omega
  · have := dec_len n.toNat (by omega); omega
/-- A number of a text, and whether it is its numeral. -/
def numL (l : List UInt8) : Int × Bool := match Lib.atoiAll l with
  | .ok v => (v, decide (Lib.itoa v = l))
  | .range => (Lib.atoiSat l, false)
  | _ => (0, false)
theorem numL_itoa (n : Int) (h1 : -9223372036854775808 ≤ n) (h2 : n ≤ 9223372036854775807) : numL (Lib.itoa n) = (n, true) := by
  unfold numL; rw [atoi_itoa n h1 h2]; simp
theorem numL_bounds (l : List UInt8) : -9223372036854775808 ≤ (numL l).1 ∧ (numL l).1 ≤ 9223372036854775807 := by
  unfold numL
  split
  · rename_i v h; exact Lib.atoiAll_bounds h
  · exact Lib.atoiSat_bounds l
  · constructor <;> decide
theorem numL_back {l : List UInt8} (h : (numL l).2 = true) : Lib.itoa (numL l).1 = l := by
  unfold numL at h ⊢
  cases e : Lib.atoiAll l with
  | ok v => rw [e] at h; simpa using h
  | range => rw [e] at h; cases h
  | _ => rw [e] at h; cases h

/-! ### digits -/
def unhL : List UInt8 → Option (List UInt8)
  | [] => some []
  | [_] => none
  | a :: b :: l => if Lib.indexByte hexD a < 0 then none else if Lib.indexByte hexD b < 0 then none else (unhL l).map (UInt8.ofNat ((Lib.indexByte hexD a).toNat * 16 + (Lib.indexByte hexD b).toNat) :: ·)
def unhexL (l : List UInt8) : Option (List UInt8) := if l = [45] then some [] else if l = [] then none else if l.length % 2 ≠ 0 then none else unhL l
theorem all8 (p : UInt8 → Bool) (h : ∀ n : Fin 256, p (UInt8.ofNat n.val) = true) (c : UInt8) : p c = true := by
  have := h ⟨c.toNat, c.toNat_lt⟩
  simpa using this
theorem hex_hi (b : UInt8) : (Lib.indexByte hexD (hexD.getD (b.toNat / 16) 0) == ((b.toNat / 16 : Nat) : Int)) = true := all8 (fun b => Lib.indexByte hexD (hexD.getD (b.toNat / 16) 0) == ((b.toNat / 16 : Nat) : Int)) (by decide +kernel) b
theorem hex_lo (b : UInt8) : (Lib.indexByte hexD (hexD.getD (b.toNat % 16) 0) == ((b.toNat % 16 : Nat) : Int)) = true := all8 (fun b => Lib.indexByte hexD (hexD.getD (b.toNat % 16) 0) == ((b.toNat % 16 : Nat) : Int)) (by decide +kernel) b
theorem hex_back (c : UInt8) : (decide (Lib.indexByte hexD c < 0) || (hexD.getD (Lib.indexByte hexD c).toNat 0 == c && decide ((Lib.indexByte hexD c).toNat < 16))) = true := all8 (fun c => decide (Lib.indexByte hexD c < 0) || (hexD.getD (Lib.indexByte hexD c).toNat 0 == c && decide ((Lib.indexByte hexD c).toNat < 16))) (by decide +kernel) c
theorem hex_ne (b : UInt8) : ((hexP b).all fun c => c != 32 && c != 45) = true := all8 (fun b => (hexP b).all fun c => c != 32 && c != 45) (by decide +kernel) b
theorem unhL_hex : ∀ bs : List UInt8, unhL (bs.flatMap hexP) = some bs
  | [] => rfl
  | b :: bs => by
    rw [List.flatMap_cons]
    show unhL (_ :: _ :: bs.flatMap hexP) = _
    have h1 := beq_iff_eq.1 (hex_hi b)
    have h2 := beq_iff_eq.1 (hex_lo b)
    rw [unhL, h1, h2, if_neg (by omega), if_neg (by omega), unhL_hex bs]
    simp only [Option.map_some, Int.toNat_natCast]
    have : b.toNat / 16 * 16 + b.toNat % 16 = b.toNat := by omega
    rw [this]; simp
theorem hexP_len (b : UInt8) : (hexP b).length = 2 := rfl
theorem hexs_len (bs : List UInt8) : (bs.flatMap hexP).length = 2 * bs.length := by
  induction bs with
  | nil => rfl
  | cons b bs ih => rw [List.flatMap_cons, List.length_append, ih, hexP_len, List.length_cons]; omega
theorem unhex_hex (bs : List UInt8) : unhexL (hexL bs) = some bs := by
  unfold hexL
  split
  · rename_i h; subst h; rfl
  · rename_i h
    have hl := hexs_len bs
    have : bs.length ≠ 0 := fun q => h (List.length_eq_zero_iff.1 q)
    unfold unhexL
    rw [if_neg (fun q => by rw [q] at hl; simp at hl; omega), if_neg (fun q => by rw [q] at hl; simp at hl; omega), if_neg (by rw [hl]; omega), unhL_hex]
theorem hex_unhL : ∀ {l bs : List UInt8}, unhL l = some bs → bs.flatMap hexP = l
  | [], bs, h => by simp [unhL] at h; subst h; rfl
  | [_], bs, h => by simp [unhL] at h
  | a :: b :: l, bs, h => by
    rw [unhL] at h
    split at h
    · cases h
    · split at h
      · cases h
      · obtain ⟨bs', h', rfl⟩ := Option.map_eq_some_iff.1 h
        rename_i ha hb
        have h1 := hex_back a
        have h2 := hex_back b
        simp only [decide_eq_false ha, decide_eq_false hb, Bool.false_or, Bool.and_eq_true, beq_iff_eq, decide_eq_true_eq] at h1 h2
        rw [List.flatMap_cons, hex_unhL h']
        have e : (UInt8.ofNat ((Lib.indexByte hexD a).toNat * 16 + (Lib.indexByte hexD b).toNat)).toNat = (Lib.indexByte hexD a).toNat * 16 + (Lib.indexByte hexD b).toNat := by simp; omega
        unfold hexP
        rw [e, show ((Lib.indexByte hexD a).toNat * 16 + (Lib.indexByte hexD b).toNat) / 16 = (Lib.indexByte hexD a).toNat by omega, show ((Lib.indexByte hexD a).toNat * 16 + (Lib.indexByte hexD b).toNat) % 16 = (Lib.indexByte hexD b).toNat by omega, h1.1, h2.1]
        rfl
theorem hex_unhex {l bs : List UInt8} (h : unhexL l = some bs) : hexL bs = l := by
  unfold unhexL at h
  split at h
  · rename_i e; obtain rfl := Option.some.inj h; rw [e]; rfl
  · split at h
    · cases h
    · split at h
      · cases h
      · rename_i e1 e2 e3
        have := hex_unhL h
        unfold hexL
        rw [if_neg (fun q => by subst q; simp at this; exact e2 (by simpa using this)), this]
theorem hex_nb (bs : List UInt8) : (32 : UInt8) ∉ hexL bs := by
  unfold hexL
  split
  · decide
  · intro h
    obtain ⟨b, _, hb⟩ := List.mem_flatMap.1 h
    have := List.all_eq_true.1 (hex_ne b) 32 hb
    simp at this
theorem hexB_len (bs : List UInt8) : (hexL bs).length ≤ 2 * bs.length + 1 := by
  unfold hexL
  split
  · simp
  · rw [hexs_len]; omega
theorem unhL_len : ∀ {l bs : List UInt8}, unhL l = some bs → bs.length ≤ l.length := fun {l bs} h => by
  have := hex_unhL h
  have := congrArg List.length this
  rw [hexs_len] at this; omega
theorem unhex_len {l bs : List UInt8} (h : unhexL l = some bs) : bs.length ≤ l.length := by
  unfold unhexL at h
  split at h
  · obtain rfl := Option.some.inj h; simp
  · split at h
    · cases h
    · split at h
      · cases h
      · exact unhL_len h
end Go.Proofs.YtahilinkfnchaaaDoor.T

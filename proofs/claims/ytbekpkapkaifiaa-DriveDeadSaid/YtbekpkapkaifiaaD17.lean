/- DriveDead: the run. -/
import Derived.Test.YtbekpkapkaifiaaD16
set_option linter.unusedVariables false
set_option linter.unusedSimpArgs false
namespace Go.Proofs.Ytbekpkapkaifiaa.T
open Go Go.RowKit Go.Proofs

theorem All2.cons {α β : Type} {R : α → β → Prop} {x : α} {y : β} {xs : List α} {ys : List β} (h : R x y) (t : All2 R xs ys) : All2 R (x :: xs) (y :: ys) := ⟨y, ys, rfl, h, t⟩
theorem src_lits {h : AHeap} {id es k : Nat} {ws : List AV} (hk : k ≠ 0) (hw : ws.length = k * es) : srcS (h.put id (some ⟨ws, es, true⟩)) (some (id, 0)) k es = some (k, ws, [id]) := by
  simp [srcS, hw, hk]; rw [← hw]; simp

theorem dead_tail {f : Nat} (hf : 1010 ≤ f) {Y : YldF} {h : AHeap} {n0 nx : Nat} (hn : n0 ≤ nx) {a : Option (Nat × Nat)} {c : Bool} {x2 : Int} {pre : List (Int × List Int)} {o0 o1 o3 o4 o6 o9 : Int × List Int} {d2 : List Int} (hp : pre.length ≤ 1000)
    (w : Rows (AnsR h n0 fun _ => False) h n0 (fun _ => False) a 2 (pre ++ [o0, o1, (12, d2), o3, o4, (0, secL x2), o6, (13, []), (13, []), o9, (0, noughts 128)])) :
    ∃ h' nx', F7_J1 (callP Try.prog keepT f) Y f x2 (pre.length : Int) a (pre.length + 11) c h nx = some (.bool true, h', nx') := by
  generalize hL : pre ++ [o0, o1, (12, d2), o3, o4, (0, secL x2), o6, (13, []), (13, []), o9, (0, noughts 128)] = L at w
  have hlen : L.length = pre.length + 11 := by rw [← hL]; simp
  have at_ : ∀ k v, [o0, o1, (12, d2), o3, o4, (0, secL x2), o6, (13, []), (13, []), o9, (0, noughts 128)][k]? = some v → L[pre.length + k]? = some v := fun k v hv => by
    rw [← hL, List.getElem?_append_right (by omega), Nat.add_sub_cancel_left]; exact hv
  obtain ⟨rows, q, len, s, _⟩ := w
  obtain ⟨p, blk, rfl, hpn, eb, _, hle, hq⟩ := s.2 0 (by omega)
  have hfl := flat_len len
  rw [q.len, hlen] at hfl
  rw [hlen] at hq
  have cell : ∀ (k : Nat) (v : Int × List Int), [o0, o1, (12, d2), o3, o4, (0, secL x2), o6, (13, []), (13, []), o9, (0, noughts 128)][k]? = some v → ∃ w, Byt .u8 h n0 (fun _ => False) w v.2 ∧ blk.cells[p.2 + (pre.length + k) * 2]? = some (.int .i64 v.1) ∧ blk.cells[p.2 + (pre.length + k) * 2 + 1]? = some w := fun k v hv => by
    obtain ⟨r, hr, w, rfl, b⟩ := q.get _ _ (at_ k v hv)
    have hk : k < 11 := by have := (List.getElem?_eq_some_iff.1 hv).1; simpa using this
    refine ⟨w, b, ?_, ?_⟩
    · rw [hq _ (by omega)]
      have := flat_get (f := 0) len hr (by omega)
      simpa using this
    · rw [Nat.add_assoc, hq _ (by omega), flat_get (f := 1) len hr (by omega)]; rfl
  obtain ⟨bc, bes, bow⟩ := blk
  obtain ⟨_, _, f2, _⟩ := cell 2 _ rfl
  obtain ⟨w5, ⟨a5, c5, rfl, s5, _⟩, _, f5⟩ := cell 5 _ rfl
  obtain ⟨_, _, f7, _⟩ := cell 7 _ rfl
  obtain ⟨_, _, f8, _⟩ := cell 8 _ rfl
  obtain ⟨w10, ⟨a10, c10, rfl, s10, _⟩, f10, g10⟩ := cell 10 _ rfl
  clear cell
  have wr : ∀ k : Nat, k ≤ 20 → wrapA .i64 ((pre.length : Int) + (k : Int)) = ((pre.length + k : Nat) : Int) := fun k hk => by rw [wA (by omega) (by omega)]; omega
  have wr2 := wr 2 (by omega); have wr5 := wr 5 (by omega); have wr7 := wr 7 (by omega); have wr8 := wr 8 (by omega); have wr10 := wr 10 (by omega)
  rw [show ((2 : Nat) : Int) = 2 from rfl] at wr2
  rw [show ((5 : Nat) : Int) = 5 from rfl] at wr5
  rw [show ((7 : Nat) : Int) = 7 from rfl] at wr7
  rw [show ((8 : Nat) : Int) = 8 from rfl] at wr8
  rw [show ((10 : Nat) : Int) = 10 from rfl] at wr10
  clear wr
  rw [F7_J1_eq, wr2, wr5, wr7, wr8, wr10]
  clear wr2 wr5 wr7 wr8 wr10
  simp only [bind_some', asI_int, asB_bool, asStr_str, asP_ptr, asSl_sl, asAgg_1, asAgg_2, asAgg_3, asAgg_4, asTup_0, asTup_2, asTup_3, asTup_4, if_true', if_false', if_not_true', if_not_false', getD_0, getD_1, getD_2, getD_3]
  rw [if_pos ⟨by omega, by omega⟩, Int.toNat_natCast, ld_at eb f2]
  simp only [bind_some', asI_int, asB_bool, asStr_str, asP_ptr, asSl_sl, asAgg_1, asAgg_2, asAgg_3, asAgg_4, asTup_0, asTup_2, asTup_3, asTup_4, if_true', if_false', if_not_true', if_not_false', getD_0, getD_1, getD_2, getD_3]
  rw [if_pos (by decide), if_pos ⟨by omega, by omega⟩, Int.toNat_natCast, ld_at eb f5]
  simp only [bind_some', asI_int, asB_bool, asStr_str, asP_ptr, asSl_sl, asAgg_1, asAgg_2, asAgg_3, asAgg_4, asTup_0, asTup_2, asTup_3, asTup_4, if_true', if_false', if_not_true', if_not_false', getD_0, getD_1, getD_2, getD_3]
  obtain ⟨b, h7, n7, g1, g2, g3, g4, g5⟩ := sec_spec (f := f) (by omega) Y x2 h (nx + 56)
  rw [g1]
  simp only [bind_some', asI_int, asB_bool, asStr_str, asP_ptr, asSl_sl, asAgg_1, asAgg_2, asAgg_3, asAgg_4, asTup_0, asTup_2, asTup_3, asTup_4, if_true', if_false', if_not_true', if_not_false', getD_0, getD_1, getD_2, getD_3]
  have l7 := g2.1
  have x7 : Ext h n0 h7 n7 := ⟨by omega, fun i hi => g2.2 i (by omega)⟩
  have sb : Sl h7 n7 (some (b, 0)) (secL x2).length 1 (ints .u8 (secL x2)) := OwnSl.sl (nx0 := 0) ⟨by simp [ints], .inr ⟨b, by rw [], by omega, g4, g5⟩⟩
  have eb7 := (x7.2 _ hpn).trans eb
  obtain ⟨m1, l1, r1⟩ := same_spec hf Y c5 true (s5.ext x7) sb (by rw [secL_len]; omega) n7
  simp only [secL_len] at r1
  simp only [secL_len]
  rw [r1, show decide True = true from rfl]
  simp only [bind_some', asI_int, asB_bool, asStr_str, asP_ptr, asSl_sl, asAgg_1, asAgg_2, asAgg_3, asAgg_4, asTup_0, asTup_2, asTup_3, asTup_4, if_true', if_false', if_not_true', if_not_false', getD_0, getD_1, getD_2, getD_3]
  rw [if_pos trivial, if_pos ⟨by omega, by omega⟩, Int.toNat_natCast, ld_at eb7 f7]
  simp only [bind_some', asI_int, asB_bool, asStr_str, asP_ptr, asSl_sl, asAgg_1, asAgg_2, asAgg_3, asAgg_4, asTup_0, asTup_2, asTup_3, asTup_4, if_true', if_false', if_not_true', if_not_false', getD_0, getD_1, getD_2, getD_3]
  rw [if_pos (by decide), if_pos ⟨by omega, by omega⟩, Int.toNat_natCast, ld_at eb7 f8]
  simp only [bind_some', asI_int, asB_bool, asStr_str, asP_ptr, asSl_sl, asAgg_1, asAgg_2, asAgg_3, asAgg_4, asTup_0, asTup_2, asTup_3, asTup_4, if_true', if_false', if_not_true', if_not_false', getD_0, getD_1, getD_2, getD_3]
  rw [if_pos (by decide), if_pos ⟨by omega, by omega⟩, Int.toNat_natCast, ld_at eb7 f10]
  simp only [bind_some', asI_int, asB_bool, asStr_str, asP_ptr, asSl_sl, asAgg_1, asAgg_2, asAgg_3, asAgg_4, asTup_0, asTup_2, asTup_3, asTup_4, if_true', if_false', if_not_true', if_not_false', getD_0, getD_1, getD_2, getD_3]
  rw [if_pos (by decide), if_pos ⟨by omega, by omega⟩, ld_at eb7 g10]
  simp only [bind_some', asI_int, asB_bool, asStr_str, asP_ptr, asSl_sl, asAgg_1, asAgg_2, asAgg_3, asAgg_4, asTup_0, asTup_2, asTup_3, asTup_4, if_true', if_false', if_not_true', if_not_false', getD_0, getD_1, getD_2, getD_3]
  rw [if_pos (by decide)]
  have x8 : Ext h n0 (h7.put (nx + 52) (some ⟨madeA [.int .u8 0] (Int.toNat 128 * 1), 1, true⟩)) m1 := ⟨by omega, fun i hi => by rw [put_ne (by omega), x7.2 i hi]⟩
  have sz : Sl (h7.put (nx + 52) (some ⟨madeA [.int .u8 0] (Int.toNat 128 * 1), 1, true⟩)) m1 (some (nx + 52, 0)) (noughts 128).length 1 (ints .u8 (noughts 128)) := OwnSl.sl (nx0 := 0) ⟨by simp [ints], .inr ⟨nx + 52, rfl, by omega, by omega, by rw [put_same]; simp [madeA, noughts, ints]⟩⟩
  have hz : (noughts 128).length = 128 := by simp [noughts]
  obtain ⟨m2, l2, r2⟩ := same_spec hf Y c10 true (s10.ext x8) sz (by rw [hz]; omega) m1
  simp only [hz] at r2
  have aa : AllApart [([nx + 52], [p.1])] := ⟨fun x hx hx2 => by simp only [List.mem_singleton] at hx hx2; omega, trivial⟩
  have ak : AllKept [(h, h7, [p.1])] := ⟨fun x hx => by simp only [List.mem_singleton] at hx; subst hx; exact x7.2 _ hpn, trivial⟩
  simp only [hz]
  rw [show Int.toNat 128 = 128 from rfl] at r2 ⊢
  rw [r2, show decide True = true from rfl]
  simp only [bind_some', asI_int, asB_bool, asStr_str, asP_ptr, asSl_sl, asAgg_1, asAgg_2, asAgg_3, asAgg_4, asTup_0, asTup_2, asTup_3, asTup_4, if_true', if_false', if_not_true', if_not_false', getD_0, getD_1, getD_2, getD_3]
  rw [ifApart_pos aa, ifKept_pos ak]
  exact ⟨_, _, rfl⟩

end Go.Proofs.Ytbekpkapkaifiaa.T

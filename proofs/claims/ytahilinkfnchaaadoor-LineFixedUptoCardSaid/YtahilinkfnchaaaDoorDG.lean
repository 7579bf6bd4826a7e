/- Desk: ToldBack. -/
import Derived.Test.YtahilinkfnchaaaDoorDF
set_option linter.unusedVariables false
set_option linter.unusedSimpArgs false
namespace Go.Proofs.YtahilinkfnchaaaDoor.T
open Go Go.RowKit Go.Proofs
set_option maxRecDepth 10000

theorem objN_ok : ∀ s ∈ objN ++ snpN, goodName s = true ∧ s ≠ doneB ∧ s.size ≤ 2 := by
  intro s hs
  simp only [objN, snpN, List.cons_append, List.nil_append, List.mem_cons, List.mem_nil_iff, or_false] at hs
  rcases hs with rfl | rfl | rfl | rfl | rfl | rfl | rfl | rfl | rfl <;> decide
theorem objName_mem (x : Int) : objName x ∈ objN ++ snpN := by
  obtain ⟨b1, b2⟩ := pickL_bounds x 5 (by decide)
  have hi : (pickL x 5).toNat < objN.length := by show _ < 5; omega
  refine List.mem_append_left _ ?_
  unfold objName
  rw [List.getD_eq_getElem?_getD, List.getElem?_eq_getElem hi]; simp
theorem snpName_mem (x : Int) : snpName x ∈ objN ++ snpN := by
  obtain ⟨b1, b2⟩ := pickL_bounds x 4 (by decide)
  have hi : (pickL x 4).toNat < snpN.length := by show _ < 4; omega
  refine List.mem_append_right _ ?_
  unfold snpName
  rw [List.getD_eq_getElem?_getD, List.getElem?_eq_getElem hi]; simp
theorem objName_odd (x : Int) : oddN (objName x) = false := by
  obtain ⟨h1, h2, _⟩ := objN_ok _ (objName_mem x)
  unfold oddN; rw [h1, decide_eq_false h2]; rfl

theorem app_own {h : AHeap} {a : Option (Nat × Nat)} {n es : Nat} {c : Option Nat} {bytes id : Nat} {q : Nat × List AV × List Nat} {e : AE} (he : appD h a n c es bytes id q = some e) : (∀ x ∈ idsOf e.sets, ownOf a x ∨ x = id) ∧ ∀ j, ownOf e.a j → ownOf a j ∨ j = id := by
  have hid : ∀ j, ownOf (some (id, 0)) j → j = id := fun j ⟨o, e⟩ => (Prod.mk.inj (Option.some.inj e)).1.symm
  unfold appD at he
  split at he
  · obtain rfl := Option.some.inj he; exact ⟨fun x hx => (by cases hx), fun j hj => .inl hj⟩
  · split at he
    · split at he
      · obtain rfl := Option.some.inj he
        exact ⟨fun x hx => (by simp [idsOf] at hx; exact .inr hx), fun j hj => .inr (hid j hj)⟩
      · rename_i a
        obtain ⟨b, hb, he⟩ := Option.bind_eq_some_iff.1 he
        have ha : ownOf (some a) a.1 := ⟨a.2, rfl⟩
        split at he
        · split at he
          · obtain rfl := Option.some.inj he
            exact ⟨fun x hx => (by simp [idsOf] at hx; exact .inr hx), fun j hj => .inr (hid j hj)⟩
          · split at he
            · split at he
              · obtain rfl := Option.some.inj he
                exact ⟨fun x hx => (by simp [idsOf] at hx; rw [hx]; exact .inl ha), fun j hj => .inl hj⟩
              · obtain rfl := Option.some.inj he
                refine ⟨fun x hx => ?_, fun j hj => .inr (hid j hj)⟩
                simp [idsOf] at hx
                rcases hx with rfl | rfl
                · exact .inl ha
                · exact .inr rfl
            · cases he
        · cases he
    · cases he

theorem own_ne {h : AHeap} {nx0 nx n es r : Nat} {a : Option (Nat × Nat)} {vs l : List AV} {b : Bool} (s : OwnSl h nx0 nx a n 1 vs) (e : h r = some ⟨l, es, b⟩) (hes : es ≠ 1) : ¬ ownOf a r := fun ⟨o, ha⟩ => by
  rcases s.2 with ⟨q, _⟩ | ⟨i, q, _, _, h2⟩
  · rw [q] at ha; cases ha
  · rw [q] at ha
    obtain ⟨rfl, rfl⟩ := Prod.mk.inj (Option.some.inj ha)
    rw [h2] at e
    exact hes (congrArg ABlk.es (Option.some.inj e)).symm

/-- The names are laid on. -/
theorem told_names {m : Nat} (hm : 3 ≤ m) (Y : YldF) (lf : Nat) {code size : Int} {dn : Bool} {data : List UInt8} {da na : Option (Nat × Nat)} {dc : Option Nat} (nc : Option Nat) {xs : List Int} (tb nx0 nx1 : Nat) : ∀ (k n0 i nx : Nat) (h : AHeap) (ea : Option (Nat × Nat)) (ec : Option Nat), min xs.length 6 = i + k → k < n0 → nx0 ≤ tb → tb < nx → nx1 ≤ nx0 →
    h tb = some ⟨rowT ⟨code, dn, size, data, (xs.take i).map objName⟩ da ea dc ec, 5, true⟩ → Sl h nx da (ob data).length 1 (ints .u8 (ob data)) → Av (ownOf ea) da (ob data).length → OwnSl h nx0 nx ea ((xs.take i).map objName).length 1 (((xs.take i).map objName).map AV.str) → Sl h nx1 na xs.length 1 (ints .i64 xs) →
    ∃ h' nx' ea' ec', F3_L1 (callP Tryd.prog keepT m) Y lf n0 dn na xs.length nc (some (tb, 0)) (i : Int) h nx = F3_J3 (callP Tryd.prog keepT m) Y lf dn na xs.length nc (some (tb, 0)) h' nx' ∧ (∀ j, j < nx0 → h' j = h j) ∧ nx ≤ nx' ∧
      h' tb = some ⟨rowT ⟨code, dn, size, data, (xs.take 6).map objName⟩ da ea' dc ec', 5, true⟩ ∧ Sl h' nx' da (ob data).length 1 (ints .u8 (ob data)) ∧ Sl h' nx' ea' ((xs.take 6).map objName).length 1 (((xs.take 6).map objName).map AV.str)
  | 0, n0 + 1, i, nx, h, ea, ec, hk, _, h0, h1, h2, ti, d, dv, u, x => by
    have e : xs.take i = xs.take 6 := by
      by_cases c : xs.length ≤ 6
      · rw [List.take_of_length_le (by omega), List.take_of_length_le (by omega)]
      · rw [show i = 6 by omega]
    rw [e] at ti u
    rw [F3_L1_eq]
    refine ⟨h, nx + 8, ea, ec, ?_, fun _ _ => rfl, by omega, ti, d.ext ⟨by omega, fun _ _ => rfl⟩, u.sl.ext ⟨by omega, fun _ _ => rfl⟩⟩
    by_cases c : (i : Int) < ((xs.length : Nat) : Int)
    · rw [if_pos (by simpa using c), if_neg (by simp; omega)]
    · rw [if_neg (by simpa using c)]
  | k + 1, n0 + 1, i, nx, h, ea, ec, hk, hn, h0, h1, h2, ti, d, dv, u, x => by
    have hi : i < xs.length := by omega
    have hlen : ((xs.take i).map objName).length = i := by simp; omega
    rw [F3_L1_eq, if_pos (by simp; omega), if_pos (by simp; omega), F3_J2_eq]
    simp only [mst_, mst5_]
    unfold rowT at ti
    rw [ld_at ti (show _ = some (AV.slice ea ((xs.take i).map objName).length ec) from rfl)]
    simp only [mst_, mst5_]
    rw [x.readI hi]
    simp only [mst_, mst5_]
    obtain ⟨v, hxv⟩ : ∃ v, v = xs[i] := ⟨_, rfl⟩
    rw [← hxv]
    rw [objectName_spec (by omega)]
    simp only [mst_, mst5_]
    obtain ⟨hA, hhA⟩ : ∃ hA, hA = (h.put (nx + 8 + 11 + 1) (some ⟨objN.map AV.str, 1, true⟩)).put (nx + 8 + 7) (some ⟨[.str (objName v)], 1, true⟩) := ⟨_, rfl⟩
    rw [srcOne]
    simp only [mst_, mst5_]
    have uB : OwnSl (h.put (nx + 8 + 11 + 1) (some ⟨objN.map AV.str, 1, true⟩)) nx0 (nx + 8 + 7) ea ((xs.take i).map objName).length 1 (((xs.take i).map objName).map AV.str) := u.ext ⟨by omega, fun j hj => put_ne (by omega)⟩
    obtain ⟨e, f1, f2, f3, f4⟩ := uB.push (c := ec) (bytes := 16) (id := nx + 8 + 7) (id2 := nx + 8 + 8) (ws := [.str (objName v)]) rfl (growOk_of (by omega) (by omega)) (by omega) (by omega) (by omega)
    rw [f1]
    simp only [mst_, mst5_]
    obtain ⟨a1, a2⟩ := app_own f1
    have nn := own_ne u ti (by decide)
    have hsets : tb ∉ e.sets.map (·.1) := fun q => by
      rcases a1 tb q with q | q
      · exact nn q
      · omega
    obtain ⟨hB, hhB⟩ : ∃ hB, hB = ((h.put (nx + 8 + 11 + 1) (some ⟨objN.map AV.str, 1, true⟩)).put (nx + 8 + 7) (some ⟨[.str (objName v)], 1, true⟩)).puts e.sets := ⟨_, rfl⟩
    rw [← hhB] at f3 f4 ⊢
    have tB : hB tb = some ⟨[.int .i64 code, .bool dn, .int .i64 size, .slice da (ob data).length dc, .slice ea ((xs.take i).map objName).length ec], 5, true⟩ := by
      rw [hhB, puts_get _ _ hsets, put_ne (by omega), put_ne (by omega), ti]
    have oB : ∀ j, j < nx0 → hB j = h j := fun j hj => (f4.2 j hj).trans (put_ne (by omega))
    have dB : Sl hB (nx + 8 + 9) da (ob data).length 1 (ints .u8 (ob data)) := d.fr dv ⟨by omega, fun j hj hne => by
      rw [hhB, puts_get _ _ (fun q => by
        rcases a1 j q with q | q
        · exact hne q
        · omega), put_ne (by omega), put_ne (by omega)]⟩
    have hv : xs.take (i + 1) = xs.take i ++ [v] := by rw [List.take_add_one, List.getElem?_eq_getElem hi, hxv]; rfl
    have hc : ((xs.take i).map objName).map AV.str ++ [.str (objName v)] = ((xs.take (i + 1)).map objName).map AV.str := by rw [hv]; simp
    have hl1 : ((xs.take i).map objName).length + 1 = ((xs.take (i + 1)).map objName).length := by rw [hv]; simp
    rw [hc, hl1] at f3
    rw [f2, hl1, st_set tB rfl (by simp) rfl]
    simp only [List.set_cons_succ, List.set_cons_zero]
    rw [ifApart_pos (by exact ⟨fun x hx hy => by simp at hx hy; omega, trivial⟩), ifKept_pos (by exact ⟨fun x hx => by simp at hx; subst hx; exact put_ne (by omega), trivial⟩), wsucc (by omega)]
    have e9 : nx + 8 + 8 + 1 = nx + 8 + 9 := by omega
    rw [e9] at f3
    have fC : Frm (fun j => j = tb) hB (nx + 8 + 9) (hB.put tb (some ⟨[.int .i64 code, .bool dn, .int .i64 size, .slice da (ob data).length dc, .slice e.a ((xs.take (i + 1)).map objName).length e.c], 5, true⟩)) (nx + 8 + 11 + 7 + pickK v 5 + 3) := (Frm.refl _ hB _).put (.inl rfl) (by omega)
    have dC := dB.fr (av_es dB tB (by omega)) fC
    have uC : OwnSl (hB.put tb (some ⟨[.int .i64 code, .bool dn, .int .i64 size, .slice da (ob data).length dc, .slice e.a ((xs.take (i + 1)).map objName).length e.c], 5, true⟩)) nx0 (nx + 8 + 11 + 7 + pickK v 5 + 3) e.a ((xs.take (i + 1)).map objName).length 1 (((xs.take (i + 1)).map objName).map AV.str) := by
      have nB := own_ne f3 tB (by decide)
      refine ⟨f3.1, ?_⟩
      rcases f3.2 with q | ⟨z, q1, q2, q3, q4⟩
      · exact .inl q
      · exact .inr ⟨z, q1, q2, by omega, (put_ne (fun q => nB ⟨0, by rw [q1, q]⟩)).trans q4⟩
    obtain ⟨h', nx', ea', ec', k1, k2, k3, k4, k5, k6⟩ := told_names hm Y lf nc tb nx0 nx1 k n0 (i + 1) (nx + 8 + 11 + 7 + pickK v 5 + 3) _ e.a e.c (by omega) (by omega) h0 (by omega) h2 (put_same _ _ _) dC (fun hn p ep q => by
      rcases a2 _ q with q | q
      · exact dv hn p ep q
      · obtain ⟨p', _, e1, e2, _⟩ := d.2 0 hn
        rw [ep] at e1; obtain rfl := Option.some.inj e1
        omega) uC (x.ext ⟨Nat.le_refl _, fun j hj => (put_ne (by omega)).trans (oB j (by omega))⟩)
    exact ⟨h', nx', ea', ec', k1, fun j hj => (k2 j hj).trans ((put_ne (by omega)).trans (oB j hj)), by omega, k4, k5, k6⟩
end Go.Proofs.YtahilinkfnchaaaDoor.T

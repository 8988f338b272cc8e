/- All cliffs with claimed delays: the program's answer is the document's. -/
import Derived.Test.YtdgibokmaannjaaM17
set_option linter.unusedVariables false
set_option linter.unusedSimpArgs false
namespace Go.Proofs.Ytdgibokmaannjaa
open Go Go.Pv Classical

set_option maxRecDepth 1000000 in
theorem cl87 {m : Nat} (h : tri m = true) (h0 : ¬ m = 0) : ∃ n : Nat, n ≤ 4 ∧ implf87 5000 (m : Int) = some ((n : Int) + 2) ∧ 2 * m = (n + 2) * (n + 1) := by
  have : m = 1 ∨ m = 3 ∨ m = 6 ∨ m = 10 ∨ m = 15 := by
    simp only [tri, Bool.or_eq_true, beq_iff_eq] at h
    omega
  rcases this with rfl | rfl | rfl | rfl | rfl
  · exact ⟨0, by decide, by kernel_rfl, rfl⟩
  · exact ⟨1, by decide, by kernel_rfl, rfl⟩
  · exact ⟨2, by decide, by kernel_rfl, rfl⟩
  · exact ⟨3, by decide, by kernel_rfl, rfl⟩
  · exact ⟨4, by decide, by kernel_rfl, rfl⟩
theorem rowOf_rng {l : List Int} {L : Int} {n : Nat} {x : List Int} (h : RowOf l L n x) (hL : 0 < L) : ∀ i, i < x.length → 0 ≤ x.getD i 0 ∧ x.getD i 0 < L
  | 0, _ => by rw [h.2.1]; exact ⟨Int.le_refl _, hL⟩
  | i + 1, hi => by
    have h1 := rowOf_rng h hL i (by omega)
    have h2 := h.2.2.1 i hi
    have h3 := (h.2.2.2 i hi).2
    omega
theorem row_V {l : List Int} {L : Int} {n : Nat} {x : List Int} (h : RowOf l L n x) (hn : n ≤ 4) (hL : 1 ≤ L ∧ L ≤ 60) : V (x ++ [L]) := by
  have hl := h.1
  have hr := rowOf_rng h (by omega)
  have hlen : (x ++ [L]).length = n + 2 := by rw [List.length_append, hl]; rfl
  refine ⟨by rw [hlen]; omega, fun i _ hi => ⟨?_, fun h0 => ?_⟩, ?_⟩
  · rw [getD_snoc]
    split
    · have := hr i (by assumption); omega
    · split
      · omega
      · omega
  · rw [hlen] at hi
    rw [getD_snoc, getD_snoc, if_pos (by omega)]
    split
    · have := h.2.2.1 (i - 1) (by omega)
      rwa [show i - 1 + 1 = i by omega] at this
    · rw [if_pos (by omega)]
      exact (hr (i - 1) (by omega)).2
  · rw [hlen, getD_snoc, getD_snoc, if_neg (by omega), if_pos (by omega), if_pos (by omega), h.2.1]
    omega
theorem nrm_fst {c : List Int} (h : V c) : (nrm c).getD 0 0 = 0 := by
  have hp := h.pos
  have hz : (zer c).getD 0 0 = 0 := by rw [zer_get hp, Int.sub_self]
  unfold nrm
  split
  · rw [mir_get (by rw [zer_len]; exact hp)]
    unfold mirF
    rw [Nat.sub_zero]
    omega
  · exact hz
/-- A normal row with these delays is one of the document's rows. -/
theorem row_of {l r : List Int} {L : Int} {n : Nat} (hV : V r) (hD : D r = l) (hN : nrm r = r) (h0 : ¬ l.length = 0) (hL : L = l.getD (l.length - 1) 0) (hn : n ≤ 4) (hc : 2 * l.length = (n + 2) * (n + 1)) : r.length = n + 2 ∧ ∃ x, RowOf l L n x ∧ r = x ++ [L] := by
  have h2 := D_two r
  rw [hD] at h2
  have h6 := hV.1
  have hlen : r.length = n + 2 := by
    have hr : r.length = 1 ∨ r.length = 2 ∨ r.length = 3 ∨ r.length = 4 ∨ r.length = 5 ∨ r.length = 6 := by omega
    have hn5 : n = 0 ∨ n = 1 ∨ n = 2 ∨ n = 3 ∨ n = 4 := by omega
    rcases hr with e | e | e | e | e | e <;> rcases hn5 with e2 | e2 | e2 | e2 | e2 <;> rw [e] at h2 <;> rw [e2] at hc <;> omega
  have hf : r.getD 0 0 = 0 := by rw [← hN]; exact nrm_fst hV
  have hs := (D_last hV (by rw [hD]; exact h0)).1
  rw [hD, ← hL] at hs
  have hlast : r.getD (n + 1) 0 = L := by
    have : sp r = r.getD (r.length - 1) 0 - r.getD 0 0 := rfl
    rw [hf, hlen, show n + 2 - 1 = n + 1 by omega] at this
    omega
  have hi2 := hV.inc2
  have hg : ∀ i, i < n + 1 → (r.take (n + 1)).getD i 0 = r.getD i 0 := fun i hi => by
    rw [List.getD_eq_getElem?_getD, List.getD_eq_getElem?_getD, List.getElem?_take, if_pos hi]
  have htl : (r.take (n + 1)).length = n + 1 := by rw [List.length_take]; omega
  refine ⟨hlen, r.take (n + 1), ⟨htl, by rw [hg 0 (by omega)]; exact hf, fun i hi => ?_, fun i hi => ?_⟩, ?_⟩
  · rw [htl] at hi
    rw [hg i (by omega), hg (i + 1) hi]
    exact hi2 i (i + 1) (by omega) (by omega)
  · rw [htl] at hi
    rw [hg (i + 1) hi]
    have hpos := hi2 0 (i + 1) (by omega) (by omega)
    rw [hf] at hpos
    refine ⟨?_, by rw [← hlast]; exact hi2 (i + 1) (n + 1) hi (by omega)⟩
    rw [← hD]
    exact (mem_D hV).2 ⟨hpos, _, getD_mem 0 (show i + 1 < r.length by omega), _, getD_mem 0 (show 0 < r.length by omega), by rw [hf]; omega⟩
  · have := take_getD (w := r) 0 (show n + 1 < r.length by omega)
    rw [hlast, show n + 1 + 1 = r.length by omega, List.take_length] at this
    exact this
theorem all_asc {all : List (List Int)} {m : Nat} (h1 : all.Pairwise fun a b => leL a b = true) (h2 : all.Nodup) (h3 : ∀ r ∈ all, r.length = m) : all.Pairwise ltL := by
  have h4 : all.Pairwise fun a b => leL a b = true ∧ a ≠ b := List.pairwise_and_iff.2 ⟨h1, h2⟩
  refine h4.imp_of_mem fun {a b} ha hb h => lt_of_le (by rw [h3 a ha, h3 b hb]) ?_ h.2
  have := h.1
  unfold leL at this
  exact of_decide_eq_true this
/-- Does the document keep this row? -/
noncomputable def keepR (l r : List Int) : Bool := decide (D r = l) && decide (nrm r = r)
theorem w54_0 (l : List Int) (rows : List (List Int)) (hl : l.length ≤ 15) (hr : rows.length ≤ 1365) (hV : ∀ r ∈ rows, V r) : impll54_0 5000 5000 l rows [] 0 = some (rows.filter (keepR l), (rows.length : Int), ()) := by
  have hh := upto (fun k (s : List (List Int) × Nat) => impll54_0 5000 k l rows s.1 (s.2 : Int)) (fun j => ((rows.take j).filter (keepR l), j)) rows.length (rows.filter (keepR l), (rows.length : Int), ())
    (fun k j hj => by
      show impll54_0 5000 (k + 1) l rows ((rows.take j).filter (keepR l)) (j : Int) = impll54_0 5000 k l rows ((rows.take (j + 1)).filter (keepR l)) ((j + 1 : Nat) : Int)
      obtain ⟨r, hrr⟩ : ∃ r, r = rows.getD j [] := ⟨_, rfl⟩
      have hVr : V r := hV r (by rw [hrr]; exact getD_mem [] hj)
      have hlr := hVr.1.2
      have hDl := D_len hlr
      have hle : ((rows.take j).filter (keepR l)).length ≤ 1365 := Nat.le_trans (List.length_filter_le _ _) (by rw [List.length_take]; omega)
      rw [take_getD [] hj, List.filter_append, ← hrr]
      rw [impll54_0, implb54_0, cdec, if_pos (by omega), if_pos ⟨by omega, by omega⟩, Int.toNat_natCast, ← hrr, w71 r hlr hVr.B, obS, w24 _ _ (by omega), obS]
      by_cases g1 : D r = l
      · rw [decide_eq_true g1, cond_true, if_pos ⟨by omega, by omega⟩, w66 r hVr, obS, if_pos ⟨by omega, by omega⟩, w24 _ _ (by rw [nrm_len]; omega), obS]
        by_cases g2 : nrm r = r
        · have hk : keepR l r = true := by unfold keepR; rw [decide_eq_true g1, decide_eq_true g2]; rfl
          rw [decide_eq_true g2, cond_true, if_pos ⟨by omega, by omega⟩, one1L, if_pos (by simp only [List.length_singleton]; omega), wrapS (by omega), List.filter_cons, if_pos hk]
          rfl
        · have hk : ¬ keepR l r = true := by unfold keepR; rw [decide_eq_false g2, Bool.and_false]; decide
          rw [decide_eq_false g2, cond_false, wrapS (by omega), List.filter_cons, if_neg hk, List.filter_nil, List.append_nil]
      · have hk : ¬ keepR l r = true := by unfold keepR; rw [decide_eq_false g1, Bool.false_and]; decide
        rw [decide_eq_false g1, cond_false, wrapS (by omega), List.filter_cons, if_neg hk, List.filter_nil, List.append_nil])
    (fun k => by
      show impll54_0 5000 (k + 1) l rows ((rows.take rows.length).filter (keepR l)) (rows.length : Int) = _
      rw [impll54_0, implb54_0, cdec, if_neg (by omega), List.take_length]) 5000 0 (by omega) (Nat.zero_le _)
  exact hh
theorem nrm0 : nrm [0] = [0] := by
  unfold nrm
  split
  · rfl
  · rfl
/-- The document's answer is the program's. -/
theorem w54 (l : List Int) (h : dErr l = 0) {all : List (List Int)} (a1 : all.Pairwise fun a b => leL a b = true) (a2 : all.Nodup) (a3 : ∀ r ∈ all, ∃ x, V x ∧ r = nrm x ∧ D x = l) (a4 : ∀ z, V z → D z = l → nrm z ∈ all) : implf54 5000 l = some (all, 0) := by
  obtain ⟨hl, ht, hA, h6⟩ := dErr_ok h
  have b3 : ∀ r ∈ all, V r ∧ D r = l ∧ nrm r = r := fun r hr => by
    obtain ⟨x, x1, rfl, x3⟩ := a3 r hr
    exact ⟨x1.nrm, (D_nrm x1).trans x3, nrm_nrm x1⟩
  unfold implf54
  rw [w73 l (by omega), obS, h, ibne, cnot, cdec, if_pos rfl, ibeq, cdec]
  by_cases h0 : l.length = 0
  · rw [if_pos (by omega)]
    obtain rfl : l = [] := List.eq_nil_of_length_eq_zero h0
    have hone : ∀ r ∈ all, r = [0] := fun r hr => by
      obtain ⟨h1, h2, h3⟩ := b3 r hr
      have h4 := zer_one (one_D h1 (by rw [h2]; rfl))
      rw [← h3, ← nrm_zer h1.pos, h4, nrm0]
    have e : all = [[0]] := asc_unique ltL_asym (all_asc (m := 1) a1 a2 (fun r hr => by rw [hone r hr]; rfl)) (List.pairwise_singleton _ _) fun x => ⟨fun hx => List.mem_singleton.2 (hone x hx), fun hx => by
      rw [List.mem_singleton.1 hx]
      have := a4 [0] V0 D0
      rwa [nrm0] at this⟩
    rw [e]; rfl
  · obtain ⟨n, hn, h87, hc⟩ := cl87 ht h0
    obtain ⟨L, hL⟩ : ∃ L, L = l.getD (l.length - 1) 0 := ⟨_, rfl⟩
    have hLb : 1 ≤ L ∧ L ≤ 60 := h6 L (by rw [hL]; exact getD_mem 0 (by omega))
    obtain ⟨res, r1, r2, r3, r4, r5⟩ := rows_ok hA hl hn L
    have hwn : IntKind.i64.wrap ((n : Int) + 2 - 2) = (n : Int) := by rw [wrapI (by omega) (by omega)]; omega
    have h87' : implf87 5000 (Int.ofNat l.length) = some ((n : Int) + 2) := h87
    rw [if_neg (by omega), show ((l.length : Nat) : Int) = Int.ofNat l.length from rfl, h87', obS, show Int.ofNat l.length = ((l.length : Nat) : Int) from rfl, wrapP (by omega) (by omega), if_pos ⟨by omega, by omega⟩, Int.toNat_natCast, ← hL, hwn]
    unfold implf64a
    rw [r1, obS, w54_0 l _ hl (by rw [List.length_map]; exact r5) (fun r hr => by
      obtain ⟨x, hx, rfl⟩ := List.mem_map.1 hr
      exact row_V ((r2 x).1 hx) hn hLb), obS]
    have hrows : (res.map fun r => r ++ [L]).Pairwise ltL := by
      rw [List.pairwise_map]
      exact r3.imp_of_mem fun {a b} ha hb hab => ltL_app _ _ (by rw [r4 a ha, r4 b hb]) hab
    have e : (res.map fun r => r ++ [L]).filter (keepR l) = all := by
      refine asc_unique ltL_asym (hrows.sublist List.filter_sublist) (all_asc (m := n + 2) a1 a2 (fun r hr => by
        obtain ⟨h1, h2, h3⟩ := b3 r hr
        exact (row_of h1 h2 h3 h0 hL hn hc).1)) fun x => ?_
      rw [List.mem_filter]
      constructor
      · rintro ⟨hx, hk⟩
        obtain ⟨y, hy, rfl⟩ := List.mem_map.1 hx
        unfold keepR at hk
        rw [Bool.and_eq_true] at hk
        have k1 := of_decide_eq_true hk.1
        have k2 := of_decide_eq_true hk.2
        rw [← k2]
        exact a4 _ (row_V ((r2 y).1 hy) hn hLb) k1
      · intro hx
        obtain ⟨h1, h2, h3⟩ := b3 x hx
        obtain ⟨y, hy, rfl⟩ := (row_of h1 h2 h3 h0 hL hn hc).2
        exact ⟨List.mem_map.2 ⟨y, (r2 y).2 hy, rfl⟩, by unfold keepR; rw [decide_eq_true h2, decide_eq_true h3]; rfl⟩
    rw [e]
theorem w57s (x : List (List Int)) (hx : x.length ≤ 1365) (hr : ∀ r ∈ x, r.length ≤ 6) : implf57 5000 x x = some true := by
  unfold implf57
  rw [ibne, decide_eq_true rfl, Bool.not_true, cond_false]
  have hh := upto (fun k (j : Nat) => impll57_0 5000 k x x (j : Int)) (fun j => j) x.length (.inl ((x.length : Int), ()))
    (fun k j hj => by
      show impll57_0 5000 (k + 1) x x (j : Int) = impll57_0 5000 k x x ((j + 1 : Nat) : Int)
      have := hr _ (getD_mem [] hj)
      rw [impll57_0, implb57_0, cdec, if_pos (by omega), if_pos ⟨by omega, by omega⟩, if_pos ⟨by omega, by omega⟩, Int.toNat_natCast, w24 _ _ (by omega), obS, decide_eq_true rfl, Bool.not_true, cond_false, wrapS (by omega)])
    (fun k => by
      show impll57_0 5000 (k + 1) x x (x.length : Int) = _
      rw [impll57_0, implb57_0, cdec, if_neg (by omega)]) 5000 0 (by omega) (Nat.zero_le _)
  have hh : impll57_0 5000 5000 x x 0 = _ := hh
  rw [hh]; rfl
theorem w16_0 (l : List Int) (all : List (List Int)) (hx : all.length ≤ 1365) (hr : ∀ r ∈ all, implf34 5000 l r = some 0) : impll16_0 5000 5000 l all 0 = some (.inl ((all.length : Int), ())) :=
  upto (fun k (j : Nat) => impll16_0 5000 k l all (j : Int)) (fun j => j) all.length (.inl ((all.length : Int), ()))
    (fun k j hj => by
      show impll16_0 5000 (k + 1) l all (j : Int) = impll16_0 5000 k l all ((j + 1 : Nat) : Int)
      rw [impll16_0, implb16_0, cdec, if_pos (by omega), if_pos ⟨by omega, by omega⟩, Int.toNat_natCast, hr _ (getD_mem [] hj), obS, ibne, decide_eq_true rfl, Bool.not_true, cond_false, wrapS (by omega)])
    (fun k => by
      show impll16_0 5000 (k + 1) l all (all.length : Int) = _
      rw [impll16_0, implb16_0, cdec, if_neg (by omega)]) 5000 0 (by omega) (Nat.zero_le _)
theorem finds_all (l : List Int) : implf16 5000 l = some true := by
  unfold implf16
  rw [long1, obS, cdec]
  by_cases hl : 100 < l.length
  · rw [if_pos hl, sane5]; rfl
  · rw [if_neg hl]
    by_cases h : dErr l = 0
    · have hl15 := (dErr_ok h).1
      obtain ⟨all, a37, a55, al, a1, a2, a3, a4⟩ := all3 l h
      have h54 := w54 l h a1 a2 a3 a4
      have b3 : ∀ r ∈ all, V r ∧ D r = l := fun r hr => by
        obtain ⟨x, x1, rfl, x3⟩ := a3 r hr
        exact ⟨x1.nrm, (D_nrm x1).trans x3⟩
      have h6 : ∀ r ∈ all, r.length ≤ 6 := fun r hr => (b3 r hr).1.1.2
      have hg6 : (all.getD 0 []).length ≤ 1000 := by
        by_cases h0 : 0 < all.length
        · have := h6 _ (getD_mem [] h0); omega
        · rw [List.eq_nil_of_length_eq_zero (show all.length = 0 by omega)]; exact Nat.zero_le _
      have h56 : implf56 5000 l = some (all.getD 0 [], decide (0 < all.length), 0) := by
        unfold implf56
        rw [h54, obS, ibeq, cdec]
        by_cases h0 : all.length = 0
        · rw [if_pos (by show (all.length : Int) = 0; omega), List.eq_nil_of_length_eq_zero h0]; rfl
        · rw [if_neg (by show ¬ (all.length : Int) = 0; omega), if_pos ⟨by omega, by show (0 : Int) < (all.length : Int); omega⟩, decide_eq_true (by omega)]
      have h34 : ∀ r ∈ all, implf34 5000 l r = some 0 := fun r hr => by
        obtain ⟨hV, hD⟩ := b3 r hr
        have hDl := D_len hV.1.2
        unfold implf34
        rw [w72 l (by omega), obS, h]
        simp only [ibne, decide_true, Bool.not_true, cond_false]
        rw [w32 r (by have := hV.1.2; omega), obS, v_err.2 hV]
        simp only [decide_true, Bool.not_true, cond_false]
        rw [w70 r hV.1.2 hV.B, obS, w69 _ _ (by omega), obS, decide_eq_true hD]; rfl
      rw [a37, obS, h54, obS, a55, obS, h56, obS, w57s all (by omega) h6, obS]
      simp only [ibne, decide_true, Bool.not_true, cond_false]
      rw [w24 _ _ hg6, obS]
      simp only [decide_true, Bool.not_true, cond_false]
      rw [show (!(decide (0 < all.length) == decide (0 < all.length))) = false by cases decide (0 < all.length) <;> rfl, cond_false, w16_0 l all (by omega) h34, obS]
      rw [sane5]; rfl
    · have e37 : implf37 5000 l = some ([], dErr l) := by unfold implf37; rw [w72 l (by omega), obS, ibne, cnot, cdec, if_neg h]
      have e54 : implf54 5000 l = some ([], dErr l) := by unfold implf54; rw [w73 l (by omega), obS, ibne, cnot, cdec, if_neg h]
      have e55 : implf55 5000 l = some ([], false, dErr l) := by unfold implf55; rw [w72 l (by omega), obS, ibne, cnot, cdec, if_neg h]
      have e56 : implf56 5000 l = some ([], false, dErr l) := by unfold implf56; rw [e54, obS]; rfl
      rw [e37, obS, e54, obS, e55, obS, e56, obS, w57s [] (by simp) (fun r hr => by cases hr), obS]
      simp only [ibne, decide_true, Bool.not_true, cond_false]
      rw [w24 _ _ (by simp), obS]
      simp only [decide_true, Bool.not_true, cond_false]
      rw [show (!(false == false)) = false from rfl, cond_false, w16_0 l [] (by simp) (fun r hr => by cases hr), obS]
      rw [sane5]; rfl
end Go.Proofs.Ytdgibokmaannjaa

/- The smallest box and what is reached, with no program in sight. -/
import Derived.Test.YthdmngalhppkcaaPureRelayReaches
import Derived.Test.YthdmngalhppkcaaPureRelayApart
import Derived.Test.YthdmngalhppkcaaPureRelayAnswers
set_option linter.unusedVariables false
set_option linter.unusedSimpArgs false
namespace Go.Proofs.Ythdmngalhppkcaa
open Go Go.Pv Classical

section
variable {b : Bx}
/-- The first of a state's kind. -/
noncomputable def kof (b : Bx) (s : Int) : Int := (kinds b).getD s.toNat 0
theorem eqv_step (hv : V b) {i j : Nat} (hi : i < b.1.length) (hj : j < b.1.length) (h : eqv b i j) {x : Int} (hx : 0 ≤ x ∧ x ≤ 1) : eqv b (nn b i x) (nn b j x) := fun w hw => by
  rw [← out1_cons hv hi hx w, ← out1_cons hv hj hx w]
  exact h (x :: w) fun y hy => (List.mem_cons.1 hy).elim (fun e => by omega) (hw y)
theorem kof_step (hv : V b) {s : Int} (hs : inB b s) {x : Int} (hx : x = 0 ∨ x = 1) : kof b (nx b (kof b s) x) = kof b (nx b s x) := by
  have h1 := hs.1
  have h2 := hs.2
  have hl := kdi_le' (b := b) s.toNat
  have e : kof b s = (kdi b s.toNat : Int) := kinds_get (by omega)
  rw [e]
  have g := eqv_step hv (i := kdi b s.toNat) (j := s.toNat) (by omega) (by omega) (kdi_eqv s.toNat) (x := x) (by omega)
  have l1 := nn_lt hv (i := kdi b s.toNat) (by omega) (x := x) (by omega)
  have l2 := nn_lt hv (i := s.toNat) (by omega) (x := x) (by omega)
  have es : ((s.toNat : Nat) : Int) = s := by omega
  rw [es] at l2
  have k := kdi_of g
  have q1 : (nx b (kdi b s.toNat : Int) x).toNat = nn b (kdi b s.toNat) x := rfl
  have q2 : (nx b s x).toNat = nn b s.toNat x := by show _ = (nx b ((s.toNat : Nat) : Int) x).toNat; rw [es]
  unfold kof
  rw [q1, q2, kinds_get l1.1, kinds_get l2.1, k]
/-- The states of the smallest box: the kinds that are reached. -/
theorem sm_reach (hv : V b) : ∃ F : List Int, F.Nodup ∧ F.length = (sm b).1.length ∧ (∀ a, a ∈ F ↔ ∃ w, wok w ∧ kof b (en b 0 w) = a) ∧ ∀ a ∈ F, Pk b a := by
  have h6 := hv.2.1
  let P : Int → Prop := fun a => Pk b a ∧ ∃ w, wok w ∧ kof b (en b 0 w) = a
  have hc : ∀ a x, P a → (x = 0 ∨ x = 1) → P (nk b a x) := by
    rintro a x ⟨ha, w, hw, e⟩ hx
    refine ⟨nk_P hv ha hx, w ++ [x], fun y hy => ?_, ?_⟩
    · rcases List.mem_append.1 hy with hy | hy
      · exact hw y hy
      · simp only [List.mem_singleton] at hy; omega
    · rw [en_snoc, ← kof_step hv (en_in hv (zero_in hv) hw) hx, e]; rfl
  have h0 : P ((kinds b).getD 0 0) := ⟨kind_P hv (zero_in hv), [], fun y hy => by (cases hy), rfl⟩
  have hI : SI (nk b) (ot b) P 0 [(kinds b).getD 0 0] [] [] :=
    ⟨Nat.zero_le _, by simp, fun a ha => by simp only [List.mem_singleton] at ha; rw [ha]; exact h0, rfl, rfl, fun i a h => absurd h (by omega)⟩
  obtain ⟨t, hs⟩ := sr_spec hc (M := b.1.length) (fun F hn hp => few_P hv F hn fun a ha => (hp a ha).1) 300 0 _ _ _ hI (by omega)
  refine ⟨[(kinds b).getD 0 0] ++ t, hs.nod, hs.hN.symm, fun a => ⟨fun ha => (hs.hp a ha).2, ?_⟩, fun a ha => (hs.hp a ha).1⟩
  rintro ⟨w, hw, rfl⟩
  have key : ∀ (n : Nat) (w : List Int), w.length = n → wok w → kof b (en b 0 w) ∈ [(kinds b).getD 0 0] ++ t := by
    intro n
    induction n with
    | zero =>
      intro w hl _
      have : w = [] := List.eq_nil_of_length_eq_zero hl
      subst this
      exact List.mem_append_left _ (List.mem_singleton.2 rfl)
    | succ n ih =>
      intro w hl hw
      rcases List.eq_nil_or_concat w with rfl | ⟨w', x, rfl⟩
      · simp at hl
      · rw [List.concat_eq_append] at hl hw ⊢
        obtain ⟨hw', hx⟩ := wok_snoc hw
        have hm := ih w' (by simp at hl; omega) hw'
        obtain ⟨i, hi, e⟩ := List.mem_iff_getElem.1 hm
        obtain ⟨r0, r1, -⟩ := hs.row i _ hi (by rw [List.getElem?_eq_getElem hi, e])
        rw [en_snoc, ← kof_step hv (en_in hv (zero_in hv) hw') hx]
        rcases hx with rfl | rfl
        · exact r0
        · exact r1
  exact key _ w rfl hw
/-- All words' states are in the list of what is reached. -/
theorem rch_mem (hv : V b) (s : Int) : s ∈ rch b ↔ ∃ w, wok w ∧ en b 0 w = s := by
  obtain ⟨hB, -⟩ := wds_spec hv
  unfold rch
  rw [(isort_perm (le := leI) ((wds b).map (nd1 b))).mem_iff, List.mem_map]
  constructor
  · rintro ⟨u, hu, e⟩; exact ⟨u, hB.wk u hu, e⟩
  · rintro ⟨w, hw, rfl⟩
    obtain ⟨u, hu, e⟩ := hB.all (nd1_step b) w.length w rfl hw
    exact ⟨u, hu, e⟩
theorem rch_len (b : Bx) (hv : V b) : (rch b).length ≤ 6 := by
  have h := rchC_len b
  unfold rchC at h
  rw [if_pos hv] at h
  exact h
/-- No more kinds than states. -/
theorem sm_le_rch (hv : V b) : (sm b).1.length ≤ (rch b).length := by
  obtain ⟨F, hn, hl, hF, -⟩ := sm_reach hv
  rw [← hl]
  have h := nodup_le F ((rch b).map (kof b)) hn fun a ha => by
    obtain ⟨w, hw, e⟩ := (hF a).1 ha
    exact List.mem_map.2 ⟨en b 0 w, (rch_mem hv _).2 ⟨w, hw, rfl⟩, e⟩
  rwa [List.length_map] at h
/-- The kinds that are reached, counted. -/
theorem sm_count (hv : V b) : ((List.range' 0 b.1.length).filter fun (i : Nat) => decide (∃ p ∈ rch b, kof b p = (i : Int))).length = (sm b).1.length := by
  obtain ⟨F, hn, hl, hF, hP⟩ := sm_reach hv
  rw [← hl]
  have hlt : ((List.range' 0 b.1.length).filter fun (i : Nat) => decide (∃ p ∈ rch b, kof b p = (i : Int))).Pairwise (· < ·) := (List.pairwise_lt_range' (s := 0) (n := b.1.length)).filter _
  have hp : (((List.range' 0 b.1.length).filter fun (i : Nat) => decide (∃ p ∈ rch b, kof b p = (i : Int))).map fun (i : Nat) => (i : Int)).Perm F := by
    refine (List.perm_ext_iff_of_nodup (pair_map (fun a c g => by show ((a : Int)) ≠ (c : Int); omega) hlt) hn).2 fun x => ?_
    rw [List.mem_map, hF]
    constructor
    · rintro ⟨i, hi, rfl⟩
      obtain ⟨-, hi⟩ := List.mem_filter.1 hi
      obtain ⟨p, hp, e⟩ := of_decide_eq_true hi
      obtain ⟨w, hw, rfl⟩ := (rch_mem hv p).1 hp
      exact ⟨w, hw, e⟩
    · rintro ⟨w, hw, rfl⟩
      have hin := (hP _ ((hF _).2 ⟨w, hw, rfl⟩)).1
      have h1 := hin.1
      have h2 := hin.2
      exact ⟨(kof b (en b 0 w)).toNat, List.mem_filter.2 ⟨List.mem_range'_1.2 (by omega), decide_eq_true ⟨en b 0 w, (rch_mem hv _).2 ⟨w, hw, rfl⟩, by omega⟩⟩, by omega⟩
  have := hp.length_eq
  rwa [List.length_map] at this
/-- A smallest box: every state is reached, and each is of a kind of its own. -/
theorem tight (hv : V b) (he : sm b = b) {i : Nat} (hi : i < b.1.length) : kdi b i = i ∧ ∃ w, wok w ∧ en b 0 w = (i : Int) := by
  obtain ⟨F, hn, hl, hF, hP⟩ := sm_reach hv
  rw [he] at hl
  have hall : ∀ j : Nat, j < b.1.length → (j : Int) ∈ F := by
    intro j hj
    apply Classical.byContradiction
    intro hm
    have h := nodup_le ((j : Int) :: F) (ids b.1.length) (List.nodup_cons.2 ⟨hm, hn⟩) fun x hx => by
      rcases List.mem_cons.1 hx with rfl | hx
      · exact List.mem_map.2 ⟨j, List.mem_range.2 hj, rfl⟩
      · have h := (hP x hx).1
        have h1 := h.1
        have h2 := h.2
        exact List.mem_map.2 ⟨x.toNat, List.mem_range.2 (by omega), by show ((x.toNat : Nat) : Int) = x; omega⟩
    simp [ids] at h
    omega
  have hk : ∀ j : Nat, j < b.1.length → kof b (j : Int) = (j : Int) := fun j hj => (hP _ (hall j hj)).2
  constructor
  · have h := hk i hi
    have e : kof b (i : Int) = (kdi b i : Int) := kinds_get hi
    omega
  · obtain ⟨w, hw, e⟩ := (hF _).1 (hall i hi)
    have hin := en_in hv (zero_in hv) hw
    have h1 := hin.1
    have h2 := hin.2
    refine ⟨w, hw, ?_⟩
    have h := hk (en b 0 w).toNat (by omega)
    have e2 : (((en b 0 w).toNat : Nat) : Int) = en b 0 w := by omega
    rw [e2] at h
    rw [← h]; exact e
theorem tight_tell (hv : V b) (he : sm b = b) {i j : Nat} (hi : i < b.1.length) (hj : j < i) : apart b (i : Int) (j : Int) = ((tell b b i j).1, true, 0) := by
  unfold apart
  rw [if_pos hv, if_pos ⟨⟨by omega, by omega⟩, ⟨by omega, by omega⟩⟩]
  have h : (tell b b i j).2 = true := by
    cases h : (tell b b i j).2 with
    | true => rfl
    | false =>
      have g := kdi_of ((told hv hi (by omega)).1 h)
      have g1 := (tight hv he hi).1
      have g2 := (tight hv he (show j < b.1.length by omega)).1
      omega
  rw [h]
theorem tight_to (hv : V b) (he : sm b = b) {i : Nat} (hi : i < b.1.length) : ∃ w, tow b (i : Int) = (w, true, 0) := by
  unfold tow
  rw [if_pos hv, if_pos (by omega)]
  obtain ⟨-, h2⟩ := find_to hv (i : Int)
  cases hb : bfs (nd1 b) (fun p => p = (i : Int)) 300 0 [[]] with
  | some w => exact ⟨w, rfl⟩
  | none =>
    obtain ⟨w, hw, e⟩ := (tight hv he hi).2
    obtain ⟨u, hu, e2⟩ := (wds_spec hv).1.all (nd1_step b) w.length w rfl hw
    exact absurd ⟨u, hu, e2.trans e⟩ (h2 hb).1
end
theorem told_alike {A B : Bx} (hA : V A) (hB : V B) : decide (sm A = sm B) = !(tell A B 0 0).2 := by
  cases h : (tell A B 0 0).2 with
  | false =>
    obtain ⟨-, g⟩ := tell_false hA hB (zero_in hA) (zero_in hB) h
    exact decide_eq_true ((sm_iff hA hB).2 fun w hw => g w hw)
  | true =>
    obtain ⟨g1, g2, -⟩ := tell_true hA hB (zero_in hA) (zero_in hB) h
    exact decide_eq_false fun e => g2 ((sm_iff hA hB).1 e _ g1)
theorem told_short {A B : Bx} (hA : V A) (hB : V B) (h : (tell A B 0 0).2 = true) : (tell A B 0 0).1.length < (sm A).1.length + (sm B).1.length := by
  obtain ⟨g1, g2, g3⟩ := tell_true hA hB (zero_in hA) (zero_in hB) h
  have hA' := v_sm hA
  have hB' := v_sm hB
  obtain ⟨u, u1, u2, u3⟩ := short2 hA' hB' (zero_in hA') (zero_in hB') g1 (by rw [sm_alike hA _ g1, sm_alike hB _ g1]; exact g2)
  rw [sm_alike hA _ u1, sm_alike hB _ u1] at u2
  have := g3 u u1 u2
  omega
theorem ans_sm {A : Bx} (hA : V A) {w : List Int} (hw : wok w) : ans A w = ans (sm A) w := by
  apply Classical.byContradiction
  intro h
  obtain ⟨i, -, h⟩ := ans_ne h
  exact h (sm_alike hA _ (wok_take hw i)).symm
end Go.Proofs.Ythdmngalhppkcaa

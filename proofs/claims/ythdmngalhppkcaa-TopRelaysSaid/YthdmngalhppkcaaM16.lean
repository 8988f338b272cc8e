/- The smallest box, with no program in sight: a search that numbers what it finds. -/
import Derived.Test.YthdmngalhppkcaaM13
set_option linter.unusedVariables false
set_option linter.unusedSimpArgs false
namespace Go.Proofs.Ythdmngalhppkcaa
open Go Go.Pv Classical

section
variable {α β : Type}
noncomputable def ins (F : List α) (q : α) : List α := if q ∈ F then F else F ++ [q]
noncomputable def ix : List α → α → Nat
  | [], _ => 0
  | y :: l, q => if y = q then 0 else ix l q + 1
noncomputable def sr (nxt : α → Int → α) (o : α → Int) : Nat → Nat → List α → List (List Int) → List Int → List (List Int) × List Int
  | 0, _, _, N, O => (N, O)
  | f + 1, k, F, N, O => match F[k]? with
    | none => (N, O)
    | some a => sr nxt o f (k + 1) (ins (ins F (nxt a 0)) (nxt a 1))
        (N ++ [[((ix (ins F (nxt a 0)) (nxt a 0) : Nat) : Int), ((ix (ins (ins F (nxt a 0)) (nxt a 1)) (nxt a 1) : Nat) : Int)]]) (O ++ [o a])

theorem ins_pre (F : List α) (q : α) : ∃ t, ins F q = F ++ t := by
  unfold ins
  split
  · exact ⟨[], by simp⟩
  · exact ⟨[q], rfl⟩
theorem ins_mem (F : List α) (q : α) : q ∈ ins F q := by
  unfold ins
  split
  · assumption
  · simp
theorem ins_of {F : List α} {q a : α} (h : a ∈ ins F q) : a ∈ F ∨ a = q := by
  unfold ins at h
  split at h
  · exact .inl h
  · simpa using h
theorem ins_nodup {F : List α} {q : α} (h : F.Nodup) : (ins F q).Nodup := by
  unfold ins
  split
  · exact h
  · rename_i hq
    rw [List.nodup_append]
    refine ⟨h, by simp, ?_⟩
    intro a ha b hb e
    simp only [List.mem_singleton] at hb
    subst hb e
    exact hq ha
theorem ins_len (F : List α) (q : α) : F.length ≤ (ins F q).length ∧ (ins F q).length ≤ F.length + 1 := by
  unfold ins
  split <;> simp
theorem ix_spec : ∀ {F : List α} {q : α}, q ∈ F → F[ix F q]? = some q
  | [], q, h => by cases h
  | y :: l, q, h => by
    rw [ix]
    by_cases e : y = q
    · rw [if_pos e, e]; rfl
    · rw [if_neg e]
      have hq : q ∈ l := (List.mem_cons.1 h).resolve_left fun g => e g.symm
      rw [List.getElem?_cons_succ]
      exact ix_spec hq
theorem ix_app : ∀ {F : List α} {q : α} (t : List α), q ∈ F → ix (F ++ t) q = ix F q
  | [], q, t, h => by cases h
  | y :: l, q, t, h => by
    rw [List.cons_append, ix, ix]
    by_cases e : y = q
    · rw [if_pos e, if_pos e]
    · rw [if_neg e, if_neg e]
      have hq : q ∈ l := (List.mem_cons.1 h).resolve_left fun g => e g.symm
      rw [ix_app t hq]
theorem ix_lt {F : List α} {q : α} (h : q ∈ F) : ix F q < F.length := by
  have := ix_spec h
  rcases Nat.lt_or_ge (ix F q) F.length with g | g
  · exact g
  · rw [List.getElem?_eq_none g] at this; cases this

theorem ix_map (φ : α → β) : ∀ (F : List α) (q : α), (∀ a ∈ F, φ a = φ q → a = q) → ix (F.map φ) (φ q) = ix F q
  | [], q, h => rfl
  | y :: l, q, h => by
    rw [List.map_cons, ix, ix]
    by_cases e : y = q
    · rw [if_pos e, if_pos (by rw [e])]
    · rw [if_neg e, if_neg (fun g => e (h y (by simp) g)), ix_map φ l q fun a ha => h a (by simp [ha])]
theorem ins_map (φ : α → β) (F : List α) (q : α) (h : ∀ a ∈ F, φ a = φ q → a = q) : ins (F.map φ) (φ q) = (ins F q).map φ := by
  unfold ins
  by_cases e : q ∈ F
  · rw [if_pos e, if_pos (List.mem_map.2 ⟨q, e, rfl⟩)]
  · rw [if_neg e, if_neg (fun g => by
      obtain ⟨a, ha, g⟩ := List.mem_map.1 g
      rw [h a ha g] at ha
      exact e ha), List.map_append]; rfl

theorem sr_map {nxt : α → Int → α} {o : α → Int} {nxt' : β → Int → β} {o' : β → Int} {P : α → Prop} (φ : α → β) (hinj : ∀ a b, P a → P b → φ a = φ b → a = b)
    (hnx : ∀ a x, P a → (x = 0 ∨ x = 1) → P (nxt a x) ∧ φ (nxt a x) = nxt' (φ a) x) (ho : ∀ a, P a → o a = o' (φ a)) :
    ∀ (f k : Nat) (F : List α) (N : List (List Int)) (O : List Int), (∀ a ∈ F, P a) → sr nxt o f k F N O = sr nxt' o' f k (F.map φ) N O
  | 0, k, F, N, O, _ => rfl
  | f + 1, k, F, N, O, hP => by
    rw [sr, sr, List.getElem?_map]
    cases hk : F[k]? with
    | none => rfl
    | some a =>
      have ha : P a := hP a (List.mem_of_getElem? hk)
      obtain ⟨p0, e0⟩ := hnx a 0 ha (.inl rfl)
      obtain ⟨p1, e1⟩ := hnx a 1 ha (.inr rfl)
      have h0 : ∀ c ∈ F, φ c = φ (nxt a 0) → c = nxt a 0 := fun c hc => hinj _ _ (hP c hc) p0
      have hP1 : ∀ c ∈ ins F (nxt a 0), P c := fun c hc => (ins_of hc).elim (hP c) fun e => by rw [e]; exact p0
      have h1 : ∀ c ∈ ins F (nxt a 0), φ c = φ (nxt a 1) → c = nxt a 1 := fun c hc => hinj _ _ (hP1 c hc) p1
      have hP2 : ∀ c ∈ ins (ins F (nxt a 0)) (nxt a 1), P c := fun c hc => (ins_of hc).elim (hP1 c) fun e => by rw [e]; exact p1
      have g0 : ∀ c ∈ ins F (nxt a 0), φ c = φ (nxt a 0) → c = nxt a 0 := fun c hc => hinj _ _ (hP1 c hc) p0
      have g1 : ∀ c ∈ ins (ins F (nxt a 0)) (nxt a 1), φ c = φ (nxt a 1) → c = nxt a 1 := fun c hc => hinj _ _ (hP2 c hc) p1
      show sr nxt o f (k + 1) _ _ _ = sr nxt' o' f (k + 1) _ _ _
      rw [← e0, ← e1, ins_map φ F _ h0, ins_map φ _ _ h1, ix_map φ _ _ g0, ix_map φ _ _ g1, ← ho a ha]
      exact sr_map φ hinj hnx ho f (k + 1) _ _ _ hP2

structure SI (nxt : α → Int → α) (o : α → Int) (P : α → Prop) (k : Nat) (F : List α) (N : List (List Int)) (O : List Int) : Prop where
  hk : k ≤ F.length
  nod : F.Nodup
  hp : ∀ a ∈ F, P a
  hN : N.length = k
  hO : O.length = k
  row : ∀ i a, i < k → F[i]? = some a → nxt a 0 ∈ F ∧ nxt a 1 ∈ F ∧ N[i]? = some [((ix F (nxt a 0) : Nat) : Int), ((ix F (nxt a 1) : Nat) : Int)] ∧ O[i]? = some (o a)

theorem SI.next {nxt : α → Int → α} {o : α → Int} {P : α → Prop} (hc : ∀ a x, P a → (x = 0 ∨ x = 1) → P (nxt a x)) {k : Nat} {F : List α} {N : List (List Int)} {O : List Int} (h : SI nxt o P k F N O) {a : α} (ha : F[k]? = some a) :
    SI nxt o P (k + 1) (ins (ins F (nxt a 0)) (nxt a 1)) (N ++ [[((ix (ins F (nxt a 0)) (nxt a 0) : Nat) : Int), ((ix (ins (ins F (nxt a 0)) (nxt a 1)) (nxt a 1) : Nat) : Int)]]) (O ++ [o a]) := by
  have hk : k < F.length := by
    rcases Nat.lt_or_ge k F.length with g | g
    · exact g
    · rw [List.getElem?_eq_none g] at ha; cases ha
  have hPa : P a := h.hp a (List.mem_of_getElem? ha)
  obtain ⟨t, ht⟩ := ins_pre F (nxt a 0)
  obtain ⟨t', ht'⟩ := ins_pre (ins F (nxt a 0)) (nxt a 1)
  have l1 := ins_len F (nxt a 0)
  have l2 := ins_len (ins F (nxt a 0)) (nxt a 1)
  have hm0 := ins_mem F (nxt a 0)
  have hm1 := ins_mem (ins F (nxt a 0)) (nxt a 1)
  refine ⟨by omega, ins_nodup (ins_nodup h.nod), fun c hc' => ?_, by simp [h.hN], by simp [h.hO], fun i c hi hci => ?_⟩
  · rcases ins_of hc' with hc' | rfl
    · rcases ins_of hc' with hc' | rfl
      · exact h.hp c hc'
      · exact hc a 0 hPa (.inl rfl)
    · exact hc a 1 hPa (.inr rfl)
  · have e : ins (ins F (nxt a 0)) (nxt a 1) = F ++ (t ++ t') := by rw [ht', ht, List.append_assoc]
    have hFi : F[i]? = some c := by
      rw [e, List.getElem?_append_left (by omega)] at hci; exact hci
    rcases Nat.lt_or_ge i k with g | g
    · obtain ⟨r0, r1, r2, r3⟩ := h.row i c g hFi
      refine ⟨by rw [e]; exact List.mem_append_left _ r0, by rw [e]; exact List.mem_append_left _ r1, ?_, ?_⟩
      · rw [List.getElem?_append_left (by rw [h.hN]; exact g), r2, e, ix_app _ r0, ix_app _ r1]
      · rw [List.getElem?_append_left (by rw [h.hO]; exact g), r3]
    · have : i = k := by omega
      subst this
      rw [ha] at hFi
      cases hFi
      refine ⟨by rw [ht']; exact List.mem_append_left _ hm0, hm1, ?_, ?_⟩
      · rw [List.getElem?_append_right (by rw [h.hN]; exact Nat.le_refl _), h.hN, Nat.sub_self, ht', ix_app _ hm0]; rfl
      · rw [List.getElem?_append_right (by rw [h.hO]; exact Nat.le_refl _), h.hO, Nat.sub_self]; rfl

theorem sr_spec {nxt : α → Int → α} {o : α → Int} {P : α → Prop} (hc : ∀ a x, P a → (x = 0 ∨ x = 1) → P (nxt a x)) {M : Nat} (hM : ∀ F : List α, F.Nodup → (∀ a ∈ F, P a) → F.length ≤ M) :
    ∀ (f k : Nat) (F : List α) (N : List (List Int)) (O : List Int), SI nxt o P k F N O → M - k < f →
      ∃ t, SI nxt o P (F ++ t).length (F ++ t) (sr nxt o f k F N O).1 (sr nxt o f k F N O).2
  | 0, k, F, N, O, h, hf => by omega
  | f + 1, k, F, N, O, h, hf => by
    rw [sr]
    cases hk : F[k]? with
    | none =>
      have : k = F.length := by
        have h1 := List.getElem?_eq_none_iff.1 hk
        have h2 := h.hk
        omega
      refine ⟨[], ?_⟩
      rw [List.append_nil, ← this]
      exact h
    | some a =>
      obtain ⟨t, ht⟩ := ins_pre F (nxt a 0)
      obtain ⟨t', ht'⟩ := ins_pre (ins F (nxt a 0)) (nxt a 1)
      have hn := h.next hc hk
      have hl := hM F h.nod h.hp
      have hlt : k < F.length := by
        rcases Nat.lt_or_ge k F.length with g | g
        · exact g
        · rw [List.getElem?_eq_none g] at hk; cases hk
      obtain ⟨t2, h2⟩ := sr_spec hc hM f (k + 1) _ _ _ hn (by omega)
      refine ⟨t ++ t' ++ t2, ?_⟩
      have e : F ++ (t ++ t' ++ t2) = ins (ins F (nxt a 0)) (nxt a 1) ++ t2 := by rw [ht', ht]; simp
      rw [e]
      exact h2
end

section
variable {b : Bx}
noncomputable def nk (b : Bx) (a x : Int) : Int := (kinds b).getD (nx b a x).toNat 0
noncomputable def sm (b : Bx) : Bx := sr (nk b) (ot b) 300 0 [(kinds b).getD 0 0] [] []
/-- A state that is the first of its kind. -/
def Pk (b : Bx) (a : Int) : Prop := inB b a ∧ (kinds b).getD a.toNat 0 = a

theorem eqv_symm {i j : Nat} (h : eqv b i j) : eqv b j i := fun w hw => (h w hw).symm
theorem eqv_trans {i j k : Nat} (h : eqv b i j) (g : eqv b j k) : eqv b i k := fun w hw => (h w hw).trans (g w hw)
theorem kdi_eqv (i : Nat) : eqv b (kdi b i) i := (first_spec (p := fun j => eqv b j i) (fun _ _ => rfl)).1
theorem kdi_le' (i : Nat) : kdi b i ≤ i := (first_spec (p := fun j => eqv b j i) (fun _ _ => rfl)).2.1
theorem kdi_of {i j : Nat} (h : eqv b i j) : kdi b i = kdi b j :=
  first_eq (p := fun m => eqv b m i) (fun _ _ => rfl) (eqv_trans (kdi_eqv j) (eqv_symm h)) fun m hm g =>
    (first_spec (p := fun m => eqv b m j) (fun _ _ => rfl)).2.2 m hm (eqv_trans g h)
theorem kinds_get {i : Nat} (hi : i < b.1.length) : (kinds b).getD i 0 = (kdi b i : Int) := by
  unfold kinds
  simp [List.getD, hi]
theorem kinds_len (b : Bx) : (kinds b).length = b.1.length := by simp [kinds]
theorem kind_P (hv : V b) {s : Int} (hs : inB b s) : Pk b ((kinds b).getD s.toNat 0) := by
  have h1 := hs.1
  have h2 := hs.2
  have hl := kdi_le' (b := b) s.toNat
  rw [kinds_get (by omega)]
  refine ⟨⟨by omega, by omega⟩, ?_⟩
  rw [show ((kdi b s.toNat : Nat) : Int).toNat = kdi b s.toNat from rfl, kinds_get (by omega), kdi_of (kdi_eqv s.toNat)]
theorem nk_P (hv : V b) {a x : Int} (ha : Pk b a) (hx : x = 0 ∨ x = 1) : Pk b (nk b a x) := kind_P hv (nx_in hv ha.1 (by omega))
/-- A state and the first of its kind answer alike. -/
theorem nk_out (hv : V b) {a x : Int} (ha : inB b a) (hx : x = 0 ∨ x = 1) {w : List Int} (hw : wok w) : ot b (en b (nk b a x) w) = ot b (en b (nx b a x) w) := by
  have hn := nx_in hv ha (x := x) (by omega)
  have h1 := hn.1
  have h2 := hn.2
  unfold nk
  rw [kinds_get (by omega)]
  have h := kdi_eqv (b := b) (nx b a x).toNat w hw
  have e : (((nx b a x).toNat : Nat) : Int) = nx b a x := by omega
  unfold out1 at h
  rw [e] at h
  exact h

noncomputable def beh (b : Bx) (a : Int) : List Int → Int := fun w => if wok w then ot b (en b a w) else 0
theorem beh_inj {a c : Int} (ha : Pk b a) (hc : Pk b c) (h : beh b a = beh b c) : a = c := by
  have a1 := ha.1.1
  have a2 := ha.1.2
  have c1 := hc.1.1
  have c2 := hc.1.2
  have : eqv b a.toNat c.toNat := fun w hw => by
    have := congrFun h w
    unfold beh at this
    rw [if_pos hw, if_pos hw] at this
    unfold out1
    have e1 : ((a.toNat : Nat) : Int) = a := by omega
    have e2 : ((c.toNat : Nat) : Int) = c := by omega
    rw [e1, e2]
    exact this
  have g := kdi_of this
  have ea := ha.2
  have ec := hc.2
  rw [kinds_get (by omega)] at ea ec
  omega
theorem beh_nk (hv : V b) {a x : Int} (ha : inB b a) (hx : x = 0 ∨ x = 1) : beh b (nk b a x) = fun w => beh b a (x :: w) := by
  funext w
  unfold beh
  by_cases hw : wok w
  · have hw2 : wok (x :: w) := fun y hy => (List.mem_cons.1 hy).elim (fun e => by omega) (hw y)
    rw [if_pos hw, if_pos hw2, nk_out hv ha hx hw]; rfl
  · rw [if_neg hw, if_neg (fun h : wok (x :: w) => hw fun y hy => h y (by simp [hy]))]
theorem sm_beh (hv : V b) : sm b = sr (fun (β : List Int → Int) x w => β (x :: w)) (fun β => β []) 300 0 [beh b 0] [] [] := by
  have h0 := kind_P hv (zero_in hv)
  have e0 : beh b ((kinds b).getD 0 0) = beh b 0 := by
    rw [kinds_get hv.1]
    funext w
    unfold beh
    by_cases hw : wok w
    · rw [if_pos hw, if_pos hw]; exact kdi_eqv (b := b) 0 w hw
    · rw [if_neg hw, if_neg hw]
  have h := sr_map (P := Pk b) (nxt := nk b) (o := ot b) (nxt' := fun (β : List Int → Int) x w => β (x :: w)) (o' := fun β => β []) (beh b) (fun a c => beh_inj) (fun a x ha hx => ⟨nk_P hv ha hx, beh_nk hv ha.1 hx⟩)
    (fun a ha => by
      show ot b a = if wok [] then ot b (en b a []) else 0
      rw [if_pos (show wok [] from fun y hy => by cases hy)]; rfl) 300 0 [(kinds b).getD 0 0] [] [] (fun a ha => by
      simp only [List.mem_singleton] at ha
      rw [ha]; exact h0)
  unfold sm
  rw [h, List.map_cons, List.map_nil, e0]

def alike (A B : Bx) : Prop := ∀ w, wok w → ot A (en A 0 w) = ot B (en B 0 w)
theorem sm_of {A B : Bx} (hA : V A) (hB : V B) (h : alike A B) : sm A = sm B := by
  have : beh A 0 = beh B 0 := by
    funext w
    unfold beh
    by_cases hw : wok w
    · rw [if_pos hw, if_pos hw]; exact h w hw
    · rw [if_neg hw, if_neg hw]
  rw [sm_beh hA, sm_beh hB, this]

theorem few_P (hv : V b) (F : List Int) (hn : F.Nodup) (hp : ∀ a ∈ F, Pk b a) : F.length ≤ b.1.length := by
  have h := nodup_le F (ids b.1.length) hn (fun x hx => by
    have h := (hp x hx).1
    have h1 := h.1
    have h2 := h.2
    exact List.mem_map.2 ⟨x.toNat, List.mem_range.2 (by omega), by show ((x.toNat : Nat) : Int) = x; omega⟩)
  simpa [ids] using h
theorem SI_first (hv : V b) : SI (nk b) (ot b) (Pk b) 0 [(kinds b).getD 0 0] [] [] where
  hk := Nat.zero_le _
  nod := by simp
  hp := fun a ha => by
    simp only [List.mem_singleton] at ha
    rw [ha]; exact kind_P hv (zero_in hv)
  hN := rfl
  hO := rfl
  row := fun i a h => absurd h (by omega)
theorem sm_spec (hv : V b) : ∃ t, SI (nk b) (ot b) (Pk b) ((kinds b).getD 0 0 :: t).length ((kinds b).getD 0 0 :: t) (sm b).1 (sm b).2 := by
  have h6 := hv.2.1
  exact sr_spec (fun a x ha hx => nk_P hv ha hx) (few_P hv) 300 0 _ _ _ (SI_first hv) (by omega)

theorem sm_nx {F : List Int} (h : SI (nk b) (ot b) (Pk b) F.length F (sm b).1 (sm b).2) {i : Nat} {a : Int} (ha : F[i]? = some a) {x : Int} (hx : x = 0 ∨ x = 1) :
    nx (sm b) i x = ((ix F (nk b a x) : Nat) : Int) ∧ nk b a x ∈ F ∧ ot (sm b) i = ot b a := by
  have hi : i < F.length := by
    rcases Nat.lt_or_ge i F.length with g | g
    · exact g
    · rw [List.getElem?_eq_none g] at ha; cases ha
  obtain ⟨r0, r1, r2, r3⟩ := h.row i a hi ha
  have e : nx (sm b) i x = ([((ix F (nk b a 0) : Nat) : Int), ((ix F (nk b a 1) : Nat) : Int)] : List Int).getD x.toNat 0 := by
    unfold nx
    rw [show ((i : Nat) : Int).toNat = i from rfl, List.getD_eq_getElem?_getD (l := (sm b).1), r2]; rfl
  have eo : ot (sm b) i = ot b a := by
    unfold ot
    rw [show ((i : Nat) : Int).toNat = i from rfl, List.getD_eq_getElem?_getD, r3]; rfl
  rcases hx with rfl | rfl
  · exact ⟨e, r0, eo⟩
  · exact ⟨e, r1, eo⟩

theorem v_sm (hv : V b) : V (sm b) := by
  obtain ⟨t, h⟩ := sm_spec hv
  have hl := few_P hv _ h.nod h.hp
  have h6 := hv.2.1
  have hN := h.hN
  have hO := h.hO
  refine ⟨by rw [hN]; simp, by omega, by rw [hN, hO], fun j hj => ?_⟩
  rw [hN] at hj
  obtain ⟨a, ha⟩ : ∃ a, ((kinds b).getD 0 0 :: t)[j]? = some a := ⟨_, List.getElem?_eq_getElem hj⟩
  obtain ⟨e0, m0, eo⟩ := sm_nx h ha (x := 0) (.inl rfl)
  obtain ⟨e1, m1, _⟩ := sm_nx h ha (x := 1) (.inr rfl)
  have l0 := ix_lt m0
  have l1 := ix_lt m1
  have ho := ot_in hv (h.hp a (List.mem_of_getElem? ha)).1
  unfold good
  rw [e0, e1, eo, hN]
  omega
theorem sm_alike (hv : V b) : alike (sm b) b := by
  obtain ⟨t, h⟩ := sm_spec hv
  have key : ∀ (w : List Int) (i : Nat) (a : Int), wok w → ((kinds b).getD 0 0 :: t)[i]? = some a → ot (sm b) (en (sm b) i w) = ot b (en b a w) := by
    intro w
    induction w with
    | nil => intro i a _ ha; exact (sm_nx h ha (x := 0) (.inl rfl)).2.2
    | cons x w ih =>
      intro i a hw ha
      obtain ⟨hx, hw'⟩ := wok_cons hw
      have hx2 : x = 0 ∨ x = 1 := by omega
      obtain ⟨e, m, _⟩ := sm_nx h ha hx2
      show ot (sm b) (en (sm b) (nx (sm b) i x) w) = ot b (en b (nx b a x) w)
      rw [e, ih _ _ hw' (ix_spec m), nk_out hv (h.hp a (List.mem_of_getElem? ha)).1 hx2 hw']
  intro w hw
  have := key w 0 _ hw rfl
  rw [kinds_get hv.1] at this
  exact this.trans (kdi_eqv (b := b) 0 w hw)
theorem sm_len (hv : V b) : (sm b).1.length ≤ 6 ∧ (sm b).2.length ≤ 6 := by
  have h := v_sm hv
  have h1 := h.2.1
  have h2 := h.2.2.1
  omega
/-- Two boxes answer alike exactly if their smallest boxes are equal. -/
theorem sm_iff {A B : Bx} (hA : V A) (hB : V B) : sm A = sm B ↔ alike A B :=
  ⟨fun e w hw => by rw [← sm_alike hA w hw, ← sm_alike hB w hw, e], sm_of hA hB⟩
theorem sm_sm (hv : V b) : sm (sm b) = sm b := sm_of (v_sm hv) hv (sm_alike hv)
end

end Go.Proofs.Ythdmngalhppkcaa

/- All differences; what leaves the delays as they are. -/
import Derived.Test.YtdgibokmaannjaaM4
set_option linter.unusedVariables false
set_option linter.unusedSimpArgs false
namespace Go.Proofs.Ytdgibokmaannjaa
open Go Go.Pv Classical

theorem fm_congr {α β : Type} {f g : α → List β} : ∀ {l : List α}, (∀ a ∈ l, (f a).Perm (g a)) → (l.flatMap f).Perm (l.flatMap g)
  | [], _ => List.Perm.refl _
  | a :: l, h => by
    rw [List.flatMap_cons, List.flatMap_cons]
    exact (h a (by simp)).append (fm_congr fun b hb => h b (by simp [hb]))
theorem fm_perm {α β : Type} {f : α → List β} {l m : List α} (h : l.Perm m) : (l.flatMap f).Perm (m.flatMap f) := by
  induction h with
  | nil => exact List.Perm.refl _
  | cons a _ ih => rw [List.flatMap_cons, List.flatMap_cons]; exact ih.append_left _
  | swap a b l =>
    simp only [List.flatMap_cons]
    rw [← List.append_assoc, ← List.append_assoc]
    exact List.perm_append_comm.append_right _
  | trans _ _ h1 h2 => exact h1.trans h2
theorem fm_app {α β : Type} {f g : α → List β} : ∀ {l : List α}, (l.flatMap fun a => f a ++ g a).Perm (l.flatMap f ++ l.flatMap g)
  | [] => List.Perm.refl _
  | a :: l => by
    simp only [List.flatMap_cons]
    have ih := fm_app (f := f) (g := g) (l := l)
    have h1 : (f a ++ g a ++ (l.flatMap fun a => f a ++ g a)).Perm (f a ++ g a ++ (l.flatMap f ++ l.flatMap g)) := ih.append_left _
    refine h1.trans ?_
    rw [List.append_assoc, List.append_assoc]
    refine List.Perm.append_left _ ?_
    rw [← List.append_assoc, ← List.append_assoc]
    exact List.perm_append_comm.append_right _
theorem fm_swap {α β γ : Type} {F : α → β → List γ} {m : List β} : ∀ {l : List α}, (l.flatMap fun a => m.flatMap fun b => F a b).Perm (m.flatMap fun b => l.flatMap fun a => F a b)
  | [] => by
    simp only [List.flatMap_nil]
    induction m with
    | nil => exact List.Perm.refl _
    | cons b m ih => simp
  | a :: l => by
    simp only [List.flatMap_cons]
    refine List.Perm.trans ?_ fm_app.symm
    exact (fm_swap (l := l)).append_left _
theorem fm_map {α β γ : Type} (f : α → β) (g : β → List γ) : ∀ l : List α, (l.map f).flatMap g = l.flatMap fun a => g (f a)
  | [] => rfl
  | a :: l => by rw [List.map_cons, List.flatMap_cons, List.flatMap_cons, fm_map f g l]
theorem map_fm {α β : Type} (f : α → β) : ∀ l : List α, l.map f = l.flatMap fun a => [f a]
  | [] => rfl
  | a :: l => by rw [List.map_cons, List.flatMap_cons, map_fm f l]; rfl

/-- All differences. -/
def prs (c : List Int) : List Int := c.flatMap fun a => c.flatMap fun b => [a - b]
def posD (c : List Int) : List Int := (prs c).filter fun n => decide (0 < n)
theorem prs_perm {c d : List Int} (h : c.Perm d) : (prs c).Perm (prs d) := (fm_congr fun a _ => fm_perm h).trans (fm_perm h)
theorem prs_neg (F : Int → Int) (s : Int) (hF : ∀ x, F x = s - x) (c : List Int) : (prs (c.map F)).Perm (prs c) := by
  unfold prs
  rw [fm_map]
  have : (c.flatMap fun a => (c.map F).flatMap fun b => [F a - b]) = c.flatMap fun a => c.flatMap fun b => [b - a] := by
    congr 1; funext a; rw [fm_map]; congr 1; funext b; rw [hF, hF]; congr 1; omega
  rw [this]
  exact fm_swap
theorem rawN_snoc (c : List Int) (z : Int) : ∀ n, n ≤ c.length → rawN (c ++ [z]) n = rawN c n
  | 0, _ => rfl
  | n + 1, h => by
    rw [rawN, rawN, rawN_snoc c z n (by omega), List.take_append_of_le_length (by omega)]
    have : (c ++ [z]).getD n 0 = c.getD n 0 := by simp [List.getD, List.getElem?_append_left (show n < c.length by omega)]
    rw [this]
theorem rawD_snoc (c : List Int) (z : Int) : rawD (c ++ [z]) = rawD c ++ c.map fun k => z - k := by
  unfold rawD
  rw [List.length_append, List.length_singleton, rawN, rawN_snoc c z _ (Nat.le_refl _), List.take_append_of_le_length (Nat.le_refl _), List.take_length, getA]
theorem snocRec {P : List Int → Prop} (h0 : P []) (h1 : ∀ c z, P c → P (c ++ [z])) (c : List Int) : P c := by
  have : ∀ n (c : List Int), c.length = n → P c := by
    intro n
    induction n with
    | zero => intro c h; rw [List.length_eq_zero_iff.1 h]; exact h0
    | succ n ih =>
      intro c h
      have hne : c ≠ [] := by intro e; subst e; simp at h
      rw [← List.dropLast_concat_getLast hne]
      exact h1 _ _ (ih _ (by simp; omega))
  exact this _ c rfl
theorem raw_pos (c : List Int) : c.Pairwise (fun a b => a < b) → (rawD c).Perm (posD c) := by
  induction c using snocRec with
  | h0 => intro _; exact List.Perm.refl _
  | h1 c z ih =>
    intro h
    obtain ⟨hc, _, hz⟩ := List.pairwise_append.1 h
    have hz : ∀ a ∈ c, a < z := fun a ha => hz a ha z (by simp)
    rw [rawD_snoc]
    refine ((ih hc).append_right _).trans ?_
    have hp : (prs (c ++ [z])).Perm (prs c ++ (c.flatMap fun a => [a - z]) ++ ((c.flatMap fun b => [z - b]) ++ [z - z])) := by
      unfold prs
      rw [List.flatMap_append]
      refine List.Perm.append ?_ ?_
      · have : (c.flatMap fun a => (c ++ [z]).flatMap fun b => [a - b]) = c.flatMap fun a => (c.flatMap fun b => [a - b]) ++ [a - z] := by
          congr 1; funext a; rw [List.flatMap_append]; rfl
        rw [this]
        exact fm_app
      · have : ([z].flatMap fun a => (c ++ [z]).flatMap fun b => [a - b]) = (c.flatMap fun b => [z - b]) ++ [z - z] := by
          rw [List.flatMap_cons, List.flatMap_nil, List.append_nil, List.flatMap_append]; rfl
        rw [this]
    have hf := hp.filter (fun n => decide (0 < n))
    refine List.Perm.trans ?_ hf.symm
    rw [List.filter_append, List.filter_append, List.filter_append]
    have e1 : (c.flatMap fun a => [a - z]).filter (fun n => decide (0 < n)) = [] := by
      rw [← map_fm (fun a => a - z), List.filter_eq_nil_iff]
      intro n hn
      obtain ⟨a, ha, rfl⟩ := List.mem_map.1 hn
      have := hz a ha
      simp; omega
    have e2 : (c.flatMap fun b => [z - b]).filter (fun n => decide (0 < n)) = c.map fun b => z - b := by
      rw [← map_fm (fun b => z - b), List.filter_eq_self]
      intro n hn
      obtain ⟨a, ha, rfl⟩ := List.mem_map.1 hn
      have := hz a ha
      simp; omega
    have e3 : ([z - z] : List Int).filter (fun n => decide (0 < n)) = [] := by rw [Int.sub_self]; rfl
    rw [e1, e2, e3, List.append_nil, List.append_nil]
    exact List.Perm.refl _
theorem V.inc {c : List Int} (h : V c) : c.Pairwise (fun a b => a < b) := by
  rw [List.pairwise_iff_getElem]
  have hlo : ∀ n j, j + n + 1 < c.length → c.getD j 0 < c.getD (j + n + 1) 0 := by
    intro n
    induction n with
    | zero =>
      intro j hj
      have := (h.2.1 (j + 1) (Nat.zero_le _) hj).2 (by omega)
      simpa using this
    | succ n ih =>
      intro j hj
      have h1 := ih j (by omega)
      have h2 := (h.2.1 (j + n + 1 + 1) (Nat.zero_le _) (by omega)).2 (by omega)
      rw [Nat.add_sub_cancel] at h2
      rw [← Nat.add_assoc]; omega
  intro i j hi hj hij
  have := hlo (j - i - 1) i (by omega)
  rw [show i + (j - i - 1) + 1 = j by omega] at this
  simpa [List.getD, hi, hj] using this
theorem D_of {c d : List Int} (hc : c.Pairwise (fun a b => a < b)) (hd : d.Pairwise (fun a b => a < b)) (h : (posD c).Perm (posD d)) : D c = D d := by
  unfold D
  refine is_isort ?_ (isort_sorted leI_tr leI_to _)
  exact (isort_perm _).trans ((raw_pos c hc).trans (h.trans (raw_pos d hd).symm))
theorem posD_perm {c d : List Int} (h : (prs c).Perm (prs d)) : (posD c).Perm (posD d) := h.filter _
theorem D_mir {c : List Int} (h : V c) : D (mir c) = D c :=
  D_of h.mir.inc h.inc (posD_perm ((prs_perm (List.reverse_perm _)).trans (prs_neg (mirF c) (c.getD 0 0 + c.getD (c.length - 1) 0) (fun _ => rfl) c)))
theorem prs_sh (c : List Int) (b : Int) : prs (c.map (· + b)) = prs c := by
  unfold prs
  rw [fm_map]
  congr 1; funext a; rw [fm_map]; congr 1; funext x
  congr 1; omega
theorem inc_sh {c : List Int} (b : Int) (h : c.Pairwise (fun a b => a < b)) : (c.map (· + b)).Pairwise (fun a b => a < b) := by
  rw [List.pairwise_map]
  exact h.imp fun h => by omega
theorem D_sh {c : List Int} (b : Int) (h : c.Pairwise (fun a b => a < b)) : D (c.map (· + b)) = D c := D_of (inc_sh b h) h (by unfold posD; rw [prs_sh])
theorem D_nrm {c : List Int} (h : V c) : D (nrm c) = D c := by
  unfold nrm
  by_cases g : cmpL (mir (zer c)) (zer c) < 0
  · rw [if_pos g, ← zer_mir h.pos]
    exact (D_sh _ h.mir.inc).trans (D_mir h)
  · rw [if_neg g]
    exact D_sh _ h.inc

theorem nrm_len (c : List Int) : (nrm c).length = c.length := by
  unfold nrm
  by_cases g : cmpL (mir (zer c)) (zer c) < 0
  · rw [if_pos g, mir_len, zer_len]
  · rw [if_neg g, zer_len]
end Go.Proofs.Ytdgibokmaannjaa

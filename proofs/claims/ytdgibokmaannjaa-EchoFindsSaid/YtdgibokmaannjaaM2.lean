/- The delays; claimed delays; numbers that come twice. -/
import Derived.Test.YtdgibokmaannjaaM1
set_option linter.unusedVariables false
set_option linter.unusedSimpArgs false
namespace Go.Proofs.Ytdgibokmaannjaa
open Go Go.Pv Classical

theorem one1 (v : Int) : (List.replicate 1 (0 : Int)).set 0 v = [v] := rfl
def B (c : List Int) : Prop := ∀ y ∈ c, -200 ≤ y ∧ y ≤ 200
theorem V.b {c : List Int} (h : V c) : ∀ y ∈ c, -60 ≤ y ∧ y ≤ 60 := (all_getD 0 (fun y => -60 ≤ y ∧ y ≤ 60)).1 fun i h1 h2 => (h.2.1 i h1 h2).1
theorem V.B {c : List Int} (h : V c) : B c := fun y hy => by have := h.b y hy; omega

def rawN (c : List Int) : Nat → List Int
  | 0 => []
  | n + 1 => rawN c n ++ (c.take n).map fun k => c.getD n 0 - k
abbrev rawD (c : List Int) : List Int := rawN c c.length
theorem rawN_len (c : List Int) : ∀ n, (rawN c n).length ≤ n * c.length
  | 0 => by simp [rawN]
  | n + 1 => by
    have := rawN_len c n
    rw [rawN, List.length_append, List.length_map, List.length_take, Nat.succ_mul]
    omega
theorem rawD_len {c : List Int} (hc : c.length ≤ 6) : (rawD c).length ≤ 36 :=
  Nat.le_trans (rawN_len c c.length) (Nat.le_trans (Nat.mul_le_mul hc hc) (by omega))
def D (c : List Int) : List Int := isort leI (rawD c)
theorem D_len {c : List Int} (hc : c.length ≤ 6) : (D c).length ≤ 36 := by unfold D; rw [(isort_perm _).length_eq]; exact rawD_len hc

theorem w70_in (c x2 x4 : List Int) (n x5 x6 : Int) (t : List Int) (ht : t.length ≤ 100) (hx : x2.length ≤ 1000) (hB : ∀ y ∈ t, -1000 ≤ n - y ∧ n - y ≤ 1000) :
    impll70_2 5000 5000 c x2 n x4 x5 x6 t (t.length : Int) 0 = some (x2 ++ t.map (fun k => n - k), (t.length : Int), ()) := by
  have h := upto (fun k (s : List Int × Nat) => impll70_2 5000 k c s.1 n x4 x5 x6 t (t.length : Int) (s.2 : Int)) (fun j => (x2 ++ (t.take j).map (fun k => n - k), j)) t.length (x2 ++ t.map (fun k => n - k), (t.length : Int), ())
    (fun k j hj => by
      show impll70_2 5000 (k + 1) c (x2 ++ (t.take j).map (fun k => n - k)) n x4 x5 x6 t (t.length : Int) (j : Int) = _
      have hb := hB _ (getD_mem 0 hj)
      rw [impll70_2, implb70_2, cdec, if_pos (by omega), if_pos ⟨by omega, by omega⟩, if_pos (by simp; omega), Int.toNat_natCast, wrapI (by omega) (by omega), one1, wrapS (by omega), List.append_assoc, map_snoc 0 (fun k => n - k) hj])
    (fun k => by
      show impll70_2 5000 (k + 1) c (x2 ++ (t.take t.length).map (fun k => n - k)) n x4 x5 x6 t (t.length : Int) (t.length : Int) = _
      rw [impll70_2, implb70_2, cdec, if_neg (by omega), List.take_length]) 5000 0 (by omega) (Nat.zero_le _)
  simpa using h
theorem w70 (c : List Int) (hc : c.length ≤ 6) (hB : B c) : implf70 5000 c = some (D c) := by
  have h := upto (fun k (s : List Int × Nat) => impll70_0 5000 k c s.1 c (c.length : Int) (s.2 : Int)) (fun j => (rawN c j, j)) c.length (rawD c, (c.length : Int), ())
    (fun k j hj => by
      show impll70_0 5000 (k + 1) c (rawN c j) c (c.length : Int) (j : Int) = _
      have hb := hB _ (getD_mem 0 hj)
      have hl := rawN_len c j
      have hl2 : j * c.length ≤ 6 * 6 := Nat.mul_le_mul (by omega) hc
      have hin := w70_in c (rawN c j) c (c.getD j 0) (c.length : Int) (j : Int) (c.take j) (by simp; omega) (by omega) (fun y hy => by have := hB y (List.mem_of_mem_take hy); omega)
      rw [impll70_0, implb70_0, cdec, if_pos (by omega), if_pos ⟨by omega, by omega⟩, if_pos ⟨by omega, by omega, by omega⟩, Int.toNat_natCast, show Int.ofNat (List.take j c).length = ((List.take j c).length : Int) from rfl, hin, obS, wrapS (by omega)]
      rfl)
    (fun k => by
      show impll70_0 5000 (k + 1) c (rawN c c.length) c (c.length : Int) (c.length : Int) = _
      rw [impll70_0, implb70_0, cdec, if_neg (by omega)]) 5000 0 (by omega) (Nat.zero_le _)
  have h : impll70_0 5000 5000 c [] c (c.length : Int) 0 = _ := h
  unfold implf70
  rw [h, obS, w81 _ (by have := rawD_len hc; show (rawD c).length ≤ 1000; omega)]; rfl
theorem w71_in (c x2 : List Int) (i : Nat) (hi : i < c.length) (hc : c.length ≤ 100) (hx : x2.length ≤ 1000) (hB : B c) :
    impll71_2 5000 5000 c x2 (i : Int) 0 = some (x2 ++ (c.take i).map (fun k => c.getD i 0 - k), (i : Int), ()) := by
  have hb := hB _ (getD_mem 0 hi)
  have h := upto (fun k (s : List Int × Nat) => impll71_2 5000 k c s.1 (i : Int) (s.2 : Int)) (fun j => (x2 ++ (c.take j).map (fun k => c.getD i 0 - k), j)) i (x2 ++ (c.take i).map (fun k => c.getD i 0 - k), (i : Int), ())
    (fun k j hj => by
      show impll71_2 5000 (k + 1) c (x2 ++ (c.take j).map (fun k => c.getD i 0 - k)) (i : Int) (j : Int) = _
      have hb2 := hB _ (getD_mem 0 (show j < c.length by omega))
      rw [impll71_2, implb71_2, cdec, if_pos (by omega), if_pos ⟨by omega, by omega⟩, if_pos ⟨by omega, by omega⟩, if_pos (by simp; omega), Int.toNat_natCast, Int.toNat_natCast, wrapI (by omega) (by omega), one1, wrapS (by omega), List.append_assoc, map_snoc 0 (fun k => c.getD i 0 - k) (show j < c.length by omega)])
    (fun k => by
      show impll71_2 5000 (k + 1) c (x2 ++ (c.take i).map (fun k => c.getD i 0 - k)) (i : Int) (i : Int) = _
      rw [impll71_2, implb71_2, cdec, if_neg (by omega)]) 5000 0 (by omega) (Nat.zero_le _)
  simpa using h
theorem w71 (c : List Int) (hc : c.length ≤ 6) (hB : B c) : implf71 5000 c = some (D c) := by
  have h := upto (fun k (s : List Int × Nat) => impll71_0 5000 k c s.1 (s.2 : Int)) (fun j => (rawN c j, j)) c.length (rawD c, (c.length : Int), ())
    (fun k j hj => by
      show impll71_0 5000 (k + 1) c (rawN c j) (j : Int) = _
      have hl := rawN_len c j
      have hl2 : j * c.length ≤ 6 * 6 := Nat.mul_le_mul (by omega) hc
      rw [impll71_0, implb71_0, cdec, if_pos (by omega), w71_in c _ j hj (by omega) (by omega) hB, obS, wrapS (by omega)]
      rfl)
    (fun k => by
      show impll71_0 5000 (k + 1) c (rawN c c.length) (c.length : Int) = _
      rw [impll71_0, implb71_0, cdec, if_neg (by omega)]) 5000 0 (by omega) (Nat.zero_le _)
  have h : impll71_0 5000 5000 c [] 0 = _ := h
  unfold implf71
  rw [h, obS, w82 _ (by have := rawD_len hc; show (rawD c).length ≤ 100; omega)]; rfl

end Go.Proofs.Ytdgibokmaannjaa

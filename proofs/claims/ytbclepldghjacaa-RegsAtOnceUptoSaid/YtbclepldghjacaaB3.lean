/- RegsMoves: the law. -/
import Derived.Test.YtbclepldghjacaaB1
set_option linter.unusedVariables false
set_option linter.unusedSimpArgs false
/- Moves: the reference's answer. -/
namespace Go.Ab
open Go.Proofs
set_option maxRecDepth 100000
set_option maxHeartbeats 1000000

def free1 (left : List (Int × Int)) (p : (Int × Int) × Nat) : Bool := !isSource left p.1.1 (p.2 : Int)
def firstFree (left : List (Int × Int)) : Option Nat := (left.zipIdx.find? (free1 left)).map (·.2)
def subst1 (d spare : Int) (p : Int × Int) : Int × Int := if p.2 = d then (p.1, spare) else p
/-- Moves done one after the other. -/
def mv (spare : Int) : Nat → List (Int × Int) → List (Int × Int)
  | 0, _ => []
  | n + 1, left => match left with
    | [] => []
    | x :: xs => match firstFree (x :: xs) with
      | some i => (x :: xs).getD i (0, 0) :: mv spare n ((x :: xs).eraseIdx i)
      | none => (spare, x.1) :: mv spare n ((x :: xs).map (subst1 x.1 spare))

def movesR (l : List (Int × Int)) (spare : Int) : List (Int × Int) := mv spare 600 (l.filter fun p => p.1 != p.2)
def mOK (l : List (Int × Int)) (spare : Int) : Bool := l.length ≤ 250 && 0 ≤ spare && spare ≤ 250 && l.zipIdx.all (moveOK l spare)
def movesRes (l : List (Int × Int)) (spare : Int) : PV := .tup [prs (if mOK l spare then movesR l spare else []), .int .i64 (if mOK l spare then 0 else 1)]

def keepsL (l : List (Int × Int)) (k : Nat) : List (Int × Int) := (l.take k).filter fun p => p.1 != p.2
theorem keepsL_yes {l : List (Int × Int)} {k : Nat} (hk : k < l.length) (h : ¬(l[k]?.getD (0, 0)).1 = (l[k]?.getD (0, 0)).2) : keepsL l (k + 1) = keepsL l k ++ [l.getD k (0, 0)] := by
  unfold keepsL
  rw [List.take_add_one, List.filter_append]
  simp only [hk, List.getElem?_eq_getElem, Option.getD_some] at h
  simp [hk, h]
theorem keepsL_no {l : List (Int × Int)} {k : Nat} (hk : k < l.length) (h : (l[k]?.getD (0, 0)).1 = (l[k]?.getD (0, 0)).2) : keepsL l (k + 1) = keepsL l k := by
  unfold keepsL
  rw [List.take_add_one, List.filter_append]
  simp only [hk, List.getElem?_eq_getElem, Option.getD_some] at h
  simp [hk, h]
theorem mOK_len {l : List (Int × Int)} {spare : Int} (h : mOK l spare = true) : l.length ≤ 250 := by
  simp only [mOK, Bool.and_eq_true, decide_eq_true_eq] at h
  exact h.1.1.1
theorem mOK_spare {l : List (Int × Int)} {spare : Int} (h : mOK l spare = true) : ∀ p ∈ l.filter fun p => p.1 != p.2, p.1 ≠ spare := by
  intro p hp
  obtain ⟨hp, _⟩ := List.mem_filter.1 hp
  simp only [mOK, Bool.and_eq_true] at h
  obtain ⟨i, hi, rfl⟩ := List.mem_iff_getElem.1 hp
  have := List.all_eq_true.1 h.2 (l[i], i) (List.mem_iff_getElem.2 ⟨i, by simpa using hi, by simp⟩)
  simp only [moveOK, inR, Bool.and_eq_true, bne_iff_ne] at this
  exact this.1.1.2
def μL (left : List (Int × Int)) : Nat := 2 * left.length + (if firstFree left = none then 1 else 0)
theorem mv_nil (spare : Int) (n : Nat) : mv spare n [] = [] := by cases n <;> rfl
theorem firstFree_lt {left : List (Int × Int)} {i : Nat} (h : firstFree left = some i) : i < left.length := by
  simp only [firstFree, Option.map_eq_some_iff] at h
  obtain ⟨p, h1, rfl⟩ := h
  have := List.mem_of_find?_eq_some h1
  obtain ⟨j, hj, e⟩ := List.mem_iff_getElem.1 this
  have : p.2 = j := by rw [← e]; simp
  rw [this]; simpa using hj
theorem mv_take {spare : Int} {n : Nat} {left : List (Int × Int)} {i : Nat} (h : firstFree left = some i) : mv spare (n + 1) left = left.getD i (0, 0) :: mv spare n (left.eraseIdx i) := by
  cases left with
  | nil => simp [firstFree] at h
  | cons x xs => simp only [mv, h]
theorem mv_break {spare : Int} {n : Nat} {left : List (Int × Int)} (h : firstFree left = none) (h0 : 0 < left.length) : mv spare (n + 1) left = (spare, (left.getD 0 (0, 0)).1) :: mv spare n (left.map (subst1 (left.getD 0 (0, 0)).1 spare)) := by
  cases left with
  | nil => simp at h0
  | cons x xs => simp only [mv, h]; rfl
theorem μL_take {left : List (Int × Int)} {i n : Nat} (h : firstFree left = some i) (hn : μL left ≤ n) : ∃ m, n = m + 1 ∧ μL (left.eraseIdx i) ≤ m := by
  have hlt := firstFree_lt h
  simp only [μL, h] at hn
  refine ⟨n - 1, by simp at hn; omega, ?_⟩
  simp only [μL, List.length_eraseIdx, hlt, if_true]
  simp at hn
  split <;> omega
theorem μL_break {left : List (Int × Int)} {n : Nat} {spare : Int} (h : firstFree left = none) (h0 : 0 < left.length) (hs : ∀ p ∈ left, p.1 ≠ spare) (hn : μL left ≤ n) : ∃ m, n = m + 1 ∧ μL (left.map (subst1 (left.getD 0 (0, 0)).1 spare)) ≤ m := by
  simp only [μL, h, if_true] at hn
  refine ⟨n - 1, by omega, ?_⟩
  have : firstFree (left.map (subst1 (left.getD 0 (0, 0)).1 spare)) ≠ none := by
    cases left with
    | nil => simp at h0
    | cons x xs =>
      have hx := hs x (by simp)
      simp only [List.getD_cons_zero]
      intro hf
      simp only [firstFree, Option.map_eq_none_iff, List.find?_eq_none] at hf
      have h1 : (subst1 x.1 spare x).1 = x.1 := by unfold subst1; split <;> rfl
      have := hf (subst1 x.1 spare x, 0) (by simp)
      simp only [free1, Bool.not_eq_true', Bool.not_eq_false, isSource, List.any_eq_true, Bool.and_eq_true, beq_iff_eq] at this
      obtain ⟨p, hp, _, e⟩ := this
      rw [h1] at e
      obtain ⟨j, hj, rfl⟩ := List.mem_iff_getElem.1 hp
      simp only [List.getElem_zipIdx, List.getElem_map] at e
      revert e
      unfold subst1
      split
      · exact fun e => hx e.symm
      · rename_i h2; exact h2
  simp only [μL, this, if_false, List.length_map]
  omega
/-- What holds while moves are left. -/
structure mvI (l : List (Int × Int)) (spare : Int) (left out : List (Int × Int)) (n : Nat) : Prop where
  len : left.length ≤ 250
  spr : ∀ p ∈ left, p.1 ≠ spare
  fuel : μL left ≤ n
  res : out ++ mv spare n left = movesR l spare
  bound : out.length + n ≤ 600
theorem getD_erase {α : Type} (l : List α) (i j : Nat) (d : α) : (l.eraseIdx i).getD j d = if j < i then l.getD j d else l.getD (j + 1) d := by
  simp only [List.getD_eq_getElem?_getD, List.getElem?_eraseIdx]
  split <;> rfl
/-- The first of a list's moves, changed. -/
def sb (left : List (Int × Int)) (d spare : Int) (k : Nat) : List (Int × Int) := (left.take k).map (subst1 d spare) ++ left.drop k
theorem sb_getD (left : List (Int × Int)) (d spare : Int) (k i : Nat) : (sb left d spare k).getD i (0, 0) = if i < k ∧ i < left.length then subst1 d spare (left.getD i (0, 0)) else left.getD i (0, 0) := by
  simp only [sb, List.getD_eq_getElem?_getD, List.getElem?_append, List.length_map, List.length_take, List.getElem?_map, List.getElem?_drop, List.getElem?_take]
  by_cases h1 : i < k <;> by_cases h2 : i < left.length
  · simp [h1, h2, show i < min k left.length by omega]
  · rw [if_neg (by omega), if_neg (by omega), List.getElem?_eq_none (by omega), List.getElem?_eq_none (by omega)]
  · rw [if_neg (by omega), if_neg (by omega)]
    by_cases h3 : k ≤ left.length
    · congr 2; omega
    · omega
  · rw [if_neg (by omega), if_neg (by omega), List.getElem?_eq_none (by omega), List.getElem?_eq_none (by omega)]
theorem sb_len (left : List (Int × Int)) (d spare : Int) (k : Nat) : (sb left d spare k).length = left.length := by simp [sb]; omega
theorem sb_all (left : List (Int × Int)) (d spare : Int) : sb left d spare left.length = left.map (subst1 d spare) := by simp [sb]
theorem find_next {left : List (Int × Int)} {i : Nat} {f : (Int × Int) × Nat → Bool} (hi : i < left.length) (hn : (left.zipIdx.take i).find? f = none) (h : f (left[i]?.getD (0, 0), i) = false) : (left.zipIdx.take (i + 1)).find? f = none := by
  rw [List.take_add_one, List.find?_append, hn]
  simp [hi] at h ⊢
  exact h
theorem firstFree_at {left : List (Int × Int)} {i : Nat} (hi : i < left.length) (hn : (left.zipIdx.take i).find? (free1 left) = none) (h : free1 left (left[i]?.getD (0, 0), i) = true) : firstFree left = some i := by
  unfold firstFree
  rw [← List.take_append_drop i left.zipIdx, List.find?_append, hn, List.drop_eq_getElem_cons (by simpa using hi)]
  rw [List.find?_cons_of_pos (by simpa [hi] using h)]
  simp
theorem Moves_spec (l : List (Int × Int)) (spare : Int) : CallsF Try.prog 10 [prs l, .int .i64 spare] (movesRes l spare) := by
  refine callsF_ofS mx Try.call10 Try.func10 rfl Try.ntmps10 Try.results10 (by kernel_rfl) (by simp) fun lo => ?_
  refine CallS.frozen (.bool (mOK l spare)) (movesRight_spec l spare) (plainAll rfl) ?_
  refine And.intro (fun hq => ?_) (fun hq => ?_)
  · have hk : mOK l spare = false := by simpa using hq
    unfold movesRes
    rw [hk]
    exact NEq.tup2 NEq.nils (.refl _)
  have hk : mOK l spare = true := by simpa using hq
  have hk0 := hk
  have hlen := mOK_len hk
  unfold movesRes
  rw [hk]
  refine ghostS 6 (1, 1000) (by decide) 2 (fun _ _ => .undef) rfl (L' := []) (by simp [lkH]) fun v => ?_
  refine loopS2 mx (by decide) (by kernel_rfl) (fun (k v : Nat) => k ≤ l.length) (fun k v => [(7, .int .i64 k), (6, .ref (1, 1000) v [] 2 0 (keepsL l k).length), (0, prs l), (1, .int .i64 spare)]) (fun k v => [((1, 1000), ⟨v, oprs (keepsL l k)⟩)]) (fun k v => l.length - k) 0 v (by simp) ⟨?_, ?_, .nil⟩ ?_
  · exact ⟨.refl _, .refs rfl rfl rfl, .refl _, .refl _, trivial⟩
  · exact ⟨⟨rfl, .owns rfl rfl fun i o hi => absurd hi (by simp [keepsL])⟩, trivial⟩
  intro k v nv hk
  have hkl : (keepsL l k).length ≤ k := by unfold keepsL; exact Nat.le_trans (List.length_filter_le ..) (by simp; omega)
  repeat' (first | (refine And.intro ?_ ?_; focus (first | first | first | exact rfl | exact trivial | exact fun _ => rfl | exact Nat.le_of_ble_eq_true rfl | exact Option.some_ne_none _ | omega | (intro hh; cases hh; done) | assumption | (show (0 : Int) ≤ _; omega) | (rw [bPair]; omega) | (rw [bInt]; omega) | exact fun hh => hh | omega | ((refine ⟨fun hh => ?_, fun hh => ?_⟩) <;> (first | exact rfl | exact beq_iff_eq.2 hh)) | ((repeat' apply And.intro) <;> (first | first | exact rfl | exact trivial | exact fun _ => rfl | exact Nat.le_of_ble_eq_true rfl | exact Option.some_ne_none _ | omega | (intro hh; cases hh; done) | assumption | (show (0 : Int) ≤ _; omega) | (rw [bPair]; omega) | (rw [bInt]; omega))) | (intro hh; first | (cases hh; done) | ((repeat' apply And.intro) <;> (first | first | exact rfl | exact trivial | exact fun _ => rfl | exact Nat.le_of_ble_eq_true rfl | exact Option.some_ne_none _ | omega | (intro hh; cases hh; done) | assumption | (show (0 : Int) ≤ _; omega) | (rw [bPair]; omega) | (rw [bInt]; omega)))))) | (refine And.intro ?_ ?_) | (intro hq; (try simp at hq); (try (exfalso; omega)); (try (revert hq; intro))))
  · rename_i _ hkk hne
    refine Exists.intro (oprs [l.getD k (0, 0)]) (And.intro ?_ (And.intro (by first | rfl | exact shape_prs (by simp) | exact shape_ints (by simp)) ?_))
    · exact one_pair _ rfl rfl (.refl _) (.refl _)
    repeat' (first | (refine And.intro ?_ ?_; focus (first | first | first | exact rfl | exact trivial | exact fun _ => rfl | exact Nat.le_of_ble_eq_true rfl | exact Option.some_ne_none _ | omega | (intro hh; cases hh; done) | assumption | (show (0 : Int) ≤ _; omega) | (rw [bPair]; omega) | (rw [bInt]; omega) | exact fun hh => hh | omega | ((refine ⟨fun hh => ?_, fun hh => ?_⟩) <;> (first | exact rfl | exact beq_iff_eq.2 hh)) | ((repeat' apply And.intro) <;> (first | first | exact rfl | exact trivial | exact fun _ => rfl | exact Nat.le_of_ble_eq_true rfl | exact Option.some_ne_none _ | omega | (intro hh; cases hh; done) | assumption | (show (0 : Int) ≤ _; omega) | (rw [bPair]; omega) | (rw [bInt]; omega))) | (intro hh; first | (cases hh; done) | ((repeat' apply And.intro) <;> (first | first | exact rfl | exact trivial | exact fun _ => rfl | exact Nat.le_of_ble_eq_true rfl | exact Option.some_ne_none _ | omega | (intro hh; cases hh; done) | assumption | (show (0 : Int) ≤ _; omega) | (rw [bPair]; omega) | (rw [bInt]; omega)))))) | (refine And.intro ?_ ?_) | (intro hq; (try simp at hq); (try (exfalso; omega)); (try (revert hq; intro))))
    refine Exists.intro (oprs (keepsL l k ++ [l.getD k (0, 0)])) (And.intro ?_ (And.intro (by first | rfl | exact shape_prs (by simp) | exact shape_ints (by simp)) ?_))
    · exact app_prs rfl rfl (fun i o hi ho => by (try dsimp only); rw [if_pos hi]; exact .refl _) (fun i o hi ho => by (try dsimp only); rw [if_neg (by omega), Nat.add_sub_cancel_left]; (try rw [cellV_pcell]); simp only [Nat.zero_add]; exact .refl _)
    repeat' (first | (refine And.intro ?_ ?_; focus (first | first | first | exact rfl | exact trivial | exact fun _ => rfl | exact Nat.le_of_ble_eq_true rfl | exact Option.some_ne_none _ | omega | (intro hh; cases hh; done) | assumption | (show (0 : Int) ≤ _; omega) | (rw [bPair]; omega) | (rw [bInt]; omega) | exact fun hh => hh | omega | ((refine ⟨fun hh => ?_, fun hh => ?_⟩) <;> (first | exact rfl | exact beq_iff_eq.2 hh)) | ((repeat' apply And.intro) <;> (first | first | exact rfl | exact trivial | exact fun _ => rfl | exact Nat.le_of_ble_eq_true rfl | exact Option.some_ne_none _ | omega | (intro hh; cases hh; done) | assumption | (show (0 : Int) ≤ _; omega) | (rw [bPair]; omega) | (rw [bInt]; omega))) | (intro hh; first | (cases hh; done) | ((repeat' apply And.intro) <;> (first | first | exact rfl | exact trivial | exact fun _ => rfl | exact Nat.le_of_ble_eq_true rfl | exact Option.some_ne_none _ | omega | (intro hh; cases hh; done) | assumption | (show (0 : Int) ≤ _; omega) | (rw [bPair]; omega) | (rw [bInt]; omega)))))) | (refine And.intro ?_ ?_) | (intro hq; (try simp at hq); (try (exfalso; omega)); (try (revert hq; intro))))
    have e := keepsL_yes hkk hne
    refine Exists.intro (k+1, _) ⟨hkk, (by first | omega | (dsimp only; omega)), ⟨?_, ⟨⟨rfl, ?_⟩, trivial⟩, .nil⟩⟩
    · refine ⟨(by refine NEq.int ?_; first | exact rfl | omega | (rw [wrapI (by omega)]; first | exact rfl | omega)), .refs rfl rfl ?_, .refl _, .refl _, trivial⟩
      show _ = (keepsL l (k+1)).length
      rw [e, List.length_append]; rfl
    · show NEq _ (oprs (keepsL l (k+1)))
      rw [e]; exact .refl _
  · rename_i _ hkk hne
    have e := keepsL_no hkk hne
    refine Exists.intro (k+1, _) ⟨hkk, (by first | omega | (dsimp only; omega)), ⟨?_, ⟨⟨rfl, ?_⟩, trivial⟩, .nil⟩⟩
    · refine ⟨(by refine NEq.int ?_; first | exact rfl | omega | (rw [wrapI (by omega)]; first | exact rfl | omega)), .refs rfl rfl ?_, .refl _, .refl _, trivial⟩
      show _ = (keepsL l (k+1)).length
      rw [e]
    · show NEq _ (oprs (keepsL l (k+1)))
      rw [e]; exact .refl _
  rename_i _ hkk
  refine ghostS 8 (1, 1001) (by decide) 2 (fun _ _ => .undef) rfl (L' := [((1, 1000), ⟨v, oprs (keepsL l k)⟩)]) (fun j => ?_) fun v2 => ?_
  · simp only [lkH]; split
    · rename_i h; subst h; rfl
    · simp
  have hall : keepsL l k = l.filter fun p => p.1 != p.2 := by unfold keepsL; rw [List.take_of_length_le hkk]
  rw [hall]
  have hl2 : (l.filter fun p => p.1 != p.2).length ≤ 250 := Nat.le_trans (List.length_filter_le ..) hlen
  have hsp : ∀ p ∈ l.filter fun p => p.1 != p.2, p.1 ≠ spare := mOK_spare hk0
  refine loopES6 (fun left out n r v v2 => mvI l spare left out n ∧ (r = (1, 1000) ∨ r = (1, 73))) (fun left out n r v v2 => [(6, .ref r v [] 2 0 left.length), (8, .ref (1, 1001) v2 [] 2 0 out.length), (1, .int .i64 spare)])
    (fun left out n r v v2 => [(r, ⟨v, oprs left⟩), ((1, 1001), ⟨v2, oprs out⟩)]) (fun left out n r v v2 => n) (l.filter fun p => p.1 != p.2) [] 600 (1, 1000) v v2 ?_ ⟨?_, ?_, .nil⟩ ?_
  · refine ⟨⟨hl2, hsp, ?_, rfl, by simp⟩, .inl rfl⟩
    unfold μL; split <;> omega
  · exact ⟨.refs rfl rfl rfl, .refs rfl rfl rfl, .refl _, trivial⟩
  · exact ⟨⟨rfl, .refl _⟩, ⟨rfl, .owns rfl rfl fun i o hi => absurd hi (by simp)⟩, trivial⟩
  intro left out n r v v2 nv ⟨hI, hr⟩
  refine renS 6 r (1, 1000) (by decide) rfl (node := oprs left) (by simp [lkH]) rfl (L' := [((1, 1001), ⟨v2, oprs out⟩)]) (fun j => ?_) rfl fun v => evS mx (by decide) (by kernel_rfl) ?_
  · simp only [lkH]
    rcases hr with rfl | rfl <;> by_cases h1 : j = (1, 1000) <;> by_cases h2 : j = (1, 73) <;> simp_all
  have hll := hI.len
  have hob := hI.bound
  repeat' (first | (refine And.intro ?_ ?_; focus (first | first | first | exact rfl | exact trivial | exact fun _ => rfl | exact Nat.le_of_ble_eq_true rfl | exact Option.some_ne_none _ | omega | (intro hh; cases hh; done) | assumption | (show (0 : Int) ≤ _; omega) | (rw [bPair]; omega) | (rw [bInt]; omega) | exact fun hh => hh | omega | ((refine ⟨fun hh => ?_, fun hh => ?_⟩) <;> (first | exact rfl | exact beq_iff_eq.2 hh)) | ((repeat' apply And.intro) <;> (first | first | exact rfl | exact trivial | exact fun _ => rfl | exact Nat.le_of_ble_eq_true rfl | exact Option.some_ne_none _ | omega | (intro hh; cases hh; done) | assumption | (show (0 : Int) ≤ _; omega) | (rw [bPair]; omega) | (rw [bInt]; omega))) | (intro hh; first | (cases hh; done) | ((repeat' apply And.intro) <;> (first | first | exact rfl | exact trivial | exact fun _ => rfl | exact Nat.le_of_ble_eq_true rfl | exact Option.some_ne_none _ | omega | (intro hh; cases hh; done) | assumption | (show (0 : Int) ≤ _; omega) | (rw [bPair]; omega) | (rw [bInt]; omega)))))) | (refine And.intro ?_ ?_) | (intro hq; (try simp at hq); (try (exfalso; omega)); (try (revert hq; intro))))
  rotate_left
  · rename_i h0
    subst h0
    have e := hI.res
    rw [mv_nil, List.append_nil] at e
    refine NEq.tup2 ?_ (.refl _)
    rw [if_pos rfl, ← e]
    exact view_prs rfl rfl
  rename_i h0
  refine loopS2 mx (by decide) (by kernel_rfl) (fun (i : Nat) (a : Int) => i ≤ left.length ∧ ((a = -1 ∧ (left.zipIdx.take i).find? (free1 left) = none) ∨ (∃ i0 : Nat, a = i0 ∧ firstFree left = some i0))) (fun i a => [(10, .int .i64 i), (9, .int .i64 a), (6, .ref (1, 1000) v [] 2 0 left.length), (8, .ref (1, 1001) v2 [] 2 0 out.length), (1, .int .i64 spare)])
    (fun _ _ => [((1, 1000), ⟨v, oprs left⟩), ((1, 1001), ⟨v2, oprs out⟩)]) (fun i _ => left.length - i) 0 (-1) ⟨by simp, .inl ⟨rfl, by simp⟩⟩ ⟨by ((repeat' apply And.intro) <;> (first | exact True.intro | exact NEq.refl _ | (refine NEq.int ?_; first | exact rfl | omega | (rw [wrapI (by omega)]; first | exact rfl | omega)))), ⟨⟨rfl, .refl _⟩, ⟨rfl, .refl _⟩, trivial⟩, .nil⟩ ?_
  intro i a nv ⟨hi, ha⟩
  repeat' (first | (refine And.intro ?_ ?_; focus (first | first | first | exact rfl | exact trivial | exact fun _ => rfl | exact Nat.le_of_ble_eq_true rfl | exact Option.some_ne_none _ | omega | (intro hh; cases hh; done) | assumption | (show (0 : Int) ≤ _; omega) | (rw [bPair]; omega) | (rw [bInt]; omega) | exact fun hh => hh | omega | ((refine ⟨fun hh => ?_, fun hh => ?_⟩) <;> (first | exact rfl | exact beq_iff_eq.2 hh)) | ((repeat' apply And.intro) <;> (first | first | exact rfl | exact trivial | exact fun _ => rfl | exact Nat.le_of_ble_eq_true rfl | exact Option.some_ne_none _ | omega | (intro hh; cases hh; done) | assumption | (show (0 : Int) ≤ _; omega) | (rw [bPair]; omega) | (rw [bInt]; omega))) | (intro hh; first | (cases hh; done) | ((repeat' apply And.intro) <;> (first | first | exact rfl | exact trivial | exact fun _ => rfl | exact Nat.le_of_ble_eq_true rfl | exact Option.some_ne_none _ | omega | (intro hh; cases hh; done) | assumption | (show (0 : Int) ≤ _; omega) | (rw [bPair]; omega) | (rw [bInt]; omega)))))) | (refine And.intro ?_ ?_) | (intro hq; (try simp at hq); (try (exfalso; omega)); (try (revert hq; intro))))
  · rename_i hc
    refine CallS.plain [prs left, .int .i64 (left.getD i (0, 0)).1, .int .i64 i] (.bool (isSource left (left.getD i (0, 0)).1 i)) (source_spec _ _ _) (.cons (view_prs rfl rfl) (.cons (by refine NEq.int ?_; first | exact rfl | (simp; done) | omega) (.cons (.refl _) .nil))) trivial ?_
    have hz := any_take (0, 0) (l := left) (f := free1 left) hc.1
    have ha1 : a = -1 := by
      obtain ⟨rfl, _⟩ | ⟨i0, rfl, hf⟩ := ha
      · rfl
      · omega
    have hn : (left.zipIdx.take i).find? (free1 left) = none := by
      obtain ⟨_, h⟩ | ⟨i0, rfl, hf⟩ := ha
      · exact h
      · omega
    have hfind : free1 left (left[i]?.getD (0, 0), i) = true → firstFree left = some i := fun h => firstFree_at hc.1 hn h
    have hnext : free1 left (left[i]?.getD (0, 0), i) = false → (left.zipIdx.take (i + 1)).find? (free1 left) = none := fun h => find_next hc.1 hn h
    repeat' (first | (refine And.intro ?_ ?_; focus (first | first | first | exact rfl | exact trivial | exact fun _ => rfl | exact Nat.le_of_ble_eq_true rfl | exact Option.some_ne_none _ | omega | (intro hh; cases hh; done) | assumption | (show (0 : Int) ≤ _; omega) | (rw [bPair]; omega) | (rw [bInt]; omega) | exact fun hh => hh | omega | ((refine ⟨fun hh => ?_, fun hh => ?_⟩) <;> (first | exact rfl | exact beq_iff_eq.2 hh)) | ((repeat' apply And.intro) <;> (first | first | exact rfl | exact trivial | exact fun _ => rfl | exact Nat.le_of_ble_eq_true rfl | exact Option.some_ne_none _ | omega | (intro hh; cases hh; done) | assumption | (show (0 : Int) ≤ _; omega) | (rw [bPair]; omega) | (rw [bInt]; omega))) | (intro hh; first | (cases hh; done) | ((repeat' apply And.intro) <;> (first | first | exact rfl | exact trivial | exact fun _ => rfl | exact Nat.le_of_ble_eq_true rfl | exact Option.some_ne_none _ | omega | (intro hh; cases hh; done) | assumption | (show (0 : Int) ≤ _; omega) | (rw [bPair]; omega) | (rw [bInt]; omega)))))) | (refine And.intro ?_ ?_) | (intro hq; (try simp at hq); (try (exfalso; omega)); (try (revert hq; intro))))
    · rename_i h2
      exact Exists.intro (i+1, (i : Int)) ⟨⟨hc.1, .inr ⟨i, rfl, hfind (by simp [free1, h2])⟩⟩, (by first | omega | (dsimp only; omega)), ⟨by ((repeat' apply And.intro) <;> (first | exact True.intro | exact NEq.refl _ | (refine NEq.int ?_; first | exact rfl | omega | (rw [wrapI (by omega)]; first | exact rfl | omega)))), ⟨⟨rfl, .refl _⟩, ⟨rfl, .refl _⟩, trivial⟩, .nil⟩⟩
    · rename_i h2
      exact Exists.intro (i+1, a) ⟨⟨hc.1, .inl ⟨ha1, hnext (by simp [free1, h2])⟩⟩, (by first | omega | (dsimp only; omega)), ⟨by ((repeat' apply And.intro) <;> (first | exact True.intro | exact NEq.refl _ | (refine NEq.int ?_; first | exact rfl | omega | (rw [wrapI (by omega)]; first | exact rfl | omega)))), ⟨⟨rfl, .refl _⟩, ⟨rfl, .refl _⟩, trivial⟩, .nil⟩⟩
  · rename_i _ h1
    obtain ⟨rfl, _⟩ | ⟨i0, rfl, hf⟩ := ha
    · omega
    · have := firstFree_lt hf; omega
  · rename_i _ h1
    obtain ⟨rfl, _⟩ | ⟨i0, rfl, hf⟩ := ha
    · omega
    have hlt := firstFree_lt hf
    obtain ⟨m, rfl, hm⟩ := μL_take hf hI.fuel
    have hw : IntKind.i64.wrap ((i0 : Int) + 1) = (i0 : Int) + 1 := wrapI (by omega)
    refine Exists.intro (oprs [left.getD i0 (0, 0)]) (And.intro ?_ (And.intro (by first | rfl | exact shape_prs (by simp) | exact shape_ints (by simp)) ?_))
    · exact one_pair _ rfl rfl (by refine NEq.int ?_; first | exact rfl | (simp; done) | omega) (by refine NEq.int ?_; first | exact rfl | (simp; done) | omega)
    repeat' (first | (refine And.intro ?_ ?_; focus (first | first | first | exact rfl | exact trivial | exact fun _ => rfl | exact Nat.le_of_ble_eq_true rfl | exact Option.some_ne_none _ | omega | (intro hh; cases hh; done) | assumption | (show (0 : Int) ≤ _; omega) | (rw [bPair]; omega) | (rw [bInt]; omega) | exact fun hh => hh | omega | ((refine ⟨fun hh => ?_, fun hh => ?_⟩) <;> (first | exact rfl | exact beq_iff_eq.2 hh)) | ((repeat' apply And.intro) <;> (first | first | exact rfl | exact trivial | exact fun _ => rfl | exact Nat.le_of_ble_eq_true rfl | exact Option.some_ne_none _ | omega | (intro hh; cases hh; done) | assumption | (show (0 : Int) ≤ _; omega) | (rw [bPair]; omega) | (rw [bInt]; omega))) | (intro hh; first | (cases hh; done) | ((repeat' apply And.intro) <;> (first | first | exact rfl | exact trivial | exact fun _ => rfl | exact Nat.le_of_ble_eq_true rfl | exact Option.some_ne_none _ | omega | (intro hh; cases hh; done) | assumption | (show (0 : Int) ≤ _; omega) | (rw [bPair]; omega) | (rw [bInt]; omega)))))) | (refine And.intro ?_ ?_) | (intro hq; (try simp at hq); (try (exfalso; omega)); (try (revert hq; intro))))
    refine Exists.intro (oprs (out ++ [left.getD i0 (0, 0)])) (And.intro ?_ (And.intro (by first | rfl | exact shape_prs (by simp) | exact shape_ints (by simp)) ?_))
    · exact app_prs rfl rfl (fun i o hi ho => by (try dsimp only); rw [if_pos hi]; exact .refl _) (fun i o hi ho => by (try dsimp only); rw [if_neg (by omega), Nat.add_sub_cancel_left]; (try rw [cellV_pcell]); simp only [Nat.zero_add]; exact .refl _)
    repeat' (first | (refine And.intro ?_ ?_; focus (first | first | first | exact rfl | exact trivial | exact fun _ => rfl | exact Nat.le_of_ble_eq_true rfl | exact Option.some_ne_none _ | omega | (intro hh; cases hh; done) | assumption | (show (0 : Int) ≤ _; omega) | (rw [bPair]; omega) | (rw [bInt]; omega) | exact fun hh => hh | omega | ((refine ⟨fun hh => ?_, fun hh => ?_⟩) <;> (first | exact rfl | exact beq_iff_eq.2 hh)) | ((repeat' apply And.intro) <;> (first | first | exact rfl | exact trivial | exact fun _ => rfl | exact Nat.le_of_ble_eq_true rfl | exact Option.some_ne_none _ | omega | (intro hh; cases hh; done) | assumption | (show (0 : Int) ≤ _; omega) | (rw [bPair]; omega) | (rw [bInt]; omega))) | (intro hh; first | (cases hh; done) | ((repeat' apply And.intro) <;> (first | first | exact rfl | exact trivial | exact fun _ => rfl | exact Nat.le_of_ble_eq_true rfl | exact Option.some_ne_none _ | omega | (intro hh; cases hh; done) | assumption | (show (0 : Int) ≤ _; omega) | (rw [bPair]; omega) | (rw [bInt]; omega)))))) | (refine And.intro ?_ ?_) | (intro hq; (try simp at hq); (try (exfalso; omega)); (try (revert hq; intro))))
    refine Exists.intro (oprs (left.eraseIdx i0)) (And.intro ?_ (And.intro (shape_prs (by rw [List.length_eraseIdx, if_pos hlt]; omega)) ?_))
    · show NEq (.own _ _ _) (oprs (left.eraseIdx i0))
      refine NEq.owns rfl (by rw [List.length_eraseIdx, if_pos hlt]; omega) fun j o hj ho => ?_
      rw [List.length_eraseIdx, if_pos hlt] at hj
      rw [getD_erase]
      by_cases h : j < i0
      · rw [if_pos h, if_pos (by omega)]
        dsimp only
        rw [if_neg (by omega)]
        show NEq (cellV _ _ _ _ _ (pcell _ _)) _
        rw [cellV_pcell, show 0 + 0 + (j - 0) = j by omega]
        exact .refl _
      · rw [if_neg h, if_neg (by omega)]
        show NEq (cellV _ _ _ _ _ (pcell _ _)) _
        rw [cellV_pcell]
        have : ∀ a b, a = b → NEq (pcell (left.getD a (0, 0)) o) (pcell (left.getD b (0, 0)) o) := fun a b e => e ▸ .refl _
        exact this _ _ (by omega)
    repeat' (first | (refine And.intro ?_ ?_; focus (first | first | first | exact rfl | exact trivial | exact fun _ => rfl | exact Nat.le_of_ble_eq_true rfl | exact Option.some_ne_none _ | omega | (intro hh; cases hh; done) | assumption | (show (0 : Int) ≤ _; omega) | (rw [bPair]; omega) | (rw [bInt]; omega) | exact fun hh => hh | omega | ((refine ⟨fun hh => ?_, fun hh => ?_⟩) <;> (first | exact rfl | exact beq_iff_eq.2 hh)) | ((repeat' apply And.intro) <;> (first | first | exact rfl | exact trivial | exact fun _ => rfl | exact Nat.le_of_ble_eq_true rfl | exact Option.some_ne_none _ | omega | (intro hh; cases hh; done) | assumption | (show (0 : Int) ≤ _; omega) | (rw [bPair]; omega) | (rw [bInt]; omega))) | (intro hh; first | (cases hh; done) | ((repeat' apply And.intro) <;> (first | first | exact rfl | exact trivial | exact fun _ => rfl | exact Nat.le_of_ble_eq_true rfl | exact Option.some_ne_none _ | omega | (intro hh; cases hh; done) | assumption | (show (0 : Int) ≤ _; omega) | (rw [bPair]; omega) | (rw [bInt]; omega)))))) | (refine And.intro ?_ ?_) | (intro hq; (try simp at hq); (try (exfalso; omega)); (try (revert hq; intro))))
    refine Exists.intro (left.eraseIdx i0, out ++ [left.getD i0 (0, 0)], m, (1, 73), _, _) ⟨⟨?_, .inr rfl⟩, (by first | omega | (dsimp only; omega)), ⟨?_, ⟨⟨rfl, ?_⟩, ⟨rfl, ?_⟩, trivial⟩, .nil⟩⟩
    · have e := hI.res
      rw [mv_take hf] at e
      refine ⟨?_, fun p hp => hI.spr p (List.mem_of_mem_eraseIdx hp), hm, ?_, ?_⟩
      · show (left.eraseIdx i0).length ≤ 250
        rw [List.length_eraseIdx, if_pos hlt]; omega
      · show (out ++ [left.getD i0 (0, 0)]) ++ mv spare m (left.eraseIdx i0) = movesR l spare
        rw [← e, List.append_assoc]; rfl
      · show (out ++ [left.getD i0 (0, 0)]).length + m ≤ 600
        rw [List.length_append, List.length_singleton]; omega
    · refine ⟨.refs rfl rfl ?_, .refs rfl rfl ?_, .refl _, trivial⟩
      · show _ = (left.eraseIdx i0).length
        rw [List.length_eraseIdx, if_pos hlt]; omega
      · show _ = (out ++ [left.getD i0 (0, 0)]).length
        rw [List.length_append]; rfl
    · exact .refl _
    · exact .refl _
  rename_i hq1 h1
  have hf : firstFree left = none := by
    obtain ⟨_, h⟩ | ⟨i0, rfl, _⟩ := ha
    · rw [List.take_of_length_le (by simp; omega)] at h
      unfold firstFree; rw [h]; rfl
    · omega
  obtain ⟨m, rfl, hm⟩ := μL_break hf h0 hI.spr hI.fuel
  obtain ⟨x0, hd⟩ : ∃ x, left.getD 0 (0, 0) = x := ⟨_, rfl⟩
  have hd' : (left.getD (0 + Int.toNat 0) (0, 0)).1 = x0.1 := by rw [← hd]; rfl
  rw [hd] at hm
  refine Exists.intro (oprs [(spare, x0.1)]) (And.intro ?_ (And.intro (by first | rfl | exact shape_prs (by simp) | exact shape_ints (by simp)) ?_))
  · exact one_pair _ rfl rfl (.refl _) (.int hd')
  repeat' (first | (refine And.intro ?_ ?_; focus (first | first | first | exact rfl | exact trivial | exact fun _ => rfl | exact Nat.le_of_ble_eq_true rfl | exact Option.some_ne_none _ | omega | (intro hh; cases hh; done) | assumption | (show (0 : Int) ≤ _; omega) | (rw [bPair]; omega) | (rw [bInt]; omega) | exact fun hh => hh | omega | ((refine ⟨fun hh => ?_, fun hh => ?_⟩) <;> (first | exact rfl | exact beq_iff_eq.2 hh)) | ((repeat' apply And.intro) <;> (first | first | exact rfl | exact trivial | exact fun _ => rfl | exact Nat.le_of_ble_eq_true rfl | exact Option.some_ne_none _ | omega | (intro hh; cases hh; done) | assumption | (show (0 : Int) ≤ _; omega) | (rw [bPair]; omega) | (rw [bInt]; omega))) | (intro hh; first | (cases hh; done) | ((repeat' apply And.intro) <;> (first | first | exact rfl | exact trivial | exact fun _ => rfl | exact Nat.le_of_ble_eq_true rfl | exact Option.some_ne_none _ | omega | (intro hh; cases hh; done) | assumption | (show (0 : Int) ≤ _; omega) | (rw [bPair]; omega) | (rw [bInt]; omega)))))) | (refine And.intro ?_ ?_) | (intro hq; (try simp at hq); (try (exfalso; omega)); (try (revert hq; intro))))
  refine Exists.intro (oprs (out ++ [(spare, x0.1)])) (And.intro ?_ (And.intro (by first | rfl | exact shape_prs (by simp) | exact shape_ints (by simp)) ?_))
  · exact app_prs rfl rfl (fun i o hi ho => by (try dsimp only); rw [if_pos hi]; exact .refl _) (fun i o hi ho => by (try dsimp only); rw [if_neg (by omega), Nat.add_sub_cancel_left]; (try rw [cellV_pcell]); simp only [Nat.zero_add]; exact .refl _)
  refine Exists.elim ⟨_, rfl⟩ fun v3 (hv3 : nv + 1 + 1 + 1 + 1 + 1 + 1 + 1 + 1 + 1 + 1 + 1 + 1 + 1 + 1 + 1 + 1 + 1 + 1 + 1 + 1 = v3) => ?_
  rw [hv3]
  refine loopS mx (by decide) (by kernel_rfl) (fun k : Nat => k ≤ left.length) (fun k => [(12, .int .i64 k), (6, .ref (1, 1000) v [] 2 0 left.length), (8, .ref (1, 1001) v3 [] 2 0 (out ++ [(spare, x0.1)]).length), (1, .int .i64 spare), (11, .int .i64 x0.1)])
    (fun k => [((1, 1000), ⟨v, oprs (sb left x0.1 spare k)⟩), ((1, 1001), ⟨v3, oprs (out ++ [(spare, x0.1)])⟩)]) (fun k => left.length - k) 0 (by simp) ⟨?_, ?_, .nil⟩ ?_
  · exact ⟨.refl _, .refl _, .refs rfl rfl (by rw [List.length_append]; rfl), .refl _, .int hd', trivial⟩
  · refine ⟨⟨rfl, ?_⟩, ⟨rfl, .refl _⟩, trivial⟩
    show NEq (oprs left) (oprs (sb left x0.1 spare 0))
    unfold sb; simp only [List.take_zero, List.map_nil, List.nil_append, List.drop_zero]; exact .refl _
  intro k nv hk
  have hsl := sb_len left x0.1 spare k
  have hsl' := sb_len left x0.1 spare (k + 1)
  have hget : (sb left x0.1 spare k)[k]?.getD (0, 0) = left.getD k (0, 0) := by
    have := sb_getD left x0.1 spare k k
    rw [if_neg (by omega)] at this
    rw [← this, List.getD_eq_getElem?_getD]
  have hone : ∀ j, (sb left x0.1 spare (k + 1)).getD j (0, 0) = if j = k ∧ j < left.length then subst1 x0.1 spare (left.getD k (0, 0)) else (sb left x0.1 spare k).getD j (0, 0) := fun j => by
    rw [sb_getD, sb_getD]
    by_cases h1 : j = k
    · subst h1
      by_cases h2 : j < left.length
      · rw [if_pos ⟨by omega, h2⟩, if_pos ⟨rfl, h2⟩]
      · rw [if_neg (by omega), if_neg (by omega), if_neg (by omega)]
    · rw [if_neg (c := j = k ∧ j < left.length) (by omega)]
      by_cases h2 : j < k ∧ j < left.length
      · rw [if_pos h2, if_pos (by omega)]
      · rw [if_neg h2, if_neg (by omega)]
  repeat' (first | (refine And.intro ?_ ?_; focus (first | first | first | exact rfl | exact trivial | exact fun _ => rfl | exact Nat.le_of_ble_eq_true rfl | exact Option.some_ne_none _ | omega | (intro hh; cases hh; done) | assumption | (show (0 : Int) ≤ _; omega) | (rw [bPair]; omega) | (rw [bInt]; omega) | exact fun hh => hh | omega | ((refine ⟨fun hh => ?_, fun hh => ?_⟩) <;> (first | exact rfl | exact beq_iff_eq.2 hh)) | ((repeat' apply And.intro) <;> (first | first | exact rfl | exact trivial | exact fun _ => rfl | exact Nat.le_of_ble_eq_true rfl | exact Option.some_ne_none _ | omega | (intro hh; cases hh; done) | assumption | (show (0 : Int) ≤ _; omega) | (rw [bPair]; omega) | (rw [bInt]; omega))) | (intro hh; first | (cases hh; done) | ((repeat' apply And.intro) <;> (first | first | exact rfl | exact trivial | exact fun _ => rfl | exact Nat.le_of_ble_eq_true rfl | exact Option.some_ne_none _ | omega | (intro hh; cases hh; done) | assumption | (show (0 : Int) ≤ _; omega) | (rw [bPair]; omega) | (rw [bInt]; omega)))))) | (refine And.intro ?_ ?_) | (intro hq; (try simp at hq); (try (exfalso; omega)); (try (revert hq; intro))))
  · rename_i h2 h3 o ho
    exact shape_pcell _ _
  · rename_i h2 h3
    refine Exists.intro (oprs (sb left x0.1 spare (k + 1))) (And.intro ?_ (And.intro (shape_prs (hsl.trans hsl'.symm)) ?_))
    · refine NEq.owns rfl (hsl.trans hsl'.symm) fun j o hj ho => ?_
      show NEq (if j = 0 + (k : Int).toNat ∧ 1 ≤ o ∧ o < 2 then List.getD [PV.int .i64 spare] (o - 1) .undef else pcell ((sb left x0.1 spare k).getD j (0, 0)) o) _
      rw [hone j]
      rw [hget] at h3
      by_cases h : j = k
      · rw [if_pos (c := j = k ∧ j < left.length) ⟨h, by omega⟩, h]
        have hs : (sb left x0.1 spare k).getD k (0, 0) = left.getD k (0, 0) := by rw [List.getD_eq_getElem?_getD, hget]
        rw [hs, subst1, if_pos h3]
        obtain rfl | rfl : o = 0 ∨ o = 1 := by omega
        · rw [if_neg (by omega)]; exact .refl _
        · rw [if_pos ⟨by omega, by omega, by omega⟩]; exact .refl _
      · rw [if_neg (by omega), if_neg (by omega)]; exact .refl _
    repeat' (first | (refine And.intro ?_ ?_; focus (first | first | first | exact rfl | exact trivial | exact fun _ => rfl | exact Nat.le_of_ble_eq_true rfl | exact Option.some_ne_none _ | omega | (intro hh; cases hh; done) | assumption | (show (0 : Int) ≤ _; omega) | (rw [bPair]; omega) | (rw [bInt]; omega) | exact fun hh => hh | omega | ((refine ⟨fun hh => ?_, fun hh => ?_⟩) <;> (first | exact rfl | exact beq_iff_eq.2 hh)) | ((repeat' apply And.intro) <;> (first | first | exact rfl | exact trivial | exact fun _ => rfl | exact Nat.le_of_ble_eq_true rfl | exact Option.some_ne_none _ | omega | (intro hh; cases hh; done) | assumption | (show (0 : Int) ≤ _; omega) | (rw [bPair]; omega) | (rw [bInt]; omega))) | (intro hh; first | (cases hh; done) | ((repeat' apply And.intro) <;> (first | first | exact rfl | exact trivial | exact fun _ => rfl | exact Nat.le_of_ble_eq_true rfl | exact Option.some_ne_none _ | omega | (intro hh; cases hh; done) | assumption | (show (0 : Int) ≤ _; omega) | (rw [bPair]; omega) | (rw [bInt]; omega)))))) | (refine And.intro ?_ ?_) | (intro hq; (try simp at hq); (try (exfalso; omega)); (try (revert hq; intro))))
    exact Exists.intro (k+1) ⟨h2, (by first | omega | (dsimp only; omega)), ⟨by ((repeat' apply And.intro) <;> (first | exact True.intro | exact NEq.refl _ | (refine NEq.int ?_; first | exact rfl | omega | (rw [wrapI (by omega)]; first | exact rfl | omega)))), ⟨⟨rfl, .refl _⟩, ⟨rfl, .refl _⟩, trivial⟩, .nil⟩⟩
  · rename_i h2 h3
    refine Exists.intro (k+1) ⟨h2, (by first | omega | (dsimp only; omega)), ⟨by ((repeat' apply And.intro) <;> (first | exact True.intro | exact NEq.refl _ | (refine NEq.int ?_; first | exact rfl | omega | (rw [wrapI (by omega)]; first | exact rfl | omega)))), ⟨⟨rfl, ?_⟩, ⟨rfl, .refl _⟩, trivial⟩, .nil⟩⟩
    show NEq (oprs _) (oprs (sb left x0.1 spare (k + 1)))
    refine NEq.owns rfl (hsl.trans hsl'.symm) fun j o hj ho => ?_
    rw [hone j]
    by_cases h : j = k
    · rw [if_pos ⟨h, by omega⟩, h]
      rw [hget] at h3
      rw [List.getD_eq_getElem?_getD, hget, subst1, if_neg h3]
      exact .refl _
    · rw [if_neg (by omega)]; exact .refl _
  rename_i h2
  have hke : k = left.length := by omega
  rw [hke, sb_all]
  refine Exists.intro (left.map (subst1 x0.1 spare), out ++ [(spare, x0.1)], m, (1, 1000), _, _) ⟨⟨?_, .inl rfl⟩, (by first | omega | (dsimp only; omega)), ⟨?_, ⟨⟨rfl, .refl _⟩, ⟨rfl, .refl _⟩, trivial⟩, .nil⟩⟩
  · have e := hI.res
    rw [mv_break hf h0, hd] at e
    refine ⟨?_, fun p hp => ?_, hm, ?_, ?_⟩
    · show (left.map (subst1 x0.1 spare)).length ≤ 250
      rw [List.length_map]; exact hll
    · obtain ⟨q, hq, rfl⟩ := List.mem_map.1 hp
      have := hI.spr q hq
      unfold subst1; split <;> exact this
    · show (out ++ [(spare, x0.1)]) ++ mv spare m (left.map (subst1 x0.1 spare)) = movesR l spare
      rw [← e, List.append_assoc]; rfl
    · show (out ++ [(spare, x0.1)]).length + m ≤ 600
      rw [List.length_append, List.length_singleton]; omega
  · exact ⟨.refs rfl rfl (by show _ = (left.map (subst1 x0.1 spare)).length; rw [List.length_map]), .refl _, .refl _, trivial⟩
end Go.Ab
/- Functions over functions. -/
namespace Go.Ab
open Go.Proofs
set_option maxRecDepth 100000
set_option maxHeartbeats 1000000

def pv2 (x : Int × Int) : PV := .agg [.int .i64 x.1, .int .i64 x.2]
/-- The first place of one, or -1. -/
def idxI (p : Int × Int → Bool) (l : List (Int × Int)) : Int := match l.findIdx? p with
  | some i => i
  | none => -1

theorem idx_take {p : Int × Int → Bool} {l : List (Int × Int)} {k : Nat} (hk : k < l.length) (hn : (l.take k).any p = false) : (p (l.getD k (0, 0)) = true → idxI p l = k) ∧ (p (l.getD k (0, 0)) = false → (l.take (k + 1)).any p = false) := by
  constructor
  · intro h
    have : l.findIdx? p = some k := by
      rw [List.findIdx?_eq_some_iff_getElem]
      refine ⟨hk, by simpa [List.getD_eq_getElem?_getD, hk] using h, fun j hj => ?_⟩
      rw [List.any_eq_false] at hn
      exact hn l[j] (List.mem_iff_getElem.2 ⟨j, by simp; omega, by simp⟩)
    simp [idxI, this]
  · intro h
    rw [List.take_add_one, List.any_append, hn]
    simp [hk]
    simpa [List.getD_eq_getElem?_getD, hk] using h
theorem idx_none {p : Int × Int → Bool} {l : List (Int × Int)} (h : l.any p = false) : idxI p l = -1 := by
  have : l.findIdx? p = none := by
    rw [List.findIdx?_eq_none_iff]
    intro x hx
    have := List.any_eq_false.1 h x hx
    simpa using this
  simp [idxI, this]

theorem idx_any (l : List (Int × Int)) (p : Int × Int → Bool) : decide (idxI p l ≥ 0) = l.any p := by
  unfold idxI
  cases h : l.findIdx? p with
  | some i =>
    have : l.any p = true := by
      rw [List.findIdx?_eq_some_iff_getElem] at h
      obtain ⟨h1, h2, _⟩ := h
      exact List.any_eq_true.2 ⟨_, List.getElem_mem h1, h2⟩
    rw [this]
    simp
  | none =>
    have : l.any p = false := by
      rw [List.findIdx?_eq_none_iff] at h
      exact List.any_eq_false.2 fun x hx => by rw [h x hx]; simp
    rw [this]
    simp
theorem IndexFunc0 (l : List (Int × Int)) (g : FuncId) (p : Int × Int → Bool) (hp : ∀ x, CallsF Try.prog g [pv2 x] (.bool (p x))) : CallsF Try.prog 30 [prs l, .func (.func g) [] []] (.int .i64 (idxI p l)) := by
  refine callsF_ofS mx Try.call30 Try.func30 rfl Try.ntmps30 Try.results30 (by kernel_rfl) (by simp) fun lo => ?_
  repeat' (first | (refine And.intro ?_ ?_; focus (first | first | first | exact rfl | exact trivial | exact fun _ => rfl | exact Nat.le_of_ble_eq_true rfl | exact Option.some_ne_none _ | omega | (intro hh; cases hh; done) | assumption | (show (0 : Int) ≤ _; omega) | (rw [bPair]; omega) | (rw [bInt]; omega) | exact fun hh => hh | omega | ((refine ⟨fun hh => ?_, fun hh => ?_⟩) <;> (first | exact rfl | exact beq_iff_eq.2 hh)) | ((repeat' apply And.intro) <;> (first | first | exact rfl | exact trivial | exact fun _ => rfl | exact Nat.le_of_ble_eq_true rfl | exact Option.some_ne_none _ | omega | (intro hh; cases hh; done) | assumption | (show (0 : Int) ≤ _; omega) | (rw [bPair]; omega) | (rw [bInt]; omega))) | (intro hh; first | (cases hh; done) | ((repeat' apply And.intro) <;> (first | first | exact rfl | exact trivial | exact fun _ => rfl | exact Nat.le_of_ble_eq_true rfl | exact Option.some_ne_none _ | omega | (intro hh; cases hh; done) | assumption | (show (0 : Int) ≤ _; omega) | (rw [bPair]; omega) | (rw [bInt]; omega)))))) | (refine And.intro ?_ ?_) | (intro hq; (try simp at hq); (try (exfalso; omega)); (try (revert hq; intro))))
  rename_i hlen
  refine loopS mx (by decide) (by kernel_rfl) (fun k : Nat => k ≤ l.length ∧ (l.take k).any p = false) (fun k => [(8, .int .i64 k), (7, .int .i64 l.length), (0, prs l), (1, .func (.func g) [] [])]) (fun _ => []) (fun k => l.length - k) 0 (by simp) ⟨by ((repeat' apply And.intro) <;> (first | exact True.intro | exact NEq.refl _ | (refine NEq.int ?_; first | exact rfl | omega | (rw [wrapI (by omega)]; first | exact rfl | omega)))), trivial, .nil⟩ ?_
  intro k nv ⟨hk, hn⟩
  repeat' (first | (refine And.intro ?_ ?_; focus (first | first | first | exact rfl | exact trivial | exact fun _ => rfl | exact Nat.le_of_ble_eq_true rfl | exact Option.some_ne_none _ | omega | (intro hh; cases hh; done) | assumption | (show (0 : Int) ≤ _; omega) | (rw [bPair]; omega) | (rw [bInt]; omega) | exact fun hh => hh | omega | ((refine ⟨fun hh => ?_, fun hh => ?_⟩) <;> (first | exact rfl | exact beq_iff_eq.2 hh)) | ((repeat' apply And.intro) <;> (first | first | exact rfl | exact trivial | exact fun _ => rfl | exact Nat.le_of_ble_eq_true rfl | exact Option.some_ne_none _ | omega | (intro hh; cases hh; done) | assumption | (show (0 : Int) ≤ _; omega) | (rw [bPair]; omega) | (rw [bInt]; omega))) | (intro hh; first | (cases hh; done) | ((repeat' apply And.intro) <;> (first | first | exact rfl | exact trivial | exact fun _ => rfl | exact Nat.le_of_ble_eq_true rfl | exact Option.some_ne_none _ | omega | (intro hh; cases hh; done) | assumption | (show (0 : Int) ≤ _; omega) | (rw [bPair]; omega) | (rw [bInt]; omega)))))) | (refine And.intro ?_ ?_) | (intro hq; (try simp at hq); (try (exfalso; omega)); (try (revert hq; intro))))
  · rename_i h1
    have hi := idx_take h1 hn
    refine CallS.frozen (.bool (p (l.getD k (0, 0)))) (hp (l.getD k (0, 0))) (plainAll rfl) ?_
    repeat' (first | (refine And.intro ?_ ?_; focus (first | first | first | exact rfl | exact trivial | exact fun _ => rfl | exact Nat.le_of_ble_eq_true rfl | exact Option.some_ne_none _ | omega | (intro hh; cases hh; done) | assumption | (show (0 : Int) ≤ _; omega) | (rw [bPair]; omega) | (rw [bInt]; omega) | exact fun hh => hh | omega | ((refine ⟨fun hh => ?_, fun hh => ?_⟩) <;> (first | exact rfl | exact beq_iff_eq.2 hh)) | ((repeat' apply And.intro) <;> (first | first | exact rfl | exact trivial | exact fun _ => rfl | exact Nat.le_of_ble_eq_true rfl | exact Option.some_ne_none _ | omega | (intro hh; cases hh; done) | assumption | (show (0 : Int) ≤ _; omega) | (rw [bPair]; omega) | (rw [bInt]; omega))) | (intro hh; first | (cases hh; done) | ((repeat' apply And.intro) <;> (first | first | exact rfl | exact trivial | exact fun _ => rfl | exact Nat.le_of_ble_eq_true rfl | exact Option.some_ne_none _ | omega | (intro hh; cases hh; done) | assumption | (show (0 : Int) ≤ _; omega) | (rw [bPair]; omega) | (rw [bInt]; omega)))))) | (refine And.intro ?_ ?_) | (intro hq; (try simp at hq); (try (exfalso; omega)); (try (revert hq; intro))))
    · rename_i h2
      refine NEq.int ?_
      exact (hi.1 h2).symm
    · rename_i h2
      exact Exists.intro (k+1) ⟨⟨h1, hi.2 h2⟩, (by first | omega | (dsimp only; omega)), ⟨by ((repeat' apply And.intro) <;> (first | exact True.intro | exact NEq.refl _ | (refine NEq.int ?_; first | exact rfl | omega | (rw [wrapI (by omega)]; first | exact rfl | omega)))), trivial, .nil⟩⟩
  · rename_i h1
    rw [List.take_of_length_le h1] at hn
    refine NEq.int ?_
    exact (idx_none hn).symm
theorem IndexFunc1 (l : List (Int × Int)) (g : FuncId) (c : PV) (p : Int × Int → Bool) (hc : plainArg c) (hp : ∀ x, CallsF Try.prog g [pv2 x, c] (.bool (p x))) : CallsF Try.prog 30 [prs l, .func (.func g) [] [c]] (.int .i64 (idxI p l)) := by
  refine callsF_ofS mx Try.call30 Try.func30 rfl Try.ntmps30 Try.results30 (by kernel_rfl) (by simp) fun lo => ?_
  repeat' (first | (refine And.intro ?_ ?_; focus (first | first | first | exact rfl | exact trivial | exact fun _ => rfl | exact Nat.le_of_ble_eq_true rfl | exact Option.some_ne_none _ | omega | (intro hh; cases hh; done) | assumption | (show (0 : Int) ≤ _; omega) | (rw [bPair]; omega) | (rw [bInt]; omega) | exact fun hh => hh | omega | ((refine ⟨fun hh => ?_, fun hh => ?_⟩) <;> (first | exact rfl | exact beq_iff_eq.2 hh)) | ((repeat' apply And.intro) <;> (first | first | exact rfl | exact trivial | exact fun _ => rfl | exact Nat.le_of_ble_eq_true rfl | exact Option.some_ne_none _ | omega | (intro hh; cases hh; done) | assumption | (show (0 : Int) ≤ _; omega) | (rw [bPair]; omega) | (rw [bInt]; omega))) | (intro hh; first | (cases hh; done) | ((repeat' apply And.intro) <;> (first | first | exact rfl | exact trivial | exact fun _ => rfl | exact Nat.le_of_ble_eq_true rfl | exact Option.some_ne_none _ | omega | (intro hh; cases hh; done) | assumption | (show (0 : Int) ≤ _; omega) | (rw [bPair]; omega) | (rw [bInt]; omega)))))) | (refine And.intro ?_ ?_) | (intro hq; (try simp at hq); (try (exfalso; omega)); (try (revert hq; intro))))
  rename_i hlen
  refine loopS mx (by decide) (by kernel_rfl) (fun k : Nat => k ≤ l.length ∧ (l.take k).any p = false) (fun k => [(8, .int .i64 k), (7, .int .i64 l.length), (0, prs l), (1, .func (.func g) [] [c])]) (fun _ => []) (fun k => l.length - k) 0 (by simp) ⟨by ((repeat' apply And.intro) <;> (first | exact True.intro | exact NEq.refl _ | (refine NEq.int ?_; first | exact rfl | omega | (rw [wrapI (by omega)]; first | exact rfl | omega)))), trivial, .nil⟩ ?_
  intro k nv ⟨hk, hn⟩
  repeat' (first | (refine And.intro ?_ ?_; focus (first | first | first | exact rfl | exact trivial | exact fun _ => rfl | exact Nat.le_of_ble_eq_true rfl | exact Option.some_ne_none _ | omega | (intro hh; cases hh; done) | assumption | (show (0 : Int) ≤ _; omega) | (rw [bPair]; omega) | (rw [bInt]; omega) | exact fun hh => hh | omega | ((refine ⟨fun hh => ?_, fun hh => ?_⟩) <;> (first | exact rfl | exact beq_iff_eq.2 hh)) | ((repeat' apply And.intro) <;> (first | first | exact rfl | exact trivial | exact fun _ => rfl | exact Nat.le_of_ble_eq_true rfl | exact Option.some_ne_none _ | omega | (intro hh; cases hh; done) | assumption | (show (0 : Int) ≤ _; omega) | (rw [bPair]; omega) | (rw [bInt]; omega))) | (intro hh; first | (cases hh; done) | ((repeat' apply And.intro) <;> (first | first | exact rfl | exact trivial | exact fun _ => rfl | exact Nat.le_of_ble_eq_true rfl | exact Option.some_ne_none _ | omega | (intro hh; cases hh; done) | assumption | (show (0 : Int) ≤ _; omega) | (rw [bPair]; omega) | (rw [bInt]; omega)))))) | (refine And.intro ?_ ?_) | (intro hq; (try simp at hq); (try (exfalso; omega)); (try (revert hq; intro))))
  · rename_i h1
    have hi := idx_take h1 hn
    refine CallS.frozen (.bool (p (l.getD k (0, 0)))) (hp (l.getD k (0, 0))) (plainCons (plainLB_plainL rfl) (plainCons (plainArg_L hc) plainNil)) ?_
    repeat' (first | (refine And.intro ?_ ?_; focus (first | first | first | exact rfl | exact trivial | exact fun _ => rfl | exact Nat.le_of_ble_eq_true rfl | exact Option.some_ne_none _ | omega | (intro hh; cases hh; done) | assumption | (show (0 : Int) ≤ _; omega) | (rw [bPair]; omega) | (rw [bInt]; omega) | exact fun hh => hh | omega | ((refine ⟨fun hh => ?_, fun hh => ?_⟩) <;> (first | exact rfl | exact beq_iff_eq.2 hh)) | ((repeat' apply And.intro) <;> (first | first | exact rfl | exact trivial | exact fun _ => rfl | exact Nat.le_of_ble_eq_true rfl | exact Option.some_ne_none _ | omega | (intro hh; cases hh; done) | assumption | (show (0 : Int) ≤ _; omega) | (rw [bPair]; omega) | (rw [bInt]; omega))) | (intro hh; first | (cases hh; done) | ((repeat' apply And.intro) <;> (first | first | exact rfl | exact trivial | exact fun _ => rfl | exact Nat.le_of_ble_eq_true rfl | exact Option.some_ne_none _ | omega | (intro hh; cases hh; done) | assumption | (show (0 : Int) ≤ _; omega) | (rw [bPair]; omega) | (rw [bInt]; omega)))))) | (refine And.intro ?_ ?_) | (intro hq; (try simp at hq); (try (exfalso; omega)); (try (revert hq; intro))))
    · rename_i h2
      refine NEq.int ?_
      exact (hi.1 h2).symm
    · rename_i h2
      exact Exists.intro (k+1) ⟨⟨h1, hi.2 h2⟩, (by first | omega | (dsimp only; omega)), ⟨by ((repeat' apply And.intro) <;> (first | exact True.intro | exact NEq.refl _ | (refine NEq.int ?_; first | exact rfl | omega | (rw [wrapI (by omega)]; first | exact rfl | omega)))), trivial, .nil⟩⟩
  · rename_i h1
    rw [List.take_of_length_le h1] at hn
    refine NEq.int ?_
    exact (idx_none hn).symm
theorem ContainsFunc1 (l : List (Int × Int)) (g : FuncId) (c : PV) (p : Int × Int → Bool) (hc : plainArg c) (hp : ∀ x, CallsF Try.prog g [pv2 x, c] (.bool (p x))) : CallsF Try.prog 32 [prs l, .func (.func g) [] [c]] (.bool (l.any p)) := by
  refine callsF_ofS mx Try.call32 Try.func32 rfl Try.ntmps32 Try.results32 (by kernel_rfl) (by simp) fun lo => ?_
  refine CallS.frozen (.int .i64 (idxI p l)) (IndexFunc1 l g c p hc hp) (plainCons (plainLB_plainL rfl) (plainCons ⟨fun _ h => (by cases h), fun x h => (by rw [List.mem_singleton] at h; subst h; exact hc)⟩ plainNil)) ?_
  repeat' (first | (refine And.intro ?_ ?_; focus (first | first | first | exact rfl | exact trivial | exact fun _ => rfl | exact Nat.le_of_ble_eq_true rfl | exact Option.some_ne_none _ | omega | (intro hh; cases hh; done) | assumption | (show (0 : Int) ≤ _; omega) | (rw [bPair]; omega) | (rw [bInt]; omega) | exact fun hh => hh | omega | ((refine ⟨fun hh => ?_, fun hh => ?_⟩) <;> (first | exact rfl | exact beq_iff_eq.2 hh)) | ((repeat' apply And.intro) <;> (first | first | exact rfl | exact trivial | exact fun _ => rfl | exact Nat.le_of_ble_eq_true rfl | exact Option.some_ne_none _ | omega | (intro hh; cases hh; done) | assumption | (show (0 : Int) ≤ _; omega) | (rw [bPair]; omega) | (rw [bInt]; omega))) | (intro hh; first | (cases hh; done) | ((repeat' apply And.intro) <;> (first | first | exact rfl | exact trivial | exact fun _ => rfl | exact Nat.le_of_ble_eq_true rfl | exact Option.some_ne_none _ | omega | (intro hh; cases hh; done) | assumption | (show (0 : Int) ≤ _; omega) | (rw [bPair]; omega) | (rw [bInt]; omega)))))) | (refine And.intro ?_ ?_) | (intro hq; (try simp at hq); (try (exfalso; omega)); (try (revert hq; intro))))
  (refine NEq.of_eq ?_; show PV.bool _ = PV.bool _; congr 1)
  exact idx_any l p

theorem eqP (x : Int × Int) : CallsF Try.prog 29 [pv2 x] (.bool (x.1 == x.2)) := by
  refine callsF_ofS mx Try.call29 Try.func29 rfl Try.ntmps29 Try.results29 (by kernel_rfl) (by simp) fun lo => ?_
  repeat' (first | (refine And.intro ?_ ?_; focus (first | first | first | exact rfl | exact trivial | exact fun _ => rfl | exact Nat.le_of_ble_eq_true rfl | exact Option.some_ne_none _ | omega | (intro hh; cases hh; done) | assumption | (show (0 : Int) ≤ _; omega) | (rw [bPair]; omega) | (rw [bInt]; omega) | exact fun hh => hh | omega | ((refine ⟨fun hh => ?_, fun hh => ?_⟩) <;> (first | exact rfl | exact beq_iff_eq.2 hh)) | ((repeat' apply And.intro) <;> (first | first | exact rfl | exact trivial | exact fun _ => rfl | exact Nat.le_of_ble_eq_true rfl | exact Option.some_ne_none _ | omega | (intro hh; cases hh; done) | assumption | (show (0 : Int) ≤ _; omega) | (rw [bPair]; omega) | (rw [bInt]; omega))) | (intro hh; first | (cases hh; done) | ((repeat' apply And.intro) <;> (first | first | exact rfl | exact trivial | exact fun _ => rfl | exact Nat.le_of_ble_eq_true rfl | exact Option.some_ne_none _ | omega | (intro hh; cases hh; done) | assumption | (show (0 : Int) ≤ _; omega) | (rw [bPair]; omega) | (rw [bInt]; omega)))))) | (refine And.intro ?_ ?_) | (intro hq; (try simp at hq); (try (exfalso; omega)); (try (revert hq; intro))))
  (refine NEq.of_eq ?_; show PV.bool _ = PV.bool _; congr 1)

theorem neP (x m : Int × Int) : (!(x.1 == m.1 && (x.2 == m.2 && true))) = (x != m) := by
  obtain ⟨a, b⟩ := x
  obtain ⟨c, d⟩ := m
  rw [Bool.eq_iff_iff]
  simp
  omega
  
theorem eqM (m x : Int × Int) : CallsF Try.prog 33 [pv2 x, .fptr 2 (pcell m) 0] (.bool (x != m && x.2 == m.1)) := by
  refine callsF_ofS mx Try.call33 Try.func33 rfl Try.ntmps33 Try.results33 (by kernel_rfl) (by simp) fun lo => ?_
  repeat' (first | (refine And.intro ?_ ?_; focus (first | first | first | exact rfl | exact trivial | exact fun _ => rfl | exact Nat.le_of_ble_eq_true rfl | exact Option.some_ne_none _ | omega | (intro hh; cases hh; done) | assumption | (show (0 : Int) ≤ _; omega) | (rw [bPair]; omega) | (rw [bInt]; omega) | exact fun hh => hh | omega | ((refine ⟨fun hh => ?_, fun hh => ?_⟩) <;> (first | exact rfl | exact beq_iff_eq.2 hh)) | ((repeat' apply And.intro) <;> (first | first | exact rfl | exact trivial | exact fun _ => rfl | exact Nat.le_of_ble_eq_true rfl | exact Option.some_ne_none _ | omega | (intro hh; cases hh; done) | assumption | (show (0 : Int) ≤ _; omega) | (rw [bPair]; omega) | (rw [bInt]; omega))) | (intro hh; first | (cases hh; done) | ((repeat' apply And.intro) <;> (first | first | exact rfl | exact trivial | exact fun _ => rfl | exact Nat.le_of_ble_eq_true rfl | exact Option.some_ne_none _ | omega | (intro hh; cases hh; done) | assumption | (show (0 : Int) ≤ _; omega) | (rw [bPair]; omega) | (rw [bInt]; omega)))))) | (refine And.intro ?_ ?_) | (intro hq; (try simp at hq); (try (exfalso; omega)); (try (revert hq; intro))))
  (refine NEq.of_eq ?_; show PV.bool _ = PV.bool _; congr 1)
  rw [← neP]
  cases h : (!(x.1 == m.1 && (x.2 == m.2 && true))) <;> rfl

theorem freeP (left : List (Int × Int)) (m : Int × Int) : CallsF Try.prog 31 [pv2 m, .fptr 1 (fun _ => prs left) 0] (.bool !(left.any fun x => x != m && x.2 == m.1)) := by
  refine callsF_ofS mx Try.call31 Try.func31 rfl Try.ntmps31 Try.results31 (by kernel_rfl) (by simp) fun lo => ?_
  repeat' (first | (refine And.intro ?_ ?_; focus (first | first | first | exact rfl | exact trivial | exact fun _ => rfl | exact Nat.le_of_ble_eq_true rfl | exact Option.some_ne_none _ | omega | (intro hh; cases hh; done) | assumption | (show (0 : Int) ≤ _; omega) | (rw [bPair]; omega) | (rw [bInt]; omega) | exact fun hh => hh | omega | ((refine ⟨fun hh => ?_, fun hh => ?_⟩) <;> (first | exact rfl | exact beq_iff_eq.2 hh)) | ((repeat' apply And.intro) <;> (first | first | exact rfl | exact trivial | exact fun _ => rfl | exact Nat.le_of_ble_eq_true rfl | exact Option.some_ne_none _ | omega | (intro hh; cases hh; done) | assumption | (show (0 : Int) ≤ _; omega) | (rw [bPair]; omega) | (rw [bInt]; omega))) | (intro hh; first | (cases hh; done) | ((repeat' apply And.intro) <;> (first | first | exact rfl | exact trivial | exact fun _ => rfl | exact Nat.le_of_ble_eq_true rfl | exact Option.some_ne_none _ | omega | (intro hh; cases hh; done) | assumption | (show (0 : Int) ≤ _; omega) | (rw [bPair]; omega) | (rw [bInt]; omega)))))) | (refine And.intro ?_ ?_) | (intro hq; (try simp at hq); (try (exfalso; omega)); (try (revert hq; intro))))
  refine CallS.plain [prs left, .func (.func 33) [] [.fptr 2 (pcell m) 0]] (.bool (left.any fun x => x != m && x.2 == m.1)) (ContainsFunc1 left _ _ _ trivial (eqM m)) (.cons ?_ (.cons ?_ .nil)) trivial ?_
  · exact .refl _
  · refine .clos (.fptr fun o ho => ?_)
    obtain rfl | rfl : o = 0 ∨ o = 1 := by have : o < 2 := ho; omega
    · exact .refl _
    · exact .refl _
  repeat' (first | (refine And.intro ?_ ?_; focus (first | first | first | exact rfl | exact trivial | exact fun _ => rfl | exact Nat.le_of_ble_eq_true rfl | exact Option.some_ne_none _ | omega | (intro hh; cases hh; done) | assumption | (show (0 : Int) ≤ _; omega) | (rw [bPair]; omega) | (rw [bInt]; omega) | exact fun hh => hh | omega | ((refine ⟨fun hh => ?_, fun hh => ?_⟩) <;> (first | exact rfl | exact beq_iff_eq.2 hh)) | ((repeat' apply And.intro) <;> (first | first | exact rfl | exact trivial | exact fun _ => rfl | exact Nat.le_of_ble_eq_true rfl | exact Option.some_ne_none _ | omega | (intro hh; cases hh; done) | assumption | (show (0 : Int) ≤ _; omega) | (rw [bPair]; omega) | (rw [bInt]; omega))) | (intro hh; first | (cases hh; done) | ((repeat' apply And.intro) <;> (first | first | exact rfl | exact trivial | exact fun _ => rfl | exact Nat.le_of_ble_eq_true rfl | exact Option.some_ne_none _ | omega | (intro hh; cases hh; done) | assumption | (show (0 : Int) ≤ _; omega) | (rw [bPair]; omega) | (rw [bInt]; omega)))))) | (refine And.intro ?_ ?_) | (intro hq; (try simp at hq); (try (exfalso; omega)); (try (revert hq; intro))))
  (refine NEq.of_eq ?_; show PV.bool _ = PV.bool _; congr 1)
end Go.Ab
/- Functions that change slices. -/
namespace Go.Ab
open Go.Proofs
set_option maxRecDepth 100000
set_option maxHeartbeats 1000000

theorem Clone_spec (l : List (Int × Int)) (hl : l.length ≤ 1048576) : CallsO Try.prog 28 [prs l] (oprs l) (fun id ver => .ref id ver [] 2 0 l.length) := by
  refine callsO_ofS mx Try.call28 Try.func28 rfl Try.ntmps28 Try.results28 (by kernel_rfl) (by simp) fun lo => ?_
  repeat' (first | (refine And.intro ?_ ?_; focus (first | first | first | exact rfl | exact trivial | exact fun _ => rfl | exact Nat.le_of_ble_eq_true rfl | exact Option.some_ne_none _ | omega | (intro hh; cases hh; done) | assumption | (show (0 : Int) ≤ _; omega) | (rw [bPair]; omega) | (rw [bInt]; omega) | exact fun hh => hh | omega | ((refine ⟨fun hh => ?_, fun hh => ?_⟩) <;> (first | exact rfl | exact beq_iff_eq.2 hh)) | ((repeat' apply And.intro) <;> (first | first | exact rfl | exact trivial | exact fun _ => rfl | exact Nat.le_of_ble_eq_true rfl | exact Option.some_ne_none _ | omega | (intro hh; cases hh; done) | assumption | (show (0 : Int) ≤ _; omega) | (rw [bPair]; omega) | (rw [bInt]; omega))) | (intro hh; first | (cases hh; done) | ((repeat' apply And.intro) <;> (first | first | exact rfl | exact trivial | exact fun _ => rfl | exact Nat.le_of_ble_eq_true rfl | exact Option.some_ne_none _ | omega | (intro hh; cases hh; done) | assumption | (show (0 : Int) ≤ _; omega) | (rw [bPair]; omega) | (rw [bInt]; omega)))))) | (refine And.intro ?_ ?_) | (intro hq; (try simp at hq); (try (exfalso; omega)); (try (revert hq; intro))))
  · refine Exists.intro (PV.own 2 0 fun _ _ => .undef) (And.intro ?_ (And.intro (by first | rfl | exact shape_prs (by simp) | exact shape_ints (by simp)) ?_))
    · exact NEq.owns rfl rfl fun i o hi => absurd hi (by simp)
    repeat' (first | (refine And.intro ?_ ?_; focus (first | first | first | exact rfl | exact trivial | exact fun _ => rfl | exact Nat.le_of_ble_eq_true rfl | exact Option.some_ne_none _ | omega | (intro hh; cases hh; done) | assumption | (show (0 : Int) ≤ _; omega) | (rw [bPair]; omega) | (rw [bInt]; omega) | exact fun hh => hh | omega | ((refine ⟨fun hh => ?_, fun hh => ?_⟩) <;> (first | exact rfl | exact beq_iff_eq.2 hh)) | ((repeat' apply And.intro) <;> (first | first | exact rfl | exact trivial | exact fun _ => rfl | exact Nat.le_of_ble_eq_true rfl | exact Option.some_ne_none _ | omega | (intro hh; cases hh; done) | assumption | (show (0 : Int) ≤ _; omega) | (rw [bPair]; omega) | (rw [bInt]; omega))) | (intro hh; first | (cases hh; done) | ((repeat' apply And.intro) <;> (first | first | exact rfl | exact trivial | exact fun _ => rfl | exact Nat.le_of_ble_eq_true rfl | exact Option.some_ne_none _ | omega | (intro hh; cases hh; done) | assumption | (show (0 : Int) ≤ _; omega) | (rw [bPair]; omega) | (rw [bInt]; omega)))))) | (refine And.intro ?_ ?_) | (intro hq; (try simp at hq); (try (exfalso; omega)); (try (revert hq; intro))))
    · exact dry_pcell _ _
    refine Exists.intro (oprs l) (And.intro ?_ (And.intro (by first | rfl | exact shape_prs (by simp) | exact shape_ints (by simp)) ?_))
    · refine NEq.owns rfl (by simp) fun i o hi ho => ?_
      dsimp only
      rw [if_neg (by omega), Nat.sub_zero]
      exact .refl _
    exact .inl ⟨(1, 5), _, oprs l, rfl, [], (fun j => by simp only [lkH]; split <;> rfl), fun id ver => ⟨.refs rfl rfl (by simp), KpR_prs⟩⟩
  · rename_i h1 b h2
    subst h1
    exact .inr ⟨2, _, rfl, fun id ver => .nils rfl⟩
  · rename_i h1 b h2
    refine Exists.intro (PV.own 2 0 fun _ _ => .undef) (And.intro ?_ (And.intro (by first | rfl | exact shape_prs (by simp) | exact shape_ints (by simp)) ?_))
    · exact NEq.owns rfl rfl fun i o hi => absurd hi (by simp)
    repeat' (first | (refine And.intro ?_ ?_; focus (first | first | first | exact rfl | exact trivial | exact fun _ => rfl | exact Nat.le_of_ble_eq_true rfl | exact Option.some_ne_none _ | omega | (intro hh; cases hh; done) | assumption | (show (0 : Int) ≤ _; omega) | (rw [bPair]; omega) | (rw [bInt]; omega) | exact fun hh => hh | omega | ((refine ⟨fun hh => ?_, fun hh => ?_⟩) <;> (first | exact rfl | exact beq_iff_eq.2 hh)) | ((repeat' apply And.intro) <;> (first | first | exact rfl | exact trivial | exact fun _ => rfl | exact Nat.le_of_ble_eq_true rfl | exact Option.some_ne_none _ | omega | (intro hh; cases hh; done) | assumption | (show (0 : Int) ≤ _; omega) | (rw [bPair]; omega) | (rw [bInt]; omega))) | (intro hh; first | (cases hh; done) | ((repeat' apply And.intro) <;> (first | first | exact rfl | exact trivial | exact fun _ => rfl | exact Nat.le_of_ble_eq_true rfl | exact Option.some_ne_none _ | omega | (intro hh; cases hh; done) | assumption | (show (0 : Int) ≤ _; omega) | (rw [bPair]; omega) | (rw [bInt]; omega)))))) | (refine And.intro ?_ ?_) | (intro hq; (try simp at hq); (try (exfalso; omega)); (try (revert hq; intro))))
    · exact dry_pcell _ _
    refine Exists.intro (oprs l) (And.intro ?_ (And.intro (by first | rfl | exact shape_prs (by simp) | exact shape_ints (by simp)) ?_))
    · refine NEq.owns rfl (by simp) fun i o hi ho => ?_
      dsimp only
      rw [if_neg (by omega), Nat.sub_zero]
      exact .refl _
    exact .inl ⟨(1, 5), _, oprs l, rfl, [], (fun j => by simp only [lkH]; split <;> rfl), fun id ver => ⟨.refs rfl rfl (by simp), KpR_prs⟩⟩

theorem zero_row {o : Nat} : shapeOf (([.int .i64 0, .int .i64 0] : List PV).getD o .undef) = none := by
  match o with
  | 0 => rfl
  | 1 => rfl
  | o + 2 => rfl
theorem zero_cell {o : Nat} (h : o < 2) : NEq (([.int .i64 0, .int .i64 0] : List PV).getD o .undef) (pcell (0, 0) o) := by
  obtain rfl | rfl : o = 0 ∨ o = 1 := by omega
  · exact .refl _
  · exact .refl _
theorem getD_lt {xs ys : List (Int × Int)} {i : Nat} (h : i < xs.length) : (xs ++ ys).getD i (0, 0) = xs.getD i (0, 0) := by rw [getD_app, if_pos h]
theorem view_pre {k : Nat} {L : Hp} {r : RId} {v n : Nat} {l rest : List (Int × Int)} (h : lkH L r = some ⟨v, oprs (l ++ rest)⟩) (hn : n = l.length) : NEq (view (k + 2) L (.ref r v [] 2 0 n)) (prs l) := by
  subst hn
  rw [view, h]
  simp only [if_true, getAt, oprs]
  exact NEq.frzs rfl (by simp) fun i o hi _ => by rw [Nat.zero_add, getD_lt hi, view_pcell]; exact .refl _
/-- What Delete leaves in the block. -/
theorem del_getDx (x : Int × Int) (left rest : List (Int × Int)) (i j : Nat) (hi : i < left.length) : (left.eraseIdx i ++ x :: rest).getD j (0, 0) =
    if j < i then (left ++ rest).getD j (0, 0) else if j + 1 < left.length then (left ++ rest).getD (j + 1) (0, 0) else if j + 1 = left.length then x else (left ++ rest).getD j (0, 0) := by
  rw [getD_app, getD_app, getD_app, getD_erase, List.length_eraseIdx, if_pos hi]
  by_cases h1 : j < i
  · rw [if_pos (by omega), if_pos h1, if_pos h1, if_pos (by omega)]
  · rw [if_neg h1, if_neg h1]
    by_cases h2 : j + 1 < left.length
    · rw [if_pos (by omega), if_pos h2, if_pos h2]
    · rw [if_neg (by omega), if_neg h2]
      by_cases h3 : j + 1 = left.length
      · rw [if_pos h3, show j - (left.length - 1) = 0 by omega]; rfl
      · rw [if_neg h3, if_neg (by omega), show j - (left.length - 1) = (j - left.length) + 1 by omega]; rfl

theorem del_getD (left rest : List (Int × Int)) (i j : Nat) (hi : i < left.length) : (left.eraseIdx i ++ (0, 0) :: rest).getD j (0, 0) =
    if j < i then (left ++ rest).getD j (0, 0) else if j + 1 < left.length then (left ++ rest).getD (j + 1) (0, 0) else if j + 1 = left.length then (0, 0) else (left ++ rest).getD j (0, 0) := del_getDx (0, 0) left rest i j hi

theorem Delete_spec (left rest : List (Int × Int)) (i v nv : Nat) (S : Hp) (hS : Above 2 S) (hi : i < left.length) (hN2 : left.length + rest.length ≤ 1048576) :
    CallsA Try.prog 34 [.ref (1, 80) v [] 2 0 left.length, .int .i64 i, .int .i64 (i + 1)] ([((1, 80), ⟨v, oprs (left ++ rest)⟩)] ++ S) nv
      fun x hp' nv' => ∃ L', hp' = L' ++ S ∧ (x = .ref (1, 80) v [] 2 0 (left.length - 1) ∧ L' = [((1, 80), ⟨v, oprs (left.eraseIdx i ++ (0, 0) :: rest)⟩)]) := by
  have hlen : (left ++ rest).length = left.length + rest.length := List.length_append
  have hlen2 : (left.eraseIdx i ++ (0, 0) :: rest).length = left.length + rest.length := by rw [List.length_append, List.length_eraseIdx, if_pos hi, List.length_cons]; omega
  refine callsA_ofS (lv := 2) (by decide) mx Try.call34 Try.func34 rfl Try.ntmps34 Try.results34 (by kernel_rfl) (by simp) fun lo => ?_
  repeat' (first | (refine And.intro ?_ ?_; focus (first | first | first | exact rfl | exact trivial | exact fun _ => rfl | exact Nat.le_of_ble_eq_true rfl | exact Option.some_ne_none _ | omega | (intro hh; cases hh; done) | assumption | (show (0 : Int) ≤ _; omega) | (rw [bPair]; omega) | (rw [bInt]; omega) | exact fun hh => hh | omega | ((refine ⟨fun hh => ?_, fun hh => ?_⟩) <;> (first | exact rfl | exact beq_iff_eq.2 hh)) | ((repeat' apply And.intro) <;> (first | first | exact rfl | exact trivial | exact fun _ => rfl | exact Nat.le_of_ble_eq_true rfl | exact Option.some_ne_none _ | omega | (intro hh; cases hh; done) | assumption | (show (0 : Int) ≤ _; omega) | (rw [bPair]; omega) | (rw [bInt]; omega))) | (intro hh; first | (cases hh; done) | ((repeat' apply And.intro) <;> (first | first | exact rfl | exact trivial | exact fun _ => rfl | exact Nat.le_of_ble_eq_true rfl | exact Option.some_ne_none _ | omega | (intro hh; cases hh; done) | assumption | (show (0 : Int) ≤ _; omega) | (rw [bPair]; omega) | (rw [bInt]; omega)))))) | (refine And.intro ?_ ?_) | (intro hq; (try simp at hq); (try (exfalso; omega)); (try (revert hq; intro))))
  · exact shape_pcell _ _
  · rename_i h1 h2
    refine Exists.intro (oprs (left.eraseIdx i ++ (0, 0) :: rest)) (And.intro ?_ (And.intro (shape_prs (hlen.trans hlen2.symm)) ?_))
    · refine NEq.owns rfl (hlen.trans hlen2.symm) fun j o hj ho => ?_
      rw [del_getD _ _ _ _ hi]
      show NEq (if _ then List.getD [.int .i64 0, .int .i64 0] o .undef else pcell ((left ++ rest).getD j (0, 0)) o) _
      by_cases hj1 : j < i
      · rw [if_neg (by omega), if_pos hj1]; exact .refl _
      · rw [if_neg hj1, if_neg (c := j + 1 < left.length) (by omega)]
        by_cases hj2 : j + 1 = left.length
        · rw [if_pos hj2, if_pos (by omega)]; exact zero_cell ho
        · rw [if_neg hj2, if_neg (by omega)]; exact .refl _
    exact Exists.intro (PV.ref (1, 80) v [] 2 0 (left.length - 1)) (Exists.intro _ (And.intro ⟨rfl, rfl⟩ (And.intro (.refs rfl rfl (by omega)) (And.intro ⟨⟨rfl, .refl _⟩, trivial⟩ (.names rfl)))))
  · exact shape_pcell _ _
  · rename_i h1 h0 h2
    obtain ⟨x, hx⟩ : ∃ x, (left ++ rest).getD (left.length - 1) (0, 0) = x := ⟨_, rfl⟩
    have hlen3 : (left.eraseIdx i ++ x :: rest).length = left.length + rest.length := by rw [List.length_append, List.length_eraseIdx, if_pos hi, List.length_cons]; omega
    refine Exists.intro (oprs (left.eraseIdx i ++ x :: rest)) (And.intro ?_ (And.intro (shape_prs (hlen.trans hlen3.symm)) ?_))
    · refine NEq.owns rfl (hlen.trans hlen3.symm) fun j o hj ho => ?_
      rw [del_getDx _ _ _ _ _ hi]
      show NEq (if _ then cellV _ _ _ _ _ (pcell ((left ++ rest).getD (_ + (j - _)) (0, 0)) o) else pcell ((left ++ rest).getD j (0, 0)) o) _
      have cg : ∀ a b, a = b → NEq (pcell ((left ++ rest).getD a (0, 0)) o) (pcell ((left ++ rest).getD b (0, 0)) o) := fun a b e => e ▸ .refl _
      by_cases hj1 : j < i
      · rw [if_pos hj1, if_neg (by omega)]; exact .refl _
      · rw [if_neg hj1]
        by_cases hj2 : j + 1 < left.length
        · rw [if_pos hj2, if_pos (by omega), cellV_pcell]
          exact cg _ _ (by omega)
        · rw [if_neg hj2]
          by_cases hj3 : j + 1 = left.length
          · rw [if_pos hj3, if_neg (by omega), ← hx]
            exact cg _ _ (by omega)
          · rw [if_neg hj3, if_neg (by omega)]; exact .refl _
    repeat' (first | (refine And.intro ?_ ?_; focus (first | first | first | exact rfl | exact trivial | exact fun _ => rfl | exact Nat.le_of_ble_eq_true rfl | exact Option.some_ne_none _ | omega | (intro hh; cases hh; done) | assumption | (show (0 : Int) ≤ _; omega) | (rw [bPair]; omega) | (rw [bInt]; omega) | exact fun hh => hh | omega | ((refine ⟨fun hh => ?_, fun hh => ?_⟩) <;> (first | exact rfl | exact beq_iff_eq.2 hh)) | ((repeat' apply And.intro) <;> (first | first | exact rfl | exact trivial | exact fun _ => rfl | exact Nat.le_of_ble_eq_true rfl | exact Option.some_ne_none _ | omega | (intro hh; cases hh; done) | assumption | (show (0 : Int) ≤ _; omega) | (rw [bPair]; omega) | (rw [bInt]; omega))) | (intro hh; first | (cases hh; done) | ((repeat' apply And.intro) <;> (first | first | exact rfl | exact trivial | exact fun _ => rfl | exact Nat.le_of_ble_eq_true rfl | exact Option.some_ne_none _ | omega | (intro hh; cases hh; done) | assumption | (show (0 : Int) ≤ _; omega) | (rw [bPair]; omega) | (rw [bInt]; omega)))))) | (refine And.intro ?_ ?_) | (intro hq; (try simp at hq); (try (exfalso; omega)); (try (revert hq; intro))))
    · exact shape_pcell _ _
    refine Exists.intro (oprs (left.eraseIdx i ++ (0, 0) :: rest)) (And.intro ?_ (And.intro (shape_prs (hlen3.trans hlen2.symm)) ?_))
    · refine NEq.owns rfl (hlen3.trans hlen2.symm) fun j o hj ho => ?_
      rw [del_getD _ _ _ _ hi]
      show NEq (if _ then List.getD [.int .i64 0, .int .i64 0] o .undef else pcell ((left.eraseIdx i ++ x :: rest).getD j (0, 0)) o) _
      rw [del_getDx _ _ _ _ _ hi]
      by_cases hj1 : j < i
      · rw [if_pos hj1, if_neg (by omega), if_pos hj1]; exact .refl _
      · rw [if_neg hj1, if_neg hj1]
        by_cases hj2 : j + 1 < left.length
        · rw [if_pos hj2, if_pos hj2, if_neg (by omega)]; exact .refl _
        · rw [if_neg hj2, if_neg hj2]
          by_cases hj3 : j + 1 = left.length
          · rw [if_pos hj3, if_pos hj3, if_pos (by omega)]; exact zero_cell ho
          · rw [if_neg hj3, if_neg hj3, if_neg (by omega)]; exact .refl _
    exact Exists.intro (PV.ref (1, 80) v [] 2 0 (left.length - 1)) (Exists.intro _ (And.intro ⟨rfl, rfl⟩ (And.intro (.refs rfl rfl (by omega)) (And.intro ⟨⟨rfl, .refl _⟩, trivial⟩ (.names rfl)))))
end Go.Ab
/- DeleteFunc. -/
namespace Go.Ab
open Go.Proofs
set_option maxRecDepth 100000
set_option maxHeartbeats 1000000

theorem keepsL_len (l : List (Int × Int)) (j : Nat) : (keepsL l j).length ≤ j := by
  unfold keepsL; exact Nat.le_trans (List.length_filter_le ..) (by simp; omega)
theorem keepsL_grow (l : List (Int × Int)) (a d : Nat) : (keepsL l (a + d)).length ≤ (keepsL l a).length + d := by
  induction d with
  | zero => simp
  | succ d ih =>
    have : (keepsL l (a + d + 1)).length ≤ (keepsL l (a + d)).length + 1 := by
      unfold keepsL
      rw [List.take_add_one, List.filter_append, List.length_append]
      have : (List.filter (fun p => p.1 != p.2) l[a + d]?.toList).length ≤ 1 := Nat.le_trans (List.length_filter_le ..) (by cases l[a + d]? <;> simp)
      omega
    have e : a + (d + 1) = a + d + 1 := rfl
    rw [e]; omega
/-- The block while moves are let go. -/
def dl (l : List (Int × Int)) (j : Nat) : List (Int × Int) := keepsL l j ++ l.drop (keepsL l j).length
theorem dl_getD (l : List (Int × Int)) (j x : Nat) : (dl l j).getD x (0, 0) = if x < (keepsL l j).length then (keepsL l j).getD x (0, 0) else l.getD x (0, 0) := by
  unfold dl
  rw [getD_app]
  split
  · rfl
  · simp only [List.getD_eq_getElem?_getD, List.getElem?_drop]
    congr 2; omega
theorem dl_len {l : List (Int × Int)} {j : Nat} (h : j ≤ l.length) : (dl l j).length = l.length := by
  have := keepsL_len l j
  simp [dl]; omega
theorem keeps_none {l : List (Int × Int)} (h : idxI (fun x => x.1 == x.2) l = -1) : keepsL l l.length = l := by
  unfold keepsL
  rw [List.take_length, List.filter_eq_self]
  intro x hx
  unfold idxI at h
  cases hf : l.findIdx? (fun x => x.1 == x.2) with
  | none => rw [List.findIdx?_eq_none_iff] at hf; simpa using hf x hx
  | some i => rw [hf] at h; simp only at h; omega
theorem keeps_some {l : List (Int × Int)} (h : ¬ idxI (fun x => x.1 == x.2) l = -1) : ∃ i0 : Nat, idxI (fun x => x.1 == x.2) l = i0 ∧ i0 < l.length ∧ keepsL l (i0 + 1) = l.take i0 := by
  unfold idxI at h ⊢
  cases hf : l.findIdx? (fun x => x.1 == x.2) with
  | none => rw [hf] at h; exact absurd rfl h
  | some i =>
    rw [List.findIdx?_eq_some_iff_getElem] at hf
    obtain ⟨h1, h2, h3⟩ := hf
    refine ⟨i, rfl, h1, ?_⟩
    rw [keepsL_no h1 (by simpa [h1] using h2)]
    unfold keepsL
    rw [List.filter_eq_self]
    intro x hx
    obtain ⟨j, hj, rfl⟩ := List.mem_iff_getElem.1 hx
    simp only [List.length_take] at hj
    have := h3 j (by omega)
    simpa using this

theorem DeleteFunc_spec (l : List (Int × Int)) (v nv : Nat) (S : Hp) (hS : Above 2 S) (hl : l.length ≤ 1048576) :
    CallsA Try.prog 27 [.ref (1, 80) v [] 2 0 l.length, .func (.func 29) [] []] ([((1, 80), ⟨v, oprs l⟩)] ++ S) nv
      fun x hp' nv' => ∃ L', hp' = L' ++ S ∧ (x = .ref (1, 80) v [] 2 0 (keepsL l l.length).length ∧ L' = [((1, 80), ⟨v, oprs (keepsL l l.length ++ List.replicate (l.length - (keepsL l l.length).length) (0, 0))⟩)]) := by
  refine callsA_ofS (lv := 2) (by decide) mx Try.call27 Try.func27 rfl Try.ntmps27 Try.results27 (by kernel_rfl) (by simp) fun lo => ?_
  refine CallS.plain [prs l, .func (.func 29) [] []] (.int .i64 (idxI (fun x => x.1 == x.2) l)) (IndexFunc0 l _ _ eqP) (.cons (view_prs rfl rfl) (.cons (.refl _) .nil)) trivial ?_
  repeat' (first | (refine And.intro ?_ ?_; focus (first | first | first | exact rfl | exact trivial | exact fun _ => rfl | exact Nat.le_of_ble_eq_true rfl | exact Option.some_ne_none _ | omega | (intro hh; cases hh; done) | assumption | (show (0 : Int) ≤ _; omega) | (rw [bPair]; omega) | (rw [bInt]; omega) | exact fun hh => hh | omega | ((refine ⟨fun hh => ?_, fun hh => ?_⟩) <;> (first | exact rfl | exact beq_iff_eq.2 hh)) | ((repeat' apply And.intro) <;> (first | first | exact rfl | exact trivial | exact fun _ => rfl | exact Nat.le_of_ble_eq_true rfl | exact Option.some_ne_none _ | omega | (intro hh; cases hh; done) | assumption | (show (0 : Int) ≤ _; omega) | (rw [bPair]; omega) | (rw [bInt]; omega))) | (intro hh; first | (cases hh; done) | ((repeat' apply And.intro) <;> (first | first | exact rfl | exact trivial | exact fun _ => rfl | exact Nat.le_of_ble_eq_true rfl | exact Option.some_ne_none _ | omega | (intro hh; cases hh; done) | assumption | (show (0 : Int) ≤ _; omega) | (rw [bPair]; omega) | (rw [bInt]; omega)))))) | (refine And.intro ?_ ?_) | (intro hq; (try simp at hq); (try (exfalso; omega)); (try (revert hq; intro))))
  · rename_i h1
    have e := keeps_none h1
    refine Exists.intro (PV.ref (1, 80) v [] 2 0 (keepsL l l.length).length) (Exists.intro _ (And.intro ⟨rfl, rfl⟩ (And.intro (.refs rfl rfl (by rw [e])) (And.intro ⟨⟨rfl, ?_⟩, trivial⟩ (.names rfl)))))
    rw [e, Nat.sub_self, List.replicate_zero, List.append_nil]
    exact .refl _
  rename_i h1
  obtain ⟨i0, e0, hi0, hk0⟩ := keeps_some h1
  have hw : IntKind.i64.wrap ((i0 : Int) + 1) = (i0 : Int) + 1 := wrapI (by omega)
  rw [e0, hw]
  have hlen0 : (keepsL l (i0 + 1)).length = i0 := by rw [hk0, List.length_take]; omega
  refine loopS mx (by decide) (by kernel_rfl) (fun j : Nat => i0 + 1 ≤ j ∧ j ≤ l.length) (fun j => [(6, .int .i64 j), (5, .int .i64 (keepsL l j).length), (0, .ref (1, 80) v [] 2 0 l.length), (1, .func (.func 29) [] [])]) (fun j => [((1, 80), ⟨v, oprs (dl l j)⟩)]) (fun j => l.length - j) (i0 + 1) (by omega) ⟨?_, ⟨⟨rfl, ?_⟩, trivial⟩, .names rfl⟩ ?_
  · exact ⟨.int (by simp), .int (by rw [hlen0]), .refl _, .refl _, trivial⟩
  · show NEq (oprs l) (oprs (dl l (i0 + 1)))
    have : dl l (i0 + 1) = l := by unfold dl; rw [hlen0, hk0, List.take_append_drop]
    rw [this]; exact .refl _
  intro j nv ⟨hj1, hj2⟩
  have hdl := dl_len hj2
  have hkl := keepsL_len l j
  have hget : (dl l j).getD j (0, 0) = l.getD j (0, 0) := by rw [dl_getD, if_neg (by omega)]
  have hget0 : (dl l j).getD (0 + j) (0, 0) = l.getD j (0, 0) := by rw [Nat.zero_add]; exact hget
  have hbd : (keepsL l j).length < l.length := by
    have := keepsL_grow l (i0 + 1) (j - (i0 + 1))
    rw [show i0 + 1 + (j - (i0 + 1)) = j by omega] at this
    omega
  repeat' (first | (refine And.intro ?_ ?_; focus (first | first | first | exact rfl | exact trivial | exact fun _ => rfl | exact Nat.le_of_ble_eq_true rfl | exact Option.some_ne_none _ | omega | (intro hh; cases hh; done) | assumption | (show (0 : Int) ≤ _; omega) | (rw [bPair]; omega) | (rw [bInt]; omega) | exact fun hh => hh | omega | ((refine ⟨fun hh => ?_, fun hh => ?_⟩) <;> (first | exact rfl | exact beq_iff_eq.2 hh)) | ((repeat' apply And.intro) <;> (first | first | exact rfl | exact trivial | exact fun _ => rfl | exact Nat.le_of_ble_eq_true rfl | exact Option.some_ne_none _ | omega | (intro hh; cases hh; done) | assumption | (show (0 : Int) ≤ _; omega) | (rw [bPair]; omega) | (rw [bInt]; omega))) | (intro hh; first | (cases hh; done) | ((repeat' apply And.intro) <;> (first | first | exact rfl | exact trivial | exact fun _ => rfl | exact Nat.le_of_ble_eq_true rfl | exact Option.some_ne_none _ | omega | (intro hh; cases hh; done) | assumption | (show (0 : Int) ≤ _; omega) | (rw [bPair]; omega) | (rw [bInt]; omega)))))) | (refine And.intro ?_ ?_) | (intro hq; (try simp at hq); (try (exfalso; omega)); (try (revert hq; intro))))
  · rename_i h2
    refine CallS.frozen (.bool (((dl l j).getD (0 + j) (0, 0)).1 == ((dl l j).getD (0 + j) (0, 0)).2)) (eqP ((dl l j).getD (0 + j) (0, 0))) (plainAll rfl) ?_
    rw [hget0]
    repeat' (first | (refine And.intro ?_ ?_; focus (first | first | first | exact rfl | exact trivial | exact fun _ => rfl | exact Nat.le_of_ble_eq_true rfl | exact Option.some_ne_none _ | omega | (intro hh; cases hh; done) | assumption | (show (0 : Int) ≤ _; omega) | (rw [bPair]; omega) | (rw [bInt]; omega) | exact fun hh => hh | omega | ((refine ⟨fun hh => ?_, fun hh => ?_⟩) <;> (first | exact rfl | exact beq_iff_eq.2 hh)) | ((repeat' apply And.intro) <;> (first | first | exact rfl | exact trivial | exact fun _ => rfl | exact Nat.le_of_ble_eq_true rfl | exact Option.some_ne_none _ | omega | (intro hh; cases hh; done) | assumption | (show (0 : Int) ≤ _; omega) | (rw [bPair]; omega) | (rw [bInt]; omega))) | (intro hh; first | (cases hh; done) | ((repeat' apply And.intro) <;> (first | first | exact rfl | exact trivial | exact fun _ => rfl | exact Nat.le_of_ble_eq_true rfl | exact Option.some_ne_none _ | omega | (intro hh; cases hh; done) | assumption | (show (0 : Int) ≤ _; omega) | (rw [bPair]; omega) | (rw [bInt]; omega)))))) | (refine And.intro ?_ ?_) | (intro hq; (try simp at hq); (try (exfalso; omega)); (try (revert hq; intro))))
    · exact shape_pcell _ _
    · rename_i h3
      have ek := keepsL_yes h2 h3
      have hdl' : (dl l (j + 1)).length = l.length := dl_len (by omega)
      refine Exists.intro (oprs (dl l (j + 1))) (And.intro ?_ (And.intro (shape_prs (hdl.trans hdl'.symm)) ?_))
      · refine NEq.owns rfl (hdl.trans hdl'.symm) fun x o hx ho => ?_
        rw [dl_getD, ek, List.length_append, List.length_singleton, getD_app]
        by_cases hxi : x = (keepsL l j).length
        · subst hxi
          rw [if_pos (c := (keepsL l j).length < (keepsL l j).length + 1) (by omega), if_neg (c := (keepsL l j).length < (keepsL l j).length) (by omega)]
          have e0 : ([l.getD j (0, 0)] : List (Int × Int)).getD ((keepsL l j).length - (keepsL l j).length) (0, 0) = l.getD j (0, 0) := by rw [Nat.sub_self]; rfl
          rw [e0]
          obtain rfl | rfl : o = 0 ∨ o = 1 := by omega
          · show NEq (if _ ∧ _ then pcell ((dl l j).getD (0 + j) (0, 0)) 0 else _) _
            rw [if_pos ⟨by omega, Nat.zero_le _, Nat.zero_lt_succ _⟩, hget0]
            exact .refl _
          · show NEq (if _ ∧ _ then pcell ((dl l j).getD (0 + j) (0, 0)) 1 else _) _
            rw [if_pos ⟨by omega, Nat.zero_le _, Nat.lt_succ_self _⟩, hget0]
            exact .refl _
        · show NEq (if _ ∧ _ then _ else pcell ((dl l j).getD x (0, 0)) o) _
          rw [if_neg (fun h => hxi (by have := h.1; omega)), dl_getD]
          by_cases hlt : x < (keepsL l j).length
          · rw [if_pos hlt, if_pos (by omega), if_pos hlt]; exact .refl _
          · rw [if_neg hlt, if_neg (by omega)]; exact .refl _
      repeat' (first | (refine And.intro ?_ ?_; focus (first | first | first | exact rfl | exact trivial | exact fun _ => rfl | exact Nat.le_of_ble_eq_true rfl | exact Option.some_ne_none _ | omega | (intro hh; cases hh; done) | assumption | (show (0 : Int) ≤ _; omega) | (rw [bPair]; omega) | (rw [bInt]; omega) | exact fun hh => hh | omega | ((refine ⟨fun hh => ?_, fun hh => ?_⟩) <;> (first | exact rfl | exact beq_iff_eq.2 hh)) | ((repeat' apply And.intro) <;> (first | first | exact rfl | exact trivial | exact fun _ => rfl | exact Nat.le_of_ble_eq_true rfl | exact Option.some_ne_none _ | omega | (intro hh; cases hh; done) | assumption | (show (0 : Int) ≤ _; omega) | (rw [bPair]; omega) | (rw [bInt]; omega))) | (intro hh; first | (cases hh; done) | ((repeat' apply And.intro) <;> (first | first | exact rfl | exact trivial | exact fun _ => rfl | exact Nat.le_of_ble_eq_true rfl | exact Option.some_ne_none _ | omega | (intro hh; cases hh; done) | assumption | (show (0 : Int) ≤ _; omega) | (rw [bPair]; omega) | (rw [bInt]; omega)))))) | (refine And.intro ?_ ?_) | (intro hq; (try simp at hq); (try (exfalso; omega)); (try (revert hq; intro))))
      refine Exists.intro (j+1) ⟨⟨by omega, by omega⟩, (by first | omega | (dsimp only; omega)), ⟨?_, ⟨⟨rfl, .refl _⟩, trivial⟩, .chk hS rfl⟩⟩
      refine ⟨(by refine NEq.int ?_; first | exact rfl | omega | (rw [wrapI (by omega)]; first | exact rfl | omega)), ?_, .refl _, .refl _, trivial⟩
      refine NEq.int ?_
      rw [ek, List.length_append, List.length_singleton, wrapI (by omega)]; rfl
    · rename_i h3
      have ek := keepsL_no h2 h3
      refine Exists.intro (j+1) ⟨⟨by omega, by omega⟩, (by first | omega | (dsimp only; omega)), ⟨?_, ⟨⟨rfl, ?_⟩, trivial⟩, .chk hS rfl⟩⟩
      · refine ⟨(by refine NEq.int ?_; first | exact rfl | omega | (rw [wrapI (by omega)]; first | exact rfl | omega)), ?_, .refl _, .refl _, trivial⟩
        rw [ek]; exact .refl _
      · show NEq (oprs (dl l j)) (oprs (dl l (j + 1)))
        unfold dl; rw [ek]; exact .refl _
  · exact shape_pcell _ _
  · rename_i h2 h3
    have hje : j = l.length := by omega
    subst hje
    have hlr : (keepsL l l.length ++ List.replicate (l.length - (keepsL l l.length).length) (0, 0)).length = l.length := by rw [List.length_append, List.length_replicate]; omega
    refine Exists.intro (oprs (keepsL l l.length ++ List.replicate (l.length - (keepsL l l.length).length) (0, 0))) (And.intro ?_ (And.intro (shape_prs (hdl.trans hlr.symm)) ?_))
    · refine NEq.owns rfl (hdl.trans hlr.symm) fun x o hx ho => ?_
      rw [hlr] at hx
      show NEq (if _ then List.getD [.int .i64 0, .int .i64 0] o .undef else pcell ((dl l l.length).getD x (0, 0)) o) _
      rw [getD_app]
      by_cases h : x < (keepsL l l.length).length
      · rw [if_neg (by omega), dl_getD, if_pos h, if_pos h]
        exact .refl _
      · have e0 : (List.replicate (l.length - (keepsL l l.length).length) ((0, 0) : Int × Int)).getD (x - (keepsL l l.length).length) (0, 0) = (0, 0) := by
          simp only [List.getD_eq_getElem?_getD, List.getElem?_replicate]; split <;> rfl
        rw [if_pos (by omega), if_neg h, e0]
        exact zero_cell ho
    repeat' (first | (refine And.intro ?_ ?_; focus (first | first | first | exact rfl | exact trivial | exact fun _ => rfl | exact Nat.le_of_ble_eq_true rfl | exact Option.some_ne_none _ | omega | (intro hh; cases hh; done) | assumption | (show (0 : Int) ≤ _; omega) | (rw [bPair]; omega) | (rw [bInt]; omega) | exact fun hh => hh | omega | ((refine ⟨fun hh => ?_, fun hh => ?_⟩) <;> (first | exact rfl | exact beq_iff_eq.2 hh)) | ((repeat' apply And.intro) <;> (first | first | exact rfl | exact trivial | exact fun _ => rfl | exact Nat.le_of_ble_eq_true rfl | exact Option.some_ne_none _ | omega | (intro hh; cases hh; done) | assumption | (show (0 : Int) ≤ _; omega) | (rw [bPair]; omega) | (rw [bInt]; omega))) | (intro hh; first | (cases hh; done) | ((repeat' apply And.intro) <;> (first | first | exact rfl | exact trivial | exact fun _ => rfl | exact Nat.le_of_ble_eq_true rfl | exact Option.some_ne_none _ | omega | (intro hh; cases hh; done) | assumption | (show (0 : Int) ≤ _; omega) | (rw [bPair]; omega) | (rw [bInt]; omega)))))) | (refine And.intro ?_ ?_) | (intro hq; (try simp at hq); (try (exfalso; omega)); (try (revert hq; intro))))
    exact Exists.intro (PV.ref (1, 80) v [] 2 0 (keepsL l l.length).length) (Exists.intro _ (And.intro ⟨rfl, rfl⟩ (And.intro (.refs rfl rfl (by simp)) (And.intro ⟨⟨rfl, .refl _⟩, trivial⟩ (.names rfl)))))
end Go.Ab
/- Moves: the program's answer. -/
namespace Go.Ab
open Go.Proofs
set_option maxRecDepth 100000
set_option maxHeartbeats 1000000

/-- A set of numbers as a map's entries. -/
def encS (ks : List Int) : List (PV × PV) := ks.map fun k => (.int .i64 k, .bool true)
def insS (ks : List Int) (n : Int) : List Int := if n ∈ ks then ks else ks ++ [n]
theorem sorts_enc (ks : List Int) (n : Int) : sortsB (.int .i64 n) (encS ks) = true := by
  induction ks with
  | nil => rfl
  | cons k ks ih => simp only [encS, List.map_cons, sortsB, keyB, if_true, Option.isSome_some, Bool.true_and]; exact ih
theorem find_enc (ks : List Int) (n : Int) : findE (encS ks) (.int .i64 n) = if n ∈ ks then some (.bool true) else none := by
  induction ks with
  | nil => rfl
  | cons k ks ih =>
    simp only [encS, List.map_cons, findE, keyB, if_true]
    by_cases h : n = k
    · subst h; simp
    · have : (n == k) = false := by simpa using h
      rw [this]
      simp only [List.mem_cons, h, false_or]
      exact ih
theorem upd_enc (ks : List Int) (n : Int) : updE (encS ks) (.int .i64 n) (.bool true) = encS (insS ks n) := by
  induction ks with
  | nil => rfl
  | cons k ks ih =>
    simp only [encS, List.map_cons, updE, keyB, if_true]
    by_cases h : n = k
    · subst h; simp [insS]
    · have : (n == k) = false := by simpa using h
      rw [this]
      simp only
      have e : updE (List.map (fun k => (PV.int IntKind.i64 k, PV.bool true)) ks) (.int .i64 n) (.bool true) = encS (insS ks n) := ih
      rw [e]
      unfold insS
      simp only [List.mem_cons, h, false_or]
      split <;> rfl
theorem mem_ins {ks : List Int} {n m : Int} : m ∈ insS ks n ↔ m ∈ ks ∨ m = n := by
  unfold insS
  split
  · rename_i h; exact ⟨.inl, fun h' => h'.elim id fun e => e ▸ h⟩
  · simp

def okK (l : List (Int × Int)) (spare : Int) (k : Nat) : Bool := (l.length ≤ 250 && 0 ≤ spare && spare ≤ 250) && (l.zipIdx.take k).all (moveOK l spare)

theorem bif_and (a b : Bool) : (bif a then b else false) = (a && b) := by cases a <;> rfl
theorem okK_all {l : List (Int × Int)} {spare : Int} {k : Nat} (h : l.length ≤ k) : okK l spare k = mOK l spare := by
  unfold okK mOK
  rw [List.take_of_length_le (by simpa using h)]
theorem okK_step {l : List (Int × Int)} {spare : Int} {k : Nat} (hk : k < l.length) : okK l spare (k + 1) = (okK l spare k && moveOK l spare (l.getD k (0, 0), k)) := by
  unfold okK
  rw [all_take (0, 0) hk, ← Bool.and_assoc, List.getD_eq_getElem?_getD]
theorem take_fst {l : List (Int × Int)} {k : Nat} (hk : k < l.length) : (l.take (k + 1)).map (·.1) = (l.take k).map (·.1) ++ [(l.getD k (0, 0)).1] := by
  rw [List.take_add_one, List.map_append]
  rw [List.getElem?_eq_getElem hk, List.getD_eq_getElem?_getD, List.getElem?_eq_getElem hk]
  rfl

theorem mOK_nodup {l : List (Int × Int)} {spare : Int} (h : mOK l spare = true) : ((l.filter fun p => p.1 != p.2).map (·.1)).Nodup := by
  have h0 : (l.map (·.1)).Nodup := by
    simp only [mOK, Bool.and_eq_true] at h
    have h1 := List.all_eq_true.1 h.2
    rw [List.nodup_iff_pairwise_ne, List.pairwise_iff_getElem]
    intro i j hi hj hij
    simp only [List.length_map] at hi hj
    have := h1 (l[j], j) (List.mem_iff_getElem.2 ⟨j, by simpa using hj, by simp⟩)
    simp only [moveOK, Bool.and_eq_true, List.all_eq_true, bne_iff_ne] at this
    have := this.2 l[i] (List.mem_iff_getElem.2 ⟨i, by simp; omega, by simp⟩)
    simp only [List.getElem_map]
    exact fun e => this e.symm
  exact h0.sublist ((List.filter_sublist ..).map _)
/-- Free, as the program looks for it. -/
def freeB (left : List (Int × Int)) (m : Int × Int) : Bool := !(left.any fun x => x != m && x.2 == m.1)
theorem view_boxref {k : Nat} {L : Hp} {r r2 : RId} {vb v n : Nat} {l rest : List (Int × Int)} (h : lkH L r = some ⟨vb, .obox 1 fun _ => .ref r2 v [] 2 0 n⟩) (h2 : lkH L r2 = some ⟨v, oprs (l ++ rest)⟩) (hn : n = l.length) : NEq (view (k + 3) L (.ptr r vb [] 0 0)) (.fptr 1 (fun _ => prs l) 0) := by
  rw [view, h]
  simp only [if_true, getAt]
  exact NEq.fptr fun o ho => view_pre h2 hn
theorem mvI_take {l left out : List (Int × Int)} {spare : Int} {m i0 : Nat} (hI : mvI l spare left out (m + 1)) (hf : firstFree left = some i0) (hm : μL (left.eraseIdx i0) ≤ m) : mvI l spare (left.eraseIdx i0) (out ++ [left.getD i0 (0, 0)]) m := by
  have e := hI.res
  have hlt := firstFree_lt hf
  have hll := hI.len
  have hob := hI.bound
  rw [mv_take hf] at e
  refine ⟨?_, fun p hp => hI.spr p (List.mem_of_mem_eraseIdx hp), hm, ?_, ?_⟩
  · rw [List.length_eraseIdx, if_pos hlt]; omega
  · rw [← e, List.append_assoc]; rfl
  · rw [List.length_append, List.length_singleton]; omega
theorem mvI_break {l left out : List (Int × Int)} {spare : Int} {m : Nat} {x0 : Int × Int} (hI : mvI l spare left out (m + 1)) (hf : firstFree left = none) (h0 : 0 < left.length) (hd : left.getD 0 (0, 0) = x0) (hm : μL (left.map (subst1 x0.1 spare)) ≤ m) : mvI l spare (left.map (subst1 x0.1 spare)) (out ++ [(spare, x0.1)]) m := by
  have e := hI.res
  have hll := hI.len
  have hob := hI.bound
  rw [mv_break hf h0, hd] at e
  refine ⟨?_, fun p hp => ?_, hm, ?_, ?_⟩
  · rw [List.length_map]; exact hll
  · obtain ⟨q, hq, rfl⟩ := List.mem_map.1 hp
    have := hI.spr q hq
    unfold subst1; split <;> exact this
  · rw [← e, List.append_assoc]; rfl
  · rw [List.length_append, List.length_singleton]; omega
theorem free_eq {left : List (Int × Int)} (h : (left.map (·.1)).Nodup) {i : Nat} (hi : i < left.length) : free1 left (left[i], i) = freeB left left[i] := by
  unfold free1 freeB isSource
  congr 1
  rw [Bool.eq_iff_iff]
  simp only [List.any_eq_true, Bool.and_eq_true, bne_iff_ne, beq_iff_eq]
  constructor
  · rintro ⟨p, hp, h1, h2⟩
    obtain ⟨j, hj, rfl⟩ := List.mem_iff_getElem.1 hp
    simp only [List.length_zipIdx] at hj
    simp only [List.getElem_zipIdx, Nat.zero_add] at h1 h2
    refine ⟨left[j], List.getElem_mem _, fun e => h1 ?_, h2⟩
    have := (List.getElem_inj (h₀ := by simpa using hj) (h₁ := by simpa using hi) h).1 (by simp [e])
    omega
  · rintro ⟨x, hx, h1, h2⟩
    obtain ⟨j, hj, rfl⟩ := List.mem_iff_getElem.1 hx
    refine ⟨(left[j], j), List.mem_iff_getElem.2 ⟨j, by simpa using hj, by simp⟩, fun e => h1 ?_, h2⟩
    have : j = i := by have e' : (j : Int) = i := e; omega
    subst this; rfl
theorem idx_some {left : List (Int × Int)} (h : (left.map (·.1)).Nodup) {i : Nat} (hf : firstFree left = some i) : idxI (freeB left) left = i := by
  have hlt := firstFree_lt hf
  have : left.findIdx? (freeB left) = some i := by
    rw [List.findIdx?_eq_some_iff_getElem]
    simp only [firstFree, Option.map_eq_some_iff] at hf
    obtain ⟨p, h1, rfl⟩ := hf
    rw [List.find?_eq_some_iff_getElem] at h1
    obtain ⟨h2, j, hj, h3, h4⟩ := h1
    simp only [List.length_zipIdx] at hj
    have e : p = (left[j], j) := by rw [← h3]; simp
    subst e
    refine ⟨hj, by rw [← free_eq h hj]; exact h2, fun a ha => ?_⟩
    have := h4 a ha
    simp only [List.getElem_zipIdx, Nat.zero_add] at this
    rw [← free_eq h (by simp at ha; omega)]
    simpa using this
  simp [idxI, this]
theorem idx_no {left : List (Int × Int)} (h : (left.map (·.1)).Nodup) (hf : firstFree left = none) : idxI (freeB left) left = -1 := by
  refine idx_none (List.any_eq_false.2 fun x hx => ?_)
  obtain ⟨j, hj, rfl⟩ := List.mem_iff_getElem.1 hx
  simp only [firstFree, Option.map_eq_none_iff, List.find?_eq_none] at hf
  rw [← free_eq h hj]
  exact hf _ (List.mem_iff_getElem.2 ⟨j, by simpa using hj, by simp⟩)

theorem movesP_spec (l : List (Int × Int)) (spare : Int) (hl : l.length ≤ 1048576) : CallsF Try.prog 9 [prs l, .int .i64 spare] (movesRes l spare) := by
  refine callsF_ofS mx Try.call9 Try.func9 rfl Try.ntmps9 Try.results9 (by kernel_rfl) (by simp) fun lo => ?_
  repeat' (first | (refine And.intro ?_ ?_; focus (first | first | first | exact rfl | exact trivial | exact fun _ => rfl | exact Nat.le_of_ble_eq_true rfl | exact Option.some_ne_none _ | omega | (intro hh; cases hh; done) | assumption | (show (0 : Int) ≤ _; omega) | (rw [bPair]; omega) | (rw [bInt]; omega) | exact fun hh => hh | omega | ((refine ⟨fun hh => ?_, fun hh => ?_⟩) <;> (first | exact rfl | exact beq_iff_eq.2 hh)) | ((repeat' apply And.intro) <;> (first | first | exact rfl | exact trivial | exact fun _ => rfl | exact Nat.le_of_ble_eq_true rfl | exact Option.some_ne_none _ | omega | (intro hh; cases hh; done) | assumption | (show (0 : Int) ≤ _; omega) | (rw [bPair]; omega) | (rw [bInt]; omega))) | (intro hh; first | (cases hh; done) | ((repeat' apply And.intro) <;> (first | first | exact rfl | exact trivial | exact fun _ => rfl | exact Nat.le_of_ble_eq_true rfl | exact Option.some_ne_none _ | omega | (intro hh; cases hh; done) | assumption | (show (0 : Int) ≤ _; omega) | (rw [bPair]; omega) | (rw [bInt]; omega)))))) | (refine And.intro ?_ ?_) | (intro hq; (try simp at hq); (try (exfalso; omega)); (try (revert hq; intro))))
  refine Exists.intro (PV.omap (encS []) [] 0) (And.intro rfl ?_)
  repeat' (first | (refine And.intro ?_ ?_; focus (first | first | first | exact rfl | exact trivial | exact fun _ => rfl | exact Nat.le_of_ble_eq_true rfl | exact Option.some_ne_none _ | omega | (intro hh; cases hh; done) | assumption | (show (0 : Int) ≤ _; omega) | (rw [bPair]; omega) | (rw [bInt]; omega) | exact fun hh => hh | omega | ((refine ⟨fun hh => ?_, fun hh => ?_⟩) <;> (first | exact rfl | exact beq_iff_eq.2 hh)) | ((repeat' apply And.intro) <;> (first | first | exact rfl | exact trivial | exact fun _ => rfl | exact Nat.le_of_ble_eq_true rfl | exact Option.some_ne_none _ | omega | (intro hh; cases hh; done) | assumption | (show (0 : Int) ≤ _; omega) | (rw [bPair]; omega) | (rw [bInt]; omega))) | (intro hh; first | (cases hh; done) | ((repeat' apply And.intro) <;> (first | first | exact rfl | exact trivial | exact fun _ => rfl | exact Nat.le_of_ble_eq_true rfl | exact Option.some_ne_none _ | omega | (intro hh; cases hh; done) | assumption | (show (0 : Int) ≤ _; omega) | (rw [bPair]; omega) | (rw [bInt]; omega)))))) | (refine And.intro ?_ ?_) | (intro hq; (try simp at hq); (try (exfalso; omega)); (try (revert hq; intro))))
  refine loopS4 mx (by decide) (by kernel_rfl) (fun (k : Nat) (ks : List Int) (bs : List Nat) (cl : Nat) => k ≤ l.length ∧ ∀ n, n ∈ ks ↔ n ∈ (l.take k).map (·.1)) (fun k ks bs cl => [(29, .int .i64 k), (28, .int .i64 l.length), (27, prs l), (6, .bool (okK l spare k)), (7, .sref .map (1, 26) 14), (0, prs l), (1, .int .i64 spare)])
    (fun k ks bs cl => [((1, 26), ⟨14, .omap (encS ks) bs cl⟩)]) (fun k ks bs cl => l.length - k) 0 [] [] 0 (by simp) ⟨?_, ⟨⟨rfl, .refl _⟩, trivial⟩, .nil⟩ ?_
  · refine ⟨.refl _, .refl _, .refl _, .bool ?_, .refl _, .refl _, .refl _, trivial⟩
    rw [Bool.eq_iff_iff]
    simp [okK, bif_and]
    omega
  intro k ks bs cl nv ⟨hk, hks⟩
  repeat' (first | (refine And.intro ?_ ?_; focus (first | first | first | exact rfl | exact trivial | exact fun _ => rfl | exact Nat.le_of_ble_eq_true rfl | exact Option.some_ne_none _ | omega | (intro hh; cases hh; done) | assumption | (show (0 : Int) ≤ _; omega) | (rw [bPair]; omega) | (rw [bInt]; omega) | exact fun hh => hh | omega | ((refine ⟨fun hh => ?_, fun hh => ?_⟩) <;> (first | exact rfl | exact beq_iff_eq.2 hh)) | ((repeat' apply And.intro) <;> (first | first | exact rfl | exact trivial | exact fun _ => rfl | exact Nat.le_of_ble_eq_true rfl | exact Option.some_ne_none _ | omega | (intro hh; cases hh; done) | assumption | (show (0 : Int) ≤ _; omega) | (rw [bPair]; omega) | (rw [bInt]; omega))) | (intro hh; first | (cases hh; done) | ((repeat' apply And.intro) <;> (first | first | exact rfl | exact trivial | exact fun _ => rfl | exact Nat.le_of_ble_eq_true rfl | exact Option.some_ne_none _ | omega | (intro hh; cases hh; done) | assumption | (show (0 : Int) ≤ _; omega) | (rw [bPair]; omega) | (rw [bInt]; omega)))))) | (refine And.intro ?_ ?_) | (intro hq; (try simp at hq); (try (exfalso; omega)); (try (revert hq; intro))))
  · exact sorts_enc _ _
  · rename_i hkk o ho
    have hfst := take_fst hkk
    have hins : ∀ n, n ∈ insS ks (l.getD k (0, 0)).1 ↔ n ∈ (l.take (k + 1)).map (·.1) := fun n => by
      rw [mem_ins, hfst, List.mem_append, hks, List.mem_singleton]
    have hmv : moveOK l spare (l.getD k (0, 0), k) = (inR (l.getD k (0, 0)).1 spare && inR (l.getD k (0, 0)).2 spare && !decide ((l.getD k (0, 0)).1 ∈ ks)) := by
      have e : (l.take k).all (fun q => (l.getD k (0, 0)).1 != q.1) = !decide ((l.getD k (0, 0)).1 ∈ ks) := by
        rw [Bool.eq_iff_iff]
        simp only [List.all_eq_true, bne_iff_ne, Bool.not_eq_true', decide_eq_false_iff_not, hks, List.mem_map, not_exists, not_and]
        exact ⟨fun h q hq e => h q hq e.symm, fun h q hq e => h q hq e.symm⟩
      unfold moveOK
      rw [← e]
    rw [← List.getD_eq_getElem?_getD, find_enc] at ho
    by_cases hm : (l.getD k (0, 0)).1 ∈ ks
    · rw [if_pos hm] at ho
      subst ho
      repeat' (first | (refine And.intro ?_ ?_; focus (first | first | first | exact rfl | exact trivial | exact fun _ => rfl | exact Nat.le_of_ble_eq_true rfl | exact Option.some_ne_none _ | omega | (intro hh; cases hh; done) | assumption | (show (0 : Int) ≤ _; omega) | (rw [bPair]; omega) | (rw [bInt]; omega) | exact fun hh => hh | omega | ((refine ⟨fun hh => ?_, fun hh => ?_⟩) <;> (first | exact rfl | exact beq_iff_eq.2 hh)) | ((repeat' apply And.intro) <;> (first | first | exact rfl | exact trivial | exact fun _ => rfl | exact Nat.le_of_ble_eq_true rfl | exact Option.some_ne_none _ | omega | (intro hh; cases hh; done) | assumption | (show (0 : Int) ≤ _; omega) | (rw [bPair]; omega) | (rw [bInt]; omega))) | (intro hh; first | (cases hh; done) | ((repeat' apply And.intro) <;> (first | first | exact rfl | exact trivial | exact fun _ => rfl | exact Nat.le_of_ble_eq_true rfl | exact Option.some_ne_none _ | omega | (intro hh; cases hh; done) | assumption | (show (0 : Int) ≤ _; omega) | (rw [bPair]; omega) | (rw [bInt]; omega)))))) | (refine And.intro ?_ ?_) | (intro hq; (try simp at hq); (try (exfalso; omega)); (try (revert hq; intro))))
      · exact sorts_enc _ _
      refine Exists.intro (PV.omap (encS (insS ks (l.getD k (0, 0)).1)) _ _) (And.intro (congrArg (fun e => PV.omap e _ _) (upd_enc _ _)) ?_)
      repeat' (first | (refine And.intro ?_ ?_; focus (first | first | first | exact rfl | exact trivial | exact fun _ => rfl | exact Nat.le_of_ble_eq_true rfl | exact Option.some_ne_none _ | omega | (intro hh; cases hh; done) | assumption | (show (0 : Int) ≤ _; omega) | (rw [bPair]; omega) | (rw [bInt]; omega) | exact fun hh => hh | omega | ((refine ⟨fun hh => ?_, fun hh => ?_⟩) <;> (first | exact rfl | exact beq_iff_eq.2 hh)) | ((repeat' apply And.intro) <;> (first | first | exact rfl | exact trivial | exact fun _ => rfl | exact Nat.le_of_ble_eq_true rfl | exact Option.some_ne_none _ | omega | (intro hh; cases hh; done) | assumption | (show (0 : Int) ≤ _; omega) | (rw [bPair]; omega) | (rw [bInt]; omega))) | (intro hh; first | (cases hh; done) | ((repeat' apply And.intro) <;> (first | first | exact rfl | exact trivial | exact fun _ => rfl | exact Nat.le_of_ble_eq_true rfl | exact Option.some_ne_none _ | omega | (intro hh; cases hh; done) | assumption | (show (0 : Int) ≤ _; omega) | (rw [bPair]; omega) | (rw [bInt]; omega)))))) | (refine And.intro ?_ ?_) | (intro hq; (try simp at hq); (try (exfalso; omega)); (try (revert hq; intro))))
      refine Exists.intro (k+1, insS ks (l.getD k (0, 0)).1, _, _) ⟨⟨hkk, hins⟩, (by first | omega | (dsimp only; omega)), ⟨?_, ⟨⟨rfl, .refl _⟩, trivial⟩, .nil⟩⟩
      refine ⟨(by refine NEq.int ?_; first | exact rfl | omega | (rw [wrapI (by omega)]; first | exact rfl | omega)), .refl _, .refl _, .bool ?_, .refl _, .refl _, .refl _, trivial⟩
      show _ = okK l spare (k + 1)
      rw [okK_step hkk, hmv, Bool.eq_iff_iff]
      have hm' := hm
      rw [List.getD_eq_getElem?_getD] at hm'
      simp [bif_and, inR, hm', and_assoc]
      try (intro a b c; constructor <;> (intro h; omega))
    · rw [if_neg hm] at ho
      subst ho
      repeat' (first | (refine And.intro ?_ ?_; focus (first | first | first | exact rfl | exact trivial | exact fun _ => rfl | exact Nat.le_of_ble_eq_true rfl | exact Option.some_ne_none _ | omega | (intro hh; cases hh; done) | assumption | (show (0 : Int) ≤ _; omega) | (rw [bPair]; omega) | (rw [bInt]; omega) | exact fun hh => hh | omega | ((refine ⟨fun hh => ?_, fun hh => ?_⟩) <;> (first | exact rfl | exact beq_iff_eq.2 hh)) | ((repeat' apply And.intro) <;> (first | first | exact rfl | exact trivial | exact fun _ => rfl | exact Nat.le_of_ble_eq_true rfl | exact Option.some_ne_none _ | omega | (intro hh; cases hh; done) | assumption | (show (0 : Int) ≤ _; omega) | (rw [bPair]; omega) | (rw [bInt]; omega))) | (intro hh; first | (cases hh; done) | ((repeat' apply And.intro) <;> (first | first | exact rfl | exact trivial | exact fun _ => rfl | exact Nat.le_of_ble_eq_true rfl | exact Option.some_ne_none _ | omega | (intro hh; cases hh; done) | assumption | (show (0 : Int) ≤ _; omega) | (rw [bPair]; omega) | (rw [bInt]; omega)))))) | (refine And.intro ?_ ?_) | (intro hq; (try simp at hq); (try (exfalso; omega)); (try (revert hq; intro))))
      · exact sorts_enc _ _
      refine Exists.intro (PV.omap (encS (insS ks (l.getD k (0, 0)).1)) _ _) (And.intro (congrArg (fun e => PV.omap e _ _) (upd_enc _ _)) ?_)
      repeat' (first | (refine And.intro ?_ ?_; focus (first | first | first | exact rfl | exact trivial | exact fun _ => rfl | exact Nat.le_of_ble_eq_true rfl | exact Option.some_ne_none _ | omega | (intro hh; cases hh; done) | assumption | (show (0 : Int) ≤ _; omega) | (rw [bPair]; omega) | (rw [bInt]; omega) | exact fun hh => hh | omega | ((refine ⟨fun hh => ?_, fun hh => ?_⟩) <;> (first | exact rfl | exact beq_iff_eq.2 hh)) | ((repeat' apply And.intro) <;> (first | first | exact rfl | exact trivial | exact fun _ => rfl | exact Nat.le_of_ble_eq_true rfl | exact Option.some_ne_none _ | omega | (intro hh; cases hh; done) | assumption | (show (0 : Int) ≤ _; omega) | (rw [bPair]; omega) | (rw [bInt]; omega))) | (intro hh; first | (cases hh; done) | ((repeat' apply And.intro) <;> (first | first | exact rfl | exact trivial | exact fun _ => rfl | exact Nat.le_of_ble_eq_true rfl | exact Option.some_ne_none _ | omega | (intro hh; cases hh; done) | assumption | (show (0 : Int) ≤ _; omega) | (rw [bPair]; omega) | (rw [bInt]; omega)))))) | (refine And.intro ?_ ?_) | (intro hq; (try simp at hq); (try (exfalso; omega)); (try (revert hq; intro))))
      refine Exists.intro (k+1, insS ks (l.getD k (0, 0)).1, _, _) ⟨⟨hkk, hins⟩, (by first | omega | (dsimp only; omega)), ⟨?_, ⟨⟨rfl, .refl _⟩, trivial⟩, .nil⟩⟩
      refine ⟨(by refine NEq.int ?_; first | exact rfl | omega | (rw [wrapI (by omega)]; first | exact rfl | omega)), .refl _, .refl _, .bool ?_, .refl _, .refl _, .refl _, trivial⟩
      show _ = okK l spare (k + 1)
      rw [okK_step hkk, hmv, Bool.eq_iff_iff]
      have hm' := hm
      rw [List.getD_eq_getElem?_getD] at hm'
      simp [bif_and, inR, hm', and_assoc]
      try (intro a b c; constructor <;> (intro h; omega))
  · rename_i h1 h2
    rw [okK_all h1] at h2
    unfold movesRes
    rw [h2]
    exact NEq.tup2 NEq.nils (.refl _)
  rename_i h1 h2
  rw [okK_all h1] at h2
  have hlen := mOK_len h2
  unfold movesRes
  rw [h2]
  refine CallS.own (oprs l) (fun id ver => .ref id ver [] 2 0 l.length) (Clone_spec l hl) (plainAll rfl) ?_
  refine CallS.onA (L0 := [((1, 80), ⟨nv + 1 + 1 + 1 + 1, oprs l⟩)]) (M := [((1, 26), ⟨14, .omap (encS ks) bs cl⟩)]) (DeleteFunc_spec l _ _ _ (Above.cons Above.nil (by decide)) hl) (fun r => rfl) fun x L' nv' hR => ?_
  obtain ⟨rfl, rfl⟩ := hR
  repeat' (first | (refine And.intro ?_ ?_; focus (first | first | first | exact rfl | exact trivial | exact fun _ => rfl | exact Nat.le_of_ble_eq_true rfl | exact Option.some_ne_none _ | omega | (intro hh; cases hh; done) | assumption | (show (0 : Int) ≤ _; omega) | (rw [bPair]; omega) | (rw [bInt]; omega) | exact fun hh => hh | omega | ((refine ⟨fun hh => ?_, fun hh => ?_⟩) <;> (first | exact rfl | exact beq_iff_eq.2 hh)) | ((repeat' apply And.intro) <;> (first | first | exact rfl | exact trivial | exact fun _ => rfl | exact Nat.le_of_ble_eq_true rfl | exact Option.some_ne_none _ | omega | (intro hh; cases hh; done) | assumption | (show (0 : Int) ≤ _; omega) | (rw [bPair]; omega) | (rw [bInt]; omega))) | (intro hh; first | (cases hh; done) | ((repeat' apply And.intro) <;> (first | first | exact rfl | exact trivial | exact fun _ => rfl | exact Nat.le_of_ble_eq_true rfl | exact Option.some_ne_none _ | omega | (intro hh; cases hh; done) | assumption | (show (0 : Int) ≤ _; omega) | (rw [bPair]; omega) | (rw [bInt]; omega)))))) | (refine And.intro ?_ ?_) | (intro hq; (try simp at hq); (try (exfalso; omega)); (try (revert hq; intro))))
  generalize nv + 1 + 1 + 1 + 1 = v
  generalize max (max (v + 1) v + 1) nv' = vb
  have hall : keepsL l l.length = l.filter fun p => p.1 != p.2 := by unfold keepsL; rw [List.take_length]
  rw [hall]
  generalize hrest : List.replicate (l.length - (l.filter fun p => p.1 != p.2).length) ((0, 0) : Int × Int) = rest0
  have hl2 : (l.filter fun p => p.1 != p.2).length ≤ 250 := Nat.le_trans (List.length_filter_le ..) hlen
  have hl3 : (l.filter fun p => p.1 != p.2).length ≤ l.length := List.length_filter_le ..
  have hsp : ∀ p ∈ l.filter fun p => p.1 != p.2, p.1 ≠ spare := mOK_spare h2
  have hnd0 : ((l.filter fun p => p.1 != p.2).map (·.1)).Nodup := mOK_nodup h2
  have hr0 : (l.filter fun p => p.1 != p.2).length + rest0.length = l.length := by rw [← hrest, List.length_replicate]; omega
  refine ghostS0 11 (1, 1001) (by decide) 2 (fun _ _ => .undef) rfl rfl fun v2 => ?_
  refine loopS5 mx (by decide) (by kernel_rfl) (fun left rest out n v2 => mvI l spare left out n ∧ (left.map (·.1)).Nodup ∧ left.length + rest.length = l.length) (fun left rest out n v2 => [(10, .ptr (1, 10) vb [] 0 0), (11, .ref (1, 1001) v2 [] 2 0 out.length), (1, .int .i64 spare)])
    (fun left rest out n v2 => [((1, 80), ⟨v, oprs (left ++ rest)⟩), ((1, 10), ⟨vb, .obox 1 fun _ => .ref (1, 80) v [] 2 0 left.length⟩), ((1, 1001), ⟨v2, oprs out⟩)]) (fun left rest out n v2 => n) (l.filter fun p => p.1 != p.2) rest0 [] 600 v2 ?_ ⟨?_, ?_, .nil⟩ ?_
  · refine ⟨⟨hl2, hsp, ?_, rfl, by simp⟩, hnd0, hr0⟩
    unfold μL; split <;> omega
  · exact ⟨.refl _, .refs rfl rfl rfl, .refl _, trivial⟩
  · refine ⟨⟨rfl, .refl _⟩, ⟨rfl, .obox fun o ho => ?_⟩, ⟨rfl, .owns rfl rfl fun i o hi => absurd hi (by simp)⟩, trivial⟩
    obtain rfl : o = 0 := by have : o < 1 := ho; omega
    exact .refl _
  intro left rest out n v2 nv ⟨hI, hnd, hll0⟩
  have hll := hI.len
  have hob := hI.bound
  have hlr : (left ++ rest).length = left.length + rest.length := List.length_append
  repeat' (first | (refine And.intro ?_ ?_; focus (first | first | first | exact rfl | exact trivial | exact fun _ => rfl | exact Nat.le_of_ble_eq_true rfl | exact Option.some_ne_none _ | omega | (intro hh; cases hh; done) | assumption | (show (0 : Int) ≤ _; omega) | (rw [bPair]; omega) | (rw [bInt]; omega) | exact fun hh => hh | omega | ((refine ⟨fun hh => ?_, fun hh => ?_⟩) <;> (first | exact rfl | exact beq_iff_eq.2 hh)) | ((repeat' apply And.intro) <;> (first | first | exact rfl | exact trivial | exact fun _ => rfl | exact Nat.le_of_ble_eq_true rfl | exact Option.some_ne_none _ | omega | (intro hh; cases hh; done) | assumption | (show (0 : Int) ≤ _; omega) | (rw [bPair]; omega) | (rw [bInt]; omega))) | (intro hh; first | (cases hh; done) | ((repeat' apply And.intro) <;> (first | first | exact rfl | exact trivial | exact fun _ => rfl | exact Nat.le_of_ble_eq_true rfl | exact Option.some_ne_none _ | omega | (intro hh; cases hh; done) | assumption | (show (0 : Int) ≤ _; omega) | (rw [bPair]; omega) | (rw [bInt]; omega)))))) | (refine And.intro ?_ ?_) | (intro hq; (try simp at hq); (try (exfalso; omega)); (try (revert hq; intro))))
  rotate_left
  · rename_i h0
    subst h0
    have e := hI.res
    rw [mv_nil, List.append_nil] at e
    refine NEq.tup2 ?_ (.refl _)
    rw [if_pos rfl, ← e]
    exact view_prs rfl rfl
  rename_i h0
  refine CallS.plain [prs left, .func (.func 31) [] [.fptr 1 (fun _ => prs left) 0]] (.int .i64 (idxI (freeB left) left)) (IndexFunc1 left _ _ (freeB left) trivial (freeP left)) (.cons ?_ (.cons ?_ .nil)) trivial ?_
  · exact view_pre (l := left) (rest := rest) rfl rfl
  · refine NEq.clos ?_
    exact view_boxref (r2 := (1, 80)) (v := v) (l := left) (rest := rest) rfl rfl rfl
  cases hf : firstFree left with
  | some i0 =>
    rw [idx_some hnd hf]
    have hlt := firstFree_lt hf
    obtain ⟨m, rfl, hm⟩ := μL_take hf hI.fuel
    have hw : IntKind.i64.wrap ((i0 : Int) + 1) = (i0 : Int) + 1 := wrapI (by omega)
    have hgi : (left ++ rest).getD (0 + i0) (0, 0) = left.getD i0 (0, 0) := by rw [Nat.zero_add]; exact getD_lt hlt
    repeat' (first | (refine And.intro ?_ ?_; focus (first | first | first | exact rfl | exact trivial | exact fun _ => rfl | exact Nat.le_of_ble_eq_true rfl | exact Option.some_ne_none _ | omega | (intro hh; cases hh; done) | assumption | (show (0 : Int) ≤ _; omega) | (rw [bPair]; omega) | (rw [bInt]; omega) | exact fun hh => hh | omega | ((refine ⟨fun hh => ?_, fun hh => ?_⟩) <;> (first | exact rfl | exact beq_iff_eq.2 hh)) | ((repeat' apply And.intro) <;> (first | first | exact rfl | exact trivial | exact fun _ => rfl | exact Nat.le_of_ble_eq_true rfl | exact Option.some_ne_none _ | omega | (intro hh; cases hh; done) | assumption | (show (0 : Int) ≤ _; omega) | (rw [bPair]; omega) | (rw [bInt]; omega))) | (intro hh; first | (cases hh; done) | ((repeat' apply And.intro) <;> (first | first | exact rfl | exact trivial | exact fun _ => rfl | exact Nat.le_of_ble_eq_true rfl | exact Option.some_ne_none _ | omega | (intro hh; cases hh; done) | assumption | (show (0 : Int) ≤ _; omega) | (rw [bPair]; omega) | (rw [bInt]; omega)))))) | (refine And.intro ?_ ?_) | (intro hq; (try simp at hq); (try (exfalso; omega)); (try (revert hq; intro))))
    refine Exists.intro (oprs [left.getD i0 (0, 0)]) (And.intro ?_ (And.intro (by first | rfl | exact shape_prs (by simp) | exact shape_ints (by simp)) ?_))
    · exact one_pair _ rfl rfl (.int (congrArg (·.1) hgi)) (.int (congrArg (·.2) hgi))
    repeat' (first | (refine And.intro ?_ ?_; focus (first | first | first | exact rfl | exact trivial | exact fun _ => rfl | exact Nat.le_of_ble_eq_true rfl | exact Option.some_ne_none _ | omega | (intro hh; cases hh; done) | assumption | (show (0 : Int) ≤ _; omega) | (rw [bPair]; omega) | (rw [bInt]; omega) | exact fun hh => hh | omega | ((refine ⟨fun hh => ?_, fun hh => ?_⟩) <;> (first | exact rfl | exact beq_iff_eq.2 hh)) | ((repeat' apply And.intro) <;> (first | first | exact rfl | exact trivial | exact fun _ => rfl | exact Nat.le_of_ble_eq_true rfl | exact Option.some_ne_none _ | omega | (intro hh; cases hh; done) | assumption | (show (0 : Int) ≤ _; omega) | (rw [bPair]; omega) | (rw [bInt]; omega))) | (intro hh; first | (cases hh; done) | ((repeat' apply And.intro) <;> (first | first | exact rfl | exact trivial | exact fun _ => rfl | exact Nat.le_of_ble_eq_true rfl | exact Option.some_ne_none _ | omega | (intro hh; cases hh; done) | assumption | (show (0 : Int) ≤ _; omega) | (rw [bPair]; omega) | (rw [bInt]; omega)))))) | (refine And.intro ?_ ?_) | (intro hq; (try simp at hq); (try (exfalso; omega)); (try (revert hq; intro))))
    refine Exists.intro (oprs (out ++ [left.getD i0 (0, 0)])) (And.intro ?_ (And.intro (by first | rfl | exact shape_prs (by simp) | exact shape_ints (by simp)) ?_))
    · exact app_prs rfl rfl (fun i o hi ho => by (try dsimp only); rw [if_pos hi]; exact .refl _) (fun i o hi ho => by (try dsimp only); rw [if_neg (by omega), Nat.add_sub_cancel_left]; (try rw [cellV_pcell]); simp only [Nat.zero_add]; exact .refl _)
    repeat' (first | (refine And.intro ?_ ?_; focus (first | first | first | exact rfl | exact trivial | exact fun _ => rfl | exact Nat.le_of_ble_eq_true rfl | exact Option.some_ne_none _ | omega | (intro hh; cases hh; done) | assumption | (show (0 : Int) ≤ _; omega) | (rw [bPair]; omega) | (rw [bInt]; omega) | exact fun hh => hh | omega | ((refine ⟨fun hh => ?_, fun hh => ?_⟩) <;> (first | exact rfl | exact beq_iff_eq.2 hh)) | ((repeat' apply And.intro) <;> (first | first | exact rfl | exact trivial | exact fun _ => rfl | exact Nat.le_of_ble_eq_true rfl | exact Option.some_ne_none _ | omega | (intro hh; cases hh; done) | assumption | (show (0 : Int) ≤ _; omega) | (rw [bPair]; omega) | (rw [bInt]; omega))) | (intro hh; first | (cases hh; done) | ((repeat' apply And.intro) <;> (first | first | exact rfl | exact trivial | exact fun _ => rfl | exact Nat.le_of_ble_eq_true rfl | exact Option.some_ne_none _ | omega | (intro hh; cases hh; done) | assumption | (show (0 : Int) ≤ _; omega) | (rw [bPair]; omega) | (rw [bInt]; omega)))))) | (refine And.intro ?_ ?_) | (intro hq; (try simp at hq); (try (exfalso; omega)); (try (revert hq; intro))))
    rw [hw]
    refine CallS.on1 (r := (1, 80)) (rt := ⟨v, oprs (left ++ rest)⟩) (n := 2) rfl (Above.chk rfl Above.nil) (fun S' hS' => Delete_spec left rest i0 v _ S' hS' hlt (by omega)) ?_
    intro x L' nv' hR
    obtain ⟨rfl, rfl⟩ := hR
    repeat' (first | (refine And.intro ?_ ?_; focus (first | first | first | exact rfl | exact trivial | exact fun _ => rfl | exact Nat.le_of_ble_eq_true rfl | exact Option.some_ne_none _ | omega | (intro hh; cases hh; done) | assumption | (show (0 : Int) ≤ _; omega) | (rw [bPair]; omega) | (rw [bInt]; omega) | exact fun hh => hh | omega | ((refine ⟨fun hh => ?_, fun hh => ?_⟩) <;> (first | exact rfl | exact beq_iff_eq.2 hh)) | ((repeat' apply And.intro) <;> (first | first | exact rfl | exact trivial | exact fun _ => rfl | exact Nat.le_of_ble_eq_true rfl | exact Option.some_ne_none _ | omega | (intro hh; cases hh; done) | assumption | (show (0 : Int) ≤ _; omega) | (rw [bPair]; omega) | (rw [bInt]; omega))) | (intro hh; first | (cases hh; done) | ((repeat' apply And.intro) <;> (first | first | exact rfl | exact trivial | exact fun _ => rfl | exact Nat.le_of_ble_eq_true rfl | exact Option.some_ne_none _ | omega | (intro hh; cases hh; done) | assumption | (show (0 : Int) ≤ _; omega) | (rw [bPair]; omega) | (rw [bInt]; omega)))))) | (refine And.intro ?_ ?_) | (intro hq; (try simp at hq); (try (exfalso; omega)); (try (revert hq; intro))))
    refine Exists.intro (left.eraseIdx i0, (0, 0) :: rest, out ++ [left.getD i0 (0, 0)], m, _) ⟨⟨mvI_take hI hf hm, ?_, ?_⟩, (by first | omega | (dsimp only; omega)), ⟨?_, ⟨⟨rfl, .refl _⟩, ⟨rfl, ?_⟩, ⟨rfl, .refl _⟩, trivial⟩, .nil⟩⟩
    · exact hnd.sublist ((List.eraseIdx_sublist ..).map _)
    · show (left.eraseIdx i0).length + ((0, 0) :: rest).length = l.length
      rw [List.length_eraseIdx, if_pos hlt, List.length_cons]; omega
    · refine ⟨.refl _, .refs rfl rfl ?_, .refl _, trivial⟩
      show _ = (out ++ [left.getD i0 (0, 0)]).length
      rw [List.length_append]; rfl
    · refine NEq.obox fun o ho => ?_
      obtain rfl : o = 0 := by have : o < 1 := ho; omega
      refine NEq.refs rfl rfl ?_
      show _ = (left.eraseIdx i0).length
      rw [List.length_eraseIdx, if_pos hlt]
  | none =>
    rw [idx_no hnd hf]
    obtain ⟨m, rfl, hm⟩ := μL_break hf h0 hI.spr hI.fuel
    obtain ⟨x0, hd⟩ : ∃ x, left.getD 0 (0, 0) = x := ⟨_, rfl⟩
    have hd' : ((left ++ rest).getD (0 + Int.toNat 0) (0, 0)).1 = x0.1 := by rw [← hd]; exact congrArg (·.1) (getD_lt h0)
    rw [hd] at hm
    repeat' (first | (refine And.intro ?_ ?_; focus (first | first | first | exact rfl | exact trivial | exact fun _ => rfl | exact Nat.le_of_ble_eq_true rfl | exact Option.some_ne_none _ | omega | (intro hh; cases hh; done) | assumption | (show (0 : Int) ≤ _; omega) | (rw [bPair]; omega) | (rw [bInt]; omega) | exact fun hh => hh | omega | ((refine ⟨fun hh => ?_, fun hh => ?_⟩) <;> (first | exact rfl | exact beq_iff_eq.2 hh)) | ((repeat' apply And.intro) <;> (first | first | exact rfl | exact trivial | exact fun _ => rfl | exact Nat.le_of_ble_eq_true rfl | exact Option.some_ne_none _ | omega | (intro hh; cases hh; done) | assumption | (show (0 : Int) ≤ _; omega) | (rw [bPair]; omega) | (rw [bInt]; omega))) | (intro hh; first | (cases hh; done) | ((repeat' apply And.intro) <;> (first | first | exact rfl | exact trivial | exact fun _ => rfl | exact Nat.le_of_ble_eq_true rfl | exact Option.some_ne_none _ | omega | (intro hh; cases hh; done) | assumption | (show (0 : Int) ≤ _; omega) | (rw [bPair]; omega) | (rw [bInt]; omega)))))) | (refine And.intro ?_ ?_) | (intro hq; (try simp at hq); (try (exfalso; omega)); (try (revert hq; intro))))
    refine Exists.intro (oprs [(spare, x0.1)]) (And.intro ?_ (And.intro (by first | rfl | exact shape_prs (by simp) | exact shape_ints (by simp)) ?_))
    · exact one_pair _ rfl rfl (.refl _) (.int hd')
    repeat' (first | (refine And.intro ?_ ?_; focus (first | first | first | exact rfl | exact trivial | exact fun _ => rfl | exact Nat.le_of_ble_eq_true rfl | exact Option.some_ne_none _ | omega | (intro hh; cases hh; done) | assumption | (show (0 : Int) ≤ _; omega) | (rw [bPair]; omega) | (rw [bInt]; omega) | exact fun hh => hh | omega | ((refine ⟨fun hh => ?_, fun hh => ?_⟩) <;> (first | exact rfl | exact beq_iff_eq.2 hh)) | ((repeat' apply And.intro) <;> (first | first | exact rfl | exact trivial | exact fun _ => rfl | exact Nat.le_of_ble_eq_true rfl | exact Option.some_ne_none _ | omega | (intro hh; cases hh; done) | assumption | (show (0 : Int) ≤ _; omega) | (rw [bPair]; omega) | (rw [bInt]; omega))) | (intro hh; first | (cases hh; done) | ((repeat' apply And.intro) <;> (first | first | exact rfl | exact trivial | exact fun _ => rfl | exact Nat.le_of_ble_eq_true rfl | exact Option.some_ne_none _ | omega | (intro hh; cases hh; done) | assumption | (show (0 : Int) ≤ _; omega) | (rw [bPair]; omega) | (rw [bInt]; omega)))))) | (refine And.intro ?_ ?_) | (intro hq; (try simp at hq); (try (exfalso; omega)); (try (revert hq; intro))))
    refine Exists.intro (oprs (out ++ [(spare, x0.1)])) (And.intro ?_ (And.intro (by first | rfl | exact shape_prs (by simp) | exact shape_ints (by simp)) ?_))
    · exact app_prs rfl rfl (fun i o hi ho => by (try dsimp only); rw [if_pos hi]; exact .refl _) (fun i o hi ho => by (try dsimp only); rw [if_neg (by omega), Nat.add_sub_cancel_left]; (try rw [cellV_pcell]); simp only [Nat.zero_add]; exact .refl _)
    repeat' (first | (refine And.intro ?_ ?_; focus (first | first | first | exact rfl | exact trivial | exact fun _ => rfl | exact Nat.le_of_ble_eq_true rfl | exact Option.some_ne_none _ | omega | (intro hh; cases hh; done) | assumption | (show (0 : Int) ≤ _; omega) | (rw [bPair]; omega) | (rw [bInt]; omega) | exact fun hh => hh | omega | ((refine ⟨fun hh => ?_, fun hh => ?_⟩) <;> (first | exact rfl | exact beq_iff_eq.2 hh)) | ((repeat' apply And.intro) <;> (first | first | exact rfl | exact trivial | exact fun _ => rfl | exact Nat.le_of_ble_eq_true rfl | exact Option.some_ne_none _ | omega | (intro hh; cases hh; done) | assumption | (show (0 : Int) ≤ _; omega) | (rw [bPair]; omega) | (rw [bInt]; omega))) | (intro hh; first | (cases hh; done) | ((repeat' apply And.intro) <;> (first | first | exact rfl | exact trivial | exact fun _ => rfl | exact Nat.le_of_ble_eq_true rfl | exact Option.some_ne_none _ | omega | (intro hh; cases hh; done) | assumption | (show (0 : Int) ≤ _; omega) | (rw [bPair]; omega) | (rw [bInt]; omega)))))) | (refine And.intro ?_ ?_) | (intro hq; (try simp at hq); (try (exfalso; omega)); (try (revert hq; intro))))
    refine loopS2 mx (by decide) (by kernel_rfl) (fun (k v3 : Nat) => k ≤ left.length) (fun k v3 => [(114, .int .i64 k), (113, .int .i64 left.length), (10, .ptr (1, 10) vb [] 0 0), (11, .ref (1, 1001) v3 [] 2 0 (out ++ [(spare, x0.1)]).length), (1, .int .i64 spare), (13, .int .i64 x0.1)])
      (fun k v3 => [((1, 80), ⟨v, oprs (sb left x0.1 spare k ++ rest)⟩), ((1, 10), ⟨vb, .obox 1 fun _ => .ref (1, 80) v [] 2 0 left.length⟩), ((1, 1001), ⟨v3, oprs (out ++ [(spare, x0.1)])⟩)]) (fun k v3 => left.length - k) 0 _ (by simp) ⟨?_, ⟨⟨rfl, ?_⟩, ⟨rfl, .refl _⟩, ⟨rfl, .refl _⟩, trivial⟩, .nil⟩ ?_
    · exact ⟨.refl _, .int (by omega), .refl _, .refs rfl rfl (by rw [List.length_append]; rfl), .refl _, .int hd', trivial⟩
    · show NEq (oprs (left ++ rest)) (oprs (sb left x0.1 spare 0 ++ rest))
      unfold sb; simp only [List.take_zero, List.map_nil, List.nil_append, List.drop_zero]; exact .refl _
    intro k v3 nv hk
    have hsl := sb_len left x0.1 spare k
    have hsl2 : (sb left x0.1 spare k ++ rest).length = left.length + rest.length := by rw [List.length_append, hsl]
    have hsl3 : (sb left x0.1 spare (k + 1) ++ rest).length = left.length + rest.length := by rw [List.length_append, sb_len]
    have hget : (sb left x0.1 spare k ++ rest)[k]?.getD (0, 0) = if k < left.length then left.getD k (0, 0) else (sb left x0.1 spare k ++ rest).getD k (0, 0) := by
      rw [← List.getD_eq_getElem?_getD]
      split
      · rename_i h
        rw [getD_lt (by omega), sb_getD, if_neg (by omega)]
      · rfl
    have hone : ∀ j, (sb left x0.1 spare (k + 1) ++ rest).getD j (0, 0) = if j = k ∧ j < left.length then subst1 x0.1 spare (left.getD k (0, 0)) else (sb left x0.1 spare k ++ rest).getD j (0, 0) := fun j => by
      rw [getD_app, getD_app, sb_len, sb_len, sb_getD, sb_getD]
      by_cases h0 : j < left.length
      · rw [if_pos h0, if_pos h0]
        by_cases h1 : j = k
        · subst h1
          rw [if_pos (by omega), if_pos (by omega)]
        · rw [if_neg (c := j = k ∧ j < left.length) (by omega)]
          by_cases h3 : j < k ∧ j < left.length
          · rw [if_pos h3, if_pos (by omega)]
          · rw [if_neg h3, if_neg (by omega)]
      · rw [if_neg h0, if_neg h0, if_neg (by omega)]
    repeat' (first | (refine And.intro ?_ ?_; focus (first | first | first | exact rfl | exact trivial | exact fun _ => rfl | exact Nat.le_of_ble_eq_true rfl | exact Option.some_ne_none _ | omega | (intro hh; cases hh; done) | assumption | (show (0 : Int) ≤ _; omega) | (rw [bPair]; omega) | (rw [bInt]; omega) | exact fun hh => hh | omega | ((refine ⟨fun hh => ?_, fun hh => ?_⟩) <;> (first | exact rfl | exact beq_iff_eq.2 hh)) | ((repeat' apply And.intro) <;> (first | first | exact rfl | exact trivial | exact fun _ => rfl | exact Nat.le_of_ble_eq_true rfl | exact Option.some_ne_none _ | omega | (intro hh; cases hh; done) | assumption | (show (0 : Int) ≤ _; omega) | (rw [bPair]; omega) | (rw [bInt]; omega))) | (intro hh; first | (cases hh; done) | ((repeat' apply And.intro) <;> (first | first | exact rfl | exact trivial | exact fun _ => rfl | exact Nat.le_of_ble_eq_true rfl | exact Option.some_ne_none _ | omega | (intro hh; cases hh; done) | assumption | (show (0 : Int) ≤ _; omega) | (rw [bPair]; omega) | (rw [bInt]; omega)))))) | (refine And.intro ?_ ?_) | (intro hq; (try simp at hq); (try (exfalso; omega)); (try (revert hq; intro))))
    · exact shape_pcell _ _
    · rename_i h2 h3
      rw [hget, if_pos h2] at h3
      refine Exists.intro (oprs (sb left x0.1 spare (k + 1) ++ rest)) (And.intro ?_ (And.intro (shape_prs (hsl2.trans hsl3.symm)) ?_))
      · refine NEq.owns rfl (hsl2.trans hsl3.symm) fun j o hj ho => ?_
        show NEq (if j = 0 + (k : Int).toNat ∧ 1 ≤ o ∧ o < 2 then List.getD [PV.int .i64 spare] (o - 1) .undef else pcell ((sb left x0.1 spare k ++ rest).getD j (0, 0)) o) _
        rw [hone j]
        by_cases h : j = k
        · subst h
          have hs : (sb left x0.1 spare j ++ rest).getD j (0, 0) = left.getD j (0, 0) := by rw [List.getD_eq_getElem?_getD, hget, if_pos h2]
          rw [if_pos (c := j = j ∧ j < left.length) ⟨rfl, h2⟩, hs, subst1, if_pos h3]
          obtain rfl | rfl : o = 0 ∨ o = 1 := by omega
          · rw [if_neg (by omega)]; exact .refl _
          · rw [if_pos ⟨by omega, by omega, by omega⟩]; exact .refl _
        · rw [if_neg (by omega), if_neg (by omega)]; exact .refl _
      repeat' (first | (refine And.intro ?_ ?_; focus (first | first | first | exact rfl | exact trivial | exact fun _ => rfl | exact Nat.le_of_ble_eq_true rfl | exact Option.some_ne_none _ | omega | (intro hh; cases hh; done) | assumption | (show (0 : Int) ≤ _; omega) | (rw [bPair]; omega) | (rw [bInt]; omega) | exact fun hh => hh | omega | ((refine ⟨fun hh => ?_, fun hh => ?_⟩) <;> (first | exact rfl | exact beq_iff_eq.2 hh)) | ((repeat' apply And.intro) <;> (first | first | exact rfl | exact trivial | exact fun _ => rfl | exact Nat.le_of_ble_eq_true rfl | exact Option.some_ne_none _ | omega | (intro hh; cases hh; done) | assumption | (show (0 : Int) ≤ _; omega) | (rw [bPair]; omega) | (rw [bInt]; omega))) | (intro hh; first | (cases hh; done) | ((repeat' apply And.intro) <;> (first | first | exact rfl | exact trivial | exact fun _ => rfl | exact Nat.le_of_ble_eq_true rfl | exact Option.some_ne_none _ | omega | (intro hh; cases hh; done) | assumption | (show (0 : Int) ≤ _; omega) | (rw [bPair]; omega) | (rw [bInt]; omega)))))) | (refine And.intro ?_ ?_) | (intro hq; (try simp at hq); (try (exfalso; omega)); (try (revert hq; intro))))
      exact Exists.intro (k+1, _) ⟨h2, (by first | omega | (dsimp only; omega)), ⟨by ((repeat' apply And.intro) <;> (first | exact True.intro | exact NEq.refl _ | (refine NEq.int ?_; first | exact rfl | omega | (rw [wrapI (by omega)]; first | exact rfl | omega)))), ⟨⟨rfl, .refl _⟩, ⟨rfl, .refl _⟩, ⟨rfl, .refl _⟩, trivial⟩, .nil⟩⟩
    · rename_i h2 h3
      rw [hget, if_pos h2] at h3
      refine Exists.intro (k+1, _) ⟨h2, (by first | omega | (dsimp only; omega)), ⟨by ((repeat' apply And.intro) <;> (first | exact True.intro | exact NEq.refl _ | (refine NEq.int ?_; first | exact rfl | omega | (rw [wrapI (by omega)]; first | exact rfl | omega)))), ⟨⟨rfl, ?_⟩, ⟨rfl, .refl _⟩, ⟨rfl, .refl _⟩, trivial⟩, .nil⟩⟩
      show NEq (oprs _) (oprs (sb left x0.1 spare (k + 1) ++ rest))
      refine NEq.owns rfl (hsl2.trans hsl3.symm) fun j o hj ho => ?_
      rw [hone j]
      by_cases h : j = k
      · subst h
        rw [if_pos ⟨rfl, h2⟩, List.getD_eq_getElem?_getD, hget, if_pos h2, subst1, if_neg h3]
        exact .refl _
      · rw [if_neg (by omega)]; exact .refl _
    rename_i h2
    have hke : k = left.length := by omega
    subst hke
    rw [sb_all]
    refine Exists.intro (left.map (subst1 x0.1 spare), rest, out ++ [(spare, x0.1)], m, _) ⟨⟨mvI_break hI hf h0 hd hm, ?_, ?_⟩, (by first | omega | (dsimp only; omega)), ⟨?_, ⟨⟨rfl, .refl _⟩, ⟨rfl, ?_⟩, ⟨rfl, .refl _⟩, trivial⟩, .nil⟩⟩
    · show ((left.map (subst1 x0.1 spare)).map (·.1)).Nodup
      have : (left.map (subst1 x0.1 spare)).map (·.1) = left.map (·.1) := by
        rw [List.map_map]
        refine List.map_congr_left fun p _ => ?_
        show (subst1 x0.1 spare p).1 = p.1
        unfold subst1; split <;> rfl
      rw [this]; exact hnd
    · show (left.map (subst1 x0.1 spare)).length + rest.length = l.length
      rw [List.length_map]; exact hll0
    · exact ⟨.refl _, .refl _, .refl _, trivial⟩
    · refine NEq.obox fun o ho => ?_
      refine NEq.refs rfl rfl ?_
      show _ = (left.map (subst1 x0.1 spare)).length
      rw [List.length_map]
end Go.Ab
namespace Go.Ab
open Go.Proofs
set_option maxRecDepth 100000
set_option maxHeartbeats 1000000

theorem movesLaw (hup : CallsF Try.prog 8 [] (.bool true)) (l : List (Int × Int)) (spare : Int) (hl : l.length ≤ 1048576) : CallsF Try.prog 3 [prs l, .int .i64 spare] (.bool true) := by
  refine callsF_ofS mx Try.call3 Try.func3 rfl Try.ntmps3 Try.results3 (by kernel_rfl) (by simp) fun lo => ?_
  refine CallS.frozen (.bool true) hup (plainAll rfl) ?_
  repeat' (first | (refine And.intro ?_ ?_; focus (first | first | first | exact rfl | exact trivial | exact fun _ => rfl | exact Nat.le_of_ble_eq_true rfl | exact Option.some_ne_none _ | omega | (intro hh; cases hh; done) | assumption | (show (0 : Int) ≤ _; omega) | (rw [bPair]; omega) | (rw [bInt]; omega) | exact fun hh => hh | omega | ((refine ⟨fun hh => ?_, fun hh => ?_⟩) <;> (first | exact rfl | exact beq_iff_eq.2 hh)) | ((repeat' apply And.intro) <;> (first | first | exact rfl | exact trivial | exact fun _ => rfl | exact Nat.le_of_ble_eq_true rfl | exact Option.some_ne_none _ | omega | (intro hh; cases hh; done) | assumption | (show (0 : Int) ≤ _; omega) | (rw [bPair]; omega) | (rw [bInt]; omega))) | (intro hh; first | (cases hh; done) | ((repeat' apply And.intro) <;> (first | first | exact rfl | exact trivial | exact fun _ => rfl | exact Nat.le_of_ble_eq_true rfl | exact Option.some_ne_none _ | omega | (intro hh; cases hh; done) | assumption | (show (0 : Int) ≤ _; omega) | (rw [bPair]; omega) | (rw [bInt]; omega)))))) | (refine And.intro ?_ ?_) | (intro hq; (try simp at hq); (try (exfalso; omega)); (try (revert hq; intro))))
  · exact .refl _
  refine CallS.frozen (movesRes l spare) (movesP_spec l spare hl) (plainAll rfl) ?_
  repeat' (first | (refine And.intro ?_ ?_; focus (first | first | first | exact rfl | exact trivial | exact fun _ => rfl | exact Nat.le_of_ble_eq_true rfl | exact Option.some_ne_none _ | omega | (intro hh; cases hh; done) | assumption | (show (0 : Int) ≤ _; omega) | (rw [bPair]; omega) | (rw [bInt]; omega) | exact fun hh => hh | omega | ((refine ⟨fun hh => ?_, fun hh => ?_⟩) <;> (first | exact rfl | exact beq_iff_eq.2 hh)) | ((repeat' apply And.intro) <;> (first | first | exact rfl | exact trivial | exact fun _ => rfl | exact Nat.le_of_ble_eq_true rfl | exact Option.some_ne_none _ | omega | (intro hh; cases hh; done) | assumption | (show (0 : Int) ≤ _; omega) | (rw [bPair]; omega) | (rw [bInt]; omega))) | (intro hh; first | (cases hh; done) | ((repeat' apply And.intro) <;> (first | first | exact rfl | exact trivial | exact fun _ => rfl | exact Nat.le_of_ble_eq_true rfl | exact Option.some_ne_none _ | omega | (intro hh; cases hh; done) | assumption | (show (0 : Int) ≤ _; omega) | (rw [bPair]; omega) | (rw [bInt]; omega)))))) | (refine And.intro ?_ ?_) | (intro hq; (try simp at hq); (try (exfalso; omega)); (try (revert hq; intro))))
  refine CallS.frozen (movesRes l spare) (Moves_spec l spare) (plainAll rfl) ?_
  repeat' (first | (refine And.intro ?_ ?_; focus (first | first | first | exact rfl | exact trivial | exact fun _ => rfl | exact Nat.le_of_ble_eq_true rfl | exact Option.some_ne_none _ | omega | (intro hh; cases hh; done) | assumption | (show (0 : Int) ≤ _; omega) | (rw [bPair]; omega) | (rw [bInt]; omega) | exact fun hh => hh | omega | ((refine ⟨fun hh => ?_, fun hh => ?_⟩) <;> (first | exact rfl | exact beq_iff_eq.2 hh)) | ((repeat' apply And.intro) <;> (first | first | exact rfl | exact trivial | exact fun _ => rfl | exact Nat.le_of_ble_eq_true rfl | exact Option.some_ne_none _ | omega | (intro hh; cases hh; done) | assumption | (show (0 : Int) ≤ _; omega) | (rw [bPair]; omega) | (rw [bInt]; omega))) | (intro hh; first | (cases hh; done) | ((repeat' apply And.intro) <;> (first | first | exact rfl | exact trivial | exact fun _ => rfl | exact Nat.le_of_ble_eq_true rfl | exact Option.some_ne_none _ | omega | (intro hh; cases hh; done) | assumption | (show (0 : Int) ≤ _; omega) | (rw [bPair]; omega) | (rw [bInt]; omega)))))) | (refine And.intro ?_ ?_) | (intro hq; (try simp at hq); (try (exfalso; omega)); (try (revert hq; intro))))
  refine CallS.frozen (.bool (decide ((if mOK l spare = true then movesR l spare else []) = (if mOK l spare = true then movesR l spare else [])))) (samePairs_spec _ _) (plainAll rfl) ?_
  repeat' (first | (refine And.intro ?_ ?_; focus (first | first | first | exact rfl | exact trivial | exact fun _ => rfl | exact Nat.le_of_ble_eq_true rfl | exact Option.some_ne_none _ | omega | (intro hh; cases hh; done) | assumption | (show (0 : Int) ≤ _; omega) | (rw [bPair]; omega) | (rw [bInt]; omega) | exact fun hh => hh | omega | ((refine ⟨fun hh => ?_, fun hh => ?_⟩) <;> (first | exact rfl | exact beq_iff_eq.2 hh)) | ((repeat' apply And.intro) <;> (first | first | exact rfl | exact trivial | exact fun _ => rfl | exact Nat.le_of_ble_eq_true rfl | exact Option.some_ne_none _ | omega | (intro hh; cases hh; done) | assumption | (show (0 : Int) ≤ _; omega) | (rw [bPair]; omega) | (rw [bInt]; omega))) | (intro hh; first | (cases hh; done) | ((repeat' apply And.intro) <;> (first | first | exact rfl | exact trivial | exact fun _ => rfl | exact Nat.le_of_ble_eq_true rfl | exact Option.some_ne_none _ | omega | (intro hh; cases hh; done) | assumption | (show (0 : Int) ≤ _; omega) | (rw [bPair]; omega) | (rw [bInt]; omega)))))) | (refine And.intro ?_ ?_) | (intro hq; (try simp at hq); (try (exfalso; omega)); (try (revert hq; intro))))
  (refine NEq.of_eq ?_; show PV.bool _ = PV.bool _; congr 1)
  simp
end Go.Ab

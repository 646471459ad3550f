/- What is read of numbers and pairs. -/
import Derived.Test.YtbclepldghjacaaB3
import Derived.Test.YtbclepldghjacaaB1
import Derived.Test.YtbclepldghjacaaA5
import Derived.Test.YtbclepldghjacaaRows
set_option linter.unusedVariables false
set_option linter.unusedSimpArgs false
/- Moves done one after the other do what they do at once: plain law. -/
namespace Go.Ab
set_option maxHeartbeats 1000000

/-- Moves done one after the other. -/
def ex (now : Int → Int) (m : List (Int × Int)) : Int → Int := m.foldl (fun s p x => if x = p.1 then s p.2 else s x) now
/-- Moves done at once. -/
def atOnce (left : List (Int × Int)) (now : Int → Int) (x : Int) : Int := match left.find? (fun p => p.1 == x) with
  | some p => now p.2
  | none => now x

structure okL (left : List (Int × Int)) (spare : Int) : Prop where
  nodup : (left.map (·.1)).Nodup
  spr : ∀ p ∈ left, p.1 ≠ spare
  self : ∀ p ∈ left, p.1 ≠ p.2

theorem atOnce_mem {left : List (Int × Int)} {now : Int → Int} (hn : (left.map (·.1)).Nodup) {p : Int × Int} (hp : p ∈ left) : atOnce left now p.1 = now p.2 := by
  induction left with
  | nil => cases hp
  | cons q l ih =>
    simp only [List.map_cons, List.nodup_cons] at hn
    unfold atOnce
    by_cases h : q.1 = p.1
    · rcases List.mem_cons.1 hp with rfl | hp'
      · simp
      · exact absurd (List.mem_map.2 ⟨p, hp', h.symm⟩) hn.1
    · rcases List.mem_cons.1 hp with rfl | hp'
      · exact absurd rfl h
      · have := ih hn.2 hp'
        unfold atOnce at this
        rw [List.find?_cons_of_neg (by simpa using h)]
        exact this
theorem atOnce_no {left : List (Int × Int)} {now : Int → Int} {x : Int} (h : ∀ p ∈ left, p.1 ≠ x) : atOnce left now x = now x := by
  unfold atOnce
  rw [List.find?_eq_none.2 (fun p hp => by simpa using h p hp)]

theorem firstFree_free {left : List (Int × Int)} {i : Nat} (h : firstFree left = some i) (hi : i < left.length) : ∀ j (hj : j < left.length), j ≠ i → left[j].2 ≠ left[i].1 := by
  simp only [firstFree, Option.map_eq_some_iff] at h
  obtain ⟨p, h1, rfl⟩ := h
  have h2 := List.find?_some h1
  have h3 := List.mem_of_find?_eq_some h1
  obtain ⟨k, hk, e⟩ := List.mem_iff_getElem.1 h3
  have ek : p = (left[k]'(by simpa using hk), k) := by rw [← e]; simp
  subst ek
  intro j hj hne he
  simp only [free1, Bool.not_eq_true', isSource, List.any_eq_false] at h2
  have := h2 (left[j], j) (List.mem_iff_getElem.2 ⟨j, by simpa using hj, by simp⟩)
  apply this
  simp [he]
  omega
theorem firstFree_none {left : List (Int × Int)} (h : firstFree left = none) : ∀ i (hi : i < left.length), ∃ j, ∃ hj : j < left.length, j ≠ i ∧ left[j].2 = left[i].1 := by
  intro i hi
  simp only [firstFree, Option.map_eq_none_iff, List.find?_eq_none] at h
  have := h (left[i], i) (List.mem_iff_getElem.2 ⟨i, by simpa using hi, by simp⟩)
  simp only [free1, Bool.not_eq_true', Bool.not_eq_false, isSource, List.any_eq_true, Bool.and_eq_true, beq_iff_eq, bne_iff_ne] at this
  obtain ⟨p, hp, h1, h2⟩ := this
  obtain ⟨k, hk, e⟩ := List.mem_iff_getElem.1 hp
  have ek : p = (left[k]'(by simpa using hk), k) := by rw [← e]; simp
  subst ek
  exact ⟨k, by simpa using hk, fun e => h1 (by simp [e]), h2⟩

theorem nodup_le {α : Type} [DecidableEq α] : ∀ (T S : List α), T.Nodup → (∀ t ∈ T, t ∈ S) → T.length ≤ S.length := by
  intro T
  induction T with
  | nil => intro S _ _; simp
  | cons t T ih =>
    intro S hn hs
    rw [List.nodup_cons] at hn
    have := ih (S.erase t) hn.2 fun u hu => (List.mem_erase_of_ne (fun e => hn.1 (by rw [← e]; exact hu))).2 (hs u (List.mem_cons_of_mem _ hu))
    rw [List.length_erase_of_mem (hs t (by simp))] at this
    have h1 : 0 < S.length := List.length_pos_of_mem (hs t (by simp))
    simp only [List.length_cons]
    omega
/-- Where no move is free, each source is a target. -/
theorem stuck_src {left : List (Int × Int)} {spare : Int} (hok : okL left spare) (h : firstFree left = none) : ∀ p ∈ left, p.2 ≠ spare := by
  intro p hp e
  have hT : ∀ t ∈ spare :: left.map (·.1), t ∈ left.map (·.2) := fun t ht => by
    rcases List.mem_cons.1 ht with rfl | ht
    · exact List.mem_map.2 ⟨p, hp, e⟩
    · obtain ⟨q, hq, rfl⟩ := List.mem_map.1 ht
      obtain ⟨i, hi, rfl⟩ := List.mem_iff_getElem.1 hq
      obtain ⟨j, hj, _, h2⟩ := firstFree_none h i hi
      exact List.mem_map.2 ⟨_, List.getElem_mem hj, h2⟩
  have := nodup_le _ _ (List.nodup_cons.2 ⟨fun hm => by obtain ⟨q, hq, e2⟩ := List.mem_map.1 hm; exact hok.spr q hq e2, hok.nodup⟩) hT
  simp at this
  omega

theorem okL_erase {left : List (Int × Int)} {spare : Int} (hok : okL left spare) (i : Nat) : okL (left.eraseIdx i) spare :=
  ⟨((List.eraseIdx_sublist left i).map _).nodup hok.nodup, fun p hp => hok.spr p (List.mem_of_mem_eraseIdx hp), fun p hp => hok.self p (List.mem_of_mem_eraseIdx hp)⟩
theorem subst1_fst (d spare : Int) (p : Int × Int) : (subst1 d spare p).1 = p.1 := by unfold subst1; split <;> rfl
theorem okL_subst {left : List (Int × Int)} {spare d : Int} (hok : okL left spare) : okL (left.map (subst1 d spare)) spare := by
  refine ⟨?_, fun p hp => ?_, fun p hp => ?_⟩
  · have : (left.map (subst1 d spare)).map (·.1) = left.map (·.1) := by simp [List.map_map, Function.comp_def, subst1_fst]
    rw [this]; exact hok.nodup
  · obtain ⟨q, hq, rfl⟩ := List.mem_map.1 hp
    rw [subst1_fst]; exact hok.spr q hq
  · obtain ⟨q, hq, rfl⟩ := List.mem_map.1 hp
    rw [subst1_fst]
    unfold subst1
    split
    · exact hok.spr q hq
    · exact hok.self q hq

theorem ex_cons (now : Int → Int) (p : Int × Int) (m : List (Int × Int)) : ex now (p :: m) = ex (fun x => if x = p.1 then now p.2 else now x) m := rfl

theorem mem_erase_ne {left : List (Int × Int)} {i : Nat} {q : Int × Int} (h : q ∈ left.eraseIdx i) : ∃ j, ∃ hj : j < left.length, j ≠ i ∧ left[j] = q := by
  rw [List.mem_eraseIdx_iff_getElem] at h
  obtain ⟨j, hj, h1, h2⟩ := h
  exact ⟨j, hj, h1, h2⟩

theorem ex_mv {spare : Int} : ∀ (n : Nat) (left : List (Int × Int)) (now : Int → Int), okL left spare → μL left ≤ n → ∀ x, x ≠ spare → ex now (mv spare n left) x = atOnce left now x := by
  intro n
  induction n with
  | zero =>
    intro left now hok hn x hx
    have : left = [] := by
      have : left.length = 0 := by unfold μL at hn; omega
      exact List.eq_nil_of_length_eq_zero this
    subst this
    rfl
  | succ n ih =>
    intro left now hok hn x hx
    by_cases h0 : left.length = 0
    · have := List.eq_nil_of_length_eq_zero h0
      subst this
      rfl
    cases hf : firstFree left with
    | some i =>
      have hi := firstFree_lt hf
      obtain ⟨m, hm, hμ⟩ := μL_take hf hn
      obtain rfl : m = n := by omega
      have hfree := firstFree_free hf hi
      have hg : left.getD i (0, 0) = left[i] := by simp [List.getD_eq_getElem?_getD, hi]
      rw [mv_take hf, hg, ex_cons, ih _ _ (okL_erase hok i) hμ x hx]
      have hnd1 : ∀ p ∈ left.eraseIdx i, p.1 ≠ left[i].1 := fun p hp e => by
        obtain ⟨j, hj, hji, rfl⟩ := mem_erase_ne hp
        have hpw := List.pairwise_iff_getElem.1 hok.nodup
        rcases Nat.lt_or_gt_of_ne hji with hlt | hlt
        · exact hpw j i (by simpa using hj) (by simpa using hi) hlt (by simpa using e)
        · exact hpw i j (by simpa using hi) (by simpa using hj) hlt (by simpa using e.symm)
      by_cases hx1 : x = left[i].1
      · subst hx1
        rw [atOnce_no hnd1, if_pos rfl, atOnce_mem hok.nodup (List.getElem_mem hi)]
      · by_cases hex : ∃ q ∈ left.eraseIdx i, q.1 = x
        · obtain ⟨q, hq, rfl⟩ := hex
          obtain ⟨j, hj, hji, ej⟩ := mem_erase_ne hq
          rw [atOnce_mem (okL_erase hok i).nodup hq, atOnce_mem hok.nodup (List.mem_of_mem_eraseIdx hq), if_neg]
          rw [← ej]
          exact hfree j hj hji
        · have h1 : ∀ p ∈ left.eraseIdx i, p.1 ≠ x := fun p hp e => hex ⟨p, hp, e⟩
          rw [atOnce_no h1, if_neg hx1, atOnce_no]
          intro p hp e
          obtain ⟨j, hj, rfl⟩ := List.mem_iff_getElem.1 hp
          by_cases hji : j = i
          · subst hji; exact hx1 e.symm
          · exact h1 _ (List.mem_eraseIdx_iff_getElem.2 ⟨j, hj, hji, rfl⟩) e
    | none =>
      obtain ⟨m, hm, hμ⟩ := μL_break hf (by omega) hok.spr hn
      obtain rfl : m = n := by omega
      have hsrc := stuck_src hok hf
      rw [mv_break hf (by omega), ex_cons, ih _ _ (okL_subst hok) hμ x hx]
      obtain ⟨d, hd⟩ : ∃ d, (left.getD 0 (0, 0)).1 = d := ⟨_, rfl⟩
      rw [hd]
      by_cases hex : ∃ q ∈ left, q.1 = x
      · obtain ⟨q, hq, rfl⟩ := hex
        have h1 := atOnce_mem (left := left.map (subst1 d spare)) (now := fun x => if x = spare then now d else now x) (okL_subst hok).nodup (List.mem_map.2 ⟨q, hq, rfl⟩)
        rw [subst1_fst] at h1
        rw [h1, atOnce_mem hok.nodup hq]
        unfold subst1
        split
        · rename_i e
          simp [e]
        · simp [hsrc q hq]
      · have h1 : ∀ p ∈ left, p.1 ≠ x := fun p hp e => hex ⟨p, hp, e⟩
        rw [atOnce_no h1, atOnce_no (fun p hp => by obtain ⟨q, hq, rfl⟩ := List.mem_map.1 hp; rw [subst1_fst]; exact h1 q hq)]
        simp [hx]

def hasSrc (left : List (Int × Int)) (s : Int) : Nat := if ∃ p ∈ left, p.2 = s then 1 else 0
theorem hasSrc_le (left : List (Int × Int)) (s : Int) : hasSrc left s ≤ 1 := by unfold hasSrc; split <;> omega
theorem len_mv {spare : Int} : ∀ (n : Nat) (left : List (Int × Int)), okL left spare → 2 * (mv spare n left).length + hasSrc left spare ≤ 3 * left.length := by
  intro n
  induction n using Nat.strongRecOn with
  | _ n ih =>
    intro left hok
    have hle := hasSrc_le left spare
    by_cases h0 : left.length = 0
    · have := List.eq_nil_of_length_eq_zero h0
      subst this
      rw [mv_nil]
      simp [hasSrc]
    cases n with
    | zero => simp only [mv, List.length_nil]; omega
    | succ n =>
      cases hf : firstFree left with
      | some i =>
        have hi := firstFree_lt hf
        rw [mv_take hf, List.length_cons]
        have := ih n (by omega) _ (okL_erase hok i)
        rw [List.length_eraseIdx, if_pos hi] at this
        omega
      | none =>
        have hsrc := stuck_src hok hf
        have h1 : hasSrc left spare = 0 := by
          unfold hasSrc
          rw [if_neg]
          rintro ⟨p, hp, e⟩
          exact hsrc p hp e
        rw [mv_break hf (by omega), List.length_cons, h1]
        obtain ⟨d, hd⟩ : ∃ d, (left.getD 0 (0, 0)).1 = d := ⟨_, rfl⟩
        rw [hd]
        have hd0 : left[0].1 = d := by rw [← hd]; simp [List.getD_eq_getElem?_getD, show 0 < left.length by omega]
        have hds : d ≠ spare := by rw [← hd0]; exact hok.spr _ (List.getElem_mem _)
        have hok' := okL_subst (d := d) hok
        cases n with
        | zero => simp only [mv, List.length_nil]; omega
        | succ k =>
          have hlen : (left.map (subst1 d spare)).length = left.length := by simp
          have hget : ∀ j (hj : j < left.length), (left.map (subst1 d spare))[j]'(by rw [hlen]; exact hj) = subst1 d spare left[j] := fun j hj => by simp
          cases hf' : firstFree (left.map (subst1 d spare)) with
          | none =>
            obtain ⟨j, hj, hj0, e⟩ := firstFree_none hf' 0 (by rw [hlen]; omega)
            rw [hlen] at hj
            rw [hget j hj, hget 0 (by omega), subst1_fst, hd0] at e
            unfold subst1 at e
            split at e
            · exact absurd e.symm hds
            · rename_i h; exact absurd e h
          | some i =>
            have hi := firstFree_lt hf'
            have hi' : i < left.length := by rw [hlen] at hi; exact hi
            have hfree := firstFree_free hf' hi
            rw [mv_take hf', List.length_cons]
            have hk := ih k (by omega) _ (okL_erase hok' i)
            rw [List.length_eraseIdx, if_pos hi, hlen] at hk
            -- the spare one is still a source
            obtain ⟨j, hj, hj0, e⟩ := firstFree_none hf 0 (by omega)
            rw [hd0] at e
            have hsj : (subst1 d spare left[j]).2 = spare := by unfold subst1; rw [if_pos e]
            have hji : j ≠ i := by
              rintro rfl
              obtain ⟨q, hq, hqi, e2⟩ := firstFree_none hf j hj
              have h3 := hfree q (by rw [hlen]; exact hq) hqi
              rw [hget q hq, hget j hj, subst1_fst] at h3
              by_cases hqd : left[q].2 = d
              · have := hok.self left[j] (List.getElem_mem hj)
                rw [e, ← hqd, e2] at this
                exact this rfl
              · apply h3
                unfold subst1
                rw [if_neg hqd]
                exact e2
            have hs1 : hasSrc ((left.map (subst1 d spare)).eraseIdx i) spare = 1 := by
              unfold hasSrc
              rw [if_pos]
              exact ⟨_, List.mem_eraseIdx_iff_getElem.2 ⟨j, by rw [hlen]; exact hj, hji, hget j hj⟩, hsj⟩
            rw [hs1] at hk
            omega

theorem mem_mv {spare : Int} {R : Int → Prop} (hs : R spare) : ∀ (n : Nat) (left : List (Int × Int)), (∀ q ∈ left, R q.1 ∧ R q.2) → ∀ p ∈ mv spare n left, R p.1 ∧ R p.2 := by
  intro n
  induction n with
  | zero => intro left _ p hp; simp [mv] at hp
  | succ n ih =>
    intro left hl p hp
    by_cases h0 : left.length = 0
    · have := List.eq_nil_of_length_eq_zero h0
      subst this
      rw [mv_nil] at hp
      cases hp
    cases hf : firstFree left with
    | some i =>
      have hi := firstFree_lt hf
      rw [mv_take hf] at hp
      rcases List.mem_cons.1 hp with rfl | hp
      · simp only [List.getD_eq_getElem?_getD, List.getElem?_eq_getElem hi, Option.getD_some]
        exact hl _ (List.getElem_mem hi)
      · exact ih _ (fun q hq => hl q (List.mem_of_mem_eraseIdx hq)) p hp
    | none =>
      rw [mv_break hf (by omega)] at hp
      rcases List.mem_cons.1 hp with rfl | hp
      · refine ⟨hs, ?_⟩
        simp only [List.getD_eq_getElem?_getD, List.getElem?_eq_getElem (show 0 < left.length by omega), Option.getD_some]
        exact (hl _ (List.getElem_mem _)).1
      · refine ih _ (fun q hq => ?_) p hp
        obtain ⟨r, hr, rfl⟩ := List.mem_map.1 hq
        rw [subst1_fst]
        refine ⟨(hl r hr).1, ?_⟩
        unfold subst1
        split
        · exact hs
        · exact (hl r hr).2

theorem mOK_pt {l : List (Int × Int)} {spare : Int} (h : mOK l spare = true) {i : Nat} (hi : i < l.length) : moveOK l spare (l[i], i) = true := by
  simp only [mOK, Bool.and_eq_true] at h
  exact List.all_eq_true.1 h.2 (l[i], i) (List.mem_iff_getElem.2 ⟨i, by simpa using hi, by simp⟩)
theorem mOK_el {l : List (Int × Int)} {spare : Int} (h : mOK l spare = true) : ∀ p ∈ l, (0 ≤ p.1 ∧ p.1 ≤ 250 ∧ p.1 ≠ spare) ∧ (0 ≤ p.2 ∧ p.2 ≤ 250 ∧ p.2 ≠ spare) := by
  intro p hp
  obtain ⟨i, hi, rfl⟩ := List.mem_iff_getElem.1 hp
  have := mOK_pt h hi
  simp only [moveOK, inR, Bool.and_eq_true, bne_iff_ne, decide_eq_true_eq] at this
  obtain ⟨⟨⟨⟨a, b⟩, c⟩, ⟨d, e⟩, f⟩, _⟩ := this
  exact ⟨⟨a, b, c⟩, d, e, f⟩
theorem mOK_nd {l : List (Int × Int)} {spare : Int} (h : mOK l spare = true) : (l.map (·.1)).Nodup := by
  refine List.pairwise_iff_getElem.2 fun i j hi hj hlt => ?_
  have hj' : j < l.length := by simpa using hj
  have := mOK_pt h hj'
  simp only [moveOK, Bool.and_eq_true, List.all_eq_true, bne_iff_ne] at this
  have h2 := this.2 l[i] (List.mem_iff_getElem.2 ⟨i, by simp; omega, by simp⟩)
  simpa using h2.symm
theorem mOK_rg {l : List (Int × Int)} {spare : Int} (h : mOK l spare = true) : 0 ≤ spare ∧ spare ≤ 250 := by
  simp only [mOK, Bool.and_eq_true, decide_eq_true_eq] at h
  exact ⟨h.1.1.2, h.1.2⟩
theorem okL_of {l : List (Int × Int)} {spare : Int} (h : mOK l spare = true) : okL (l.filter fun p => p.1 != p.2) spare :=
  ⟨((List.filter_sublist (l := l)).map _).nodup (mOK_nd h), fun p hp => (mOK_el h p (List.mem_filter.1 hp).1).1.2.2, fun p hp => by simpa using (List.mem_filter.1 hp).2⟩
theorem movesR_len {l : List (Int × Int)} {spare : Int} (h : mOK l spare = true) : 2 * (movesR l spare).length ≤ 3 * l.length := by
  have h1 := len_mv 600 _ (okL_of h)
  have h2 : (l.filter fun p => p.1 != p.2).length ≤ l.length := List.length_filter_le ..
  unfold movesR
  omega
theorem movesR_mem {l : List (Int × Int)} {spare : Int} (h : mOK l spare = true) : ∀ p ∈ movesR l spare, (0 ≤ p.1 ∧ p.1 ≤ 250) ∧ (0 ≤ p.2 ∧ p.2 ≤ 250) :=
  mem_mv (R := fun n => 0 ≤ n ∧ n ≤ 250) (mOK_rg h) 600 _ fun q hq => by
    obtain ⟨⟨a, b, _⟩, c, d, _⟩ := mOK_el h q (List.mem_filter.1 hq).1
    exact ⟨⟨a, b⟩, c, d⟩
theorem movesR_ex {l : List (Int × Int)} {spare : Int} (h : mOK l spare = true) (now : Int → Int) : ∀ x, x ≠ spare → ex now (movesR l spare) x = atOnce l now x := by
  intro x hx
  unfold movesR
  have hl : (l.filter fun p => p.1 != p.2).length ≤ 250 := Nat.le_trans (List.length_filter_le ..) (mOK_len h)
  rw [ex_mv 600 _ now (okL_of h) (by unfold μL; split <;> omega) x hx]
  by_cases hex : ∃ p ∈ l, p.1 = x
  · obtain ⟨p, hp, rfl⟩ := hex
    rw [atOnce_mem (mOK_nd h) hp]
    by_cases hs : p.1 = p.2
    · rw [atOnce_no, hs]
      intro q hq e
      obtain ⟨hq1, hq2⟩ := List.mem_filter.1 hq
      have h1 := atOnce_mem (now := fun x => x) (mOK_nd h) hq1
      have h2 := atOnce_mem (now := fun x => x) (mOK_nd h) hp
      rw [e] at h1
      have h3 : q.2 = p.2 := h1.symm.trans h2
      simp only [bne_iff_ne] at hq2
      exact hq2 (by rw [e, hs, h3])
    · exact atOnce_mem (okL_of h).nodup (List.mem_filter.2 ⟨hp, by simpa using hs⟩)
  · rw [atOnce_no (fun p hp e => hex ⟨p, hp, e⟩), atOnce_no (fun p hp e => hex ⟨p, (List.mem_filter.1 hp).1, e⟩)]
end Go.Ab
/- RegsAtOnce: the law's walk. -/
namespace Go.Ab
open Go.Proofs
set_option maxRecDepth 100000
set_option maxHeartbeats 2000000

def idn (k : Nat) : List Int := (List.range 251).map fun j => if j < k then (j : Int) else 0
theorem idn_len (k : Nat) : (idn k).length = 251 := by simp [idn]
theorem idn_getD (k j : Nat) : (idn k).getD j 0 = if j < 251 then (if j < k then (j : Int) else 0) else 0 := by
  simp only [idn, List.getD_eq_getElem?_getD, List.getElem?_map]
  by_cases h : j < 251
  · rw [List.getElem?_range h, if_pos h]; rfl
  · rw [List.getElem?_eq_none (by simpa using h), if_neg h]; rfl
def setAll (w : List Int) (l : List (Int × Int)) : List Int := l.foldl (fun w p => w.set p.1.toNat p.2) w
def movAll (w : List Int) (l : List (Int × Int)) : List Int := l.foldl (fun w p => w.set p.1.toNat (w.getD p.2.toNat 0)) w

theorem set_ints {w : List Int} {f : Nat → Nat → PV} {j : Nat} {x : Int} (h : ∀ i, i < w.length → NEq (f i 0) (if i = j then .int .i64 x else .int .i64 (w.getD i 0))) : NEq (.own 1 w.length f) (oints (w.set j x)) :=
  NEq.owns rfl (by simp) fun i o hi ho => by
    rw [List.length_set] at hi
    obtain rfl : o = 0 := by omega
    have := h i hi
    by_cases e : i = j
    · subst e
      rw [if_pos rfl] at this
      rw [show (w.set i x).getD i 0 = x by simp [List.getD_eq_getElem?_getD, hi]]
      exact this
    · rw [if_neg e] at this
      rw [show (w.set j x).getD i 0 = w.getD i 0 by simp [List.getD_eq_getElem?_getD, List.getElem?_set, Ne.symm e]]
      exact this
theorem getD_set' (w : List Int) (j i : Nat) (x : Int) : (w.set j x).getD i 0 = if i = j ∧ i < w.length then x else w.getD i 0 := by
  simp only [List.getD_eq_getElem?_getD, List.getElem?_set]
  by_cases e : j = i
  · subst e
    by_cases h : j < w.length
    · simp [h]
    · simp [h]
  · simp [e, Ne.symm e]
theorem idn_succ {k : Nat} (hk : k < 251) : (idn k).set k k = idn (k + 1) := by
  refine List.ext_getElem (by simp [idn_len]) fun i h1 h2 => ?_
  have e1 : ((idn k).set k k).getD i 0 = (idn (k + 1)).getD i 0 := by
    rw [getD_set', idn_getD, idn_getD, idn_len]
    rw [List.length_set, idn_len] at h1
    by_cases e : i = k
    · subst e; simp [hk]
    · simp only [e, false_and, if_false, h1, if_true]
      split <;> split <;> first | rfl | omega
  simp only [List.getD_eq_getElem?_getD, List.getElem?_eq_getElem h1, List.getElem?_eq_getElem h2, Option.getD_some] at e1
  exact e1

theorem setAll_len (w : List Int) (l : List (Int × Int)) : (setAll w l).length = w.length := by
  unfold setAll
  induction l generalizing w with
  | nil => rfl
  | cons p l ih => rw [List.foldl_cons, ih, List.length_set]
theorem movAll_len (w : List Int) (l : List (Int × Int)) : (movAll w l).length = w.length := by
  unfold movAll
  induction l generalizing w with
  | nil => rfl
  | cons p l ih => rw [List.foldl_cons, ih, List.length_set]
theorem setAll_take (w : List Int) (l : List (Int × Int)) {k : Nat} (hk : k < l.length) : setAll w (l.take (k + 1)) = (setAll w (l.take k)).set (l.getD k (0, 0)).1.toNat (l.getD k (0, 0)).2 := by
  unfold setAll
  rw [List.take_add_one, List.foldl_append]
  simp [hk, List.getD_eq_getElem?_getD]
theorem movAll_take (w : List Int) (l : List (Int × Int)) {k : Nat} (hk : k < l.length) : movAll w (l.take (k + 1)) = (movAll w (l.take k)).set (l.getD k (0, 0)).1.toNat ((movAll w (l.take k)).getD (l.getD k (0, 0)).2.toNat 0) := by
  unfold movAll
  rw [List.take_add_one, List.foldl_append]
  simp [hk, List.getD_eq_getElem?_getD]

theorem movAll_ex : ∀ (w : List Int) (m : List (Int × Int)), w.length = 251 → (∀ p ∈ m, (0 ≤ p.1 ∧ p.1 ≤ 250) ∧ (0 ≤ p.2 ∧ p.2 ≤ 250)) → ∀ i : Nat, i < 251 → (movAll w m).getD i 0 = ex (fun x => w.getD x.toNat 0) m i := by
  intro w m
  induction m generalizing w with
  | nil => intro _ _ i _; simp [movAll, ex]
  | cons p m ih =>
    intro hw hm i hi
    have h1 := hm p (by simp)
    show (movAll (w.set p.1.toNat (w.getD p.2.toNat 0)) m).getD i 0 = _
    rw [ih _ (by rw [List.length_set]; exact hw) (fun q hq => hm q (List.mem_cons_of_mem _ hq)) i hi, ex_cons]
    have key : ∀ (m : List (Int × Int)) (f g : Int → Int), (∀ p ∈ m, (0 ≤ p.1 ∧ p.1 ≤ 250) ∧ (0 ≤ p.2 ∧ p.2 ≤ 250)) → (∀ x, 0 ≤ x → f x = g x) → ∀ x, 0 ≤ x → ex f m x = ex g m x := by
      intro m
      induction m with
      | nil => intro f g _ h x hx; exact h x hx
      | cons q m ih2 =>
        intro f g hm h x hx
        rw [ex_cons, ex_cons]
        refine ih2 _ _ (fun r hr => hm r (List.mem_cons_of_mem _ hr)) (fun y hy => ?_) x hx
        have := hm q (by simp)
        split
        · exact h _ this.2.1
        · exact h y hy
    refine key m _ _ (fun q hq => hm q (List.mem_cons_of_mem _ hq)) (fun x hx => ?_) i (by omega)
    rw [getD_set']
    by_cases e : x = p.1
    · subst e
      rw [if_pos ⟨rfl, by omega⟩, if_pos rfl]
    · rw [if_neg (fun h => e (by omega)), if_neg e]
theorem setAll_at : ∀ (w : List Int) (l : List (Int × Int)), w.length = 251 → (l.map (·.1)).Nodup → (∀ p ∈ l, 0 ≤ p.1 ∧ p.1 ≤ 250) → ∀ i : Nat, i < 251 → (setAll w l).getD i 0 = (match l.find? (fun p => p.1 == (i : Int)) with | some p => p.2 | none => w.getD i 0) := by
  intro w l
  induction l generalizing w with
  | nil => intro _ _ _ i _; simp [setAll]
  | cons p l ih =>
    intro hw hn hm i hi
    simp only [List.map_cons, List.nodup_cons] at hn
    have h1 := hm p (by simp)
    show (setAll (w.set p.1.toNat p.2) l).getD i 0 = _
    rw [ih _ (by rw [List.length_set]; exact hw) hn.2 (fun q hq => hm q (List.mem_cons_of_mem _ hq)) i hi]
    by_cases e : p.1 = i
    · rw [List.find?_cons_of_pos (by simpa using e)]
      rw [List.find?_eq_none.2 (fun q hq => by
        intro h
        exact hn.1 (List.mem_map.2 ⟨q, hq, by rw [e]; simpa using h⟩))]
      simp only
      rw [getD_set', if_pos ⟨by omega, by omega⟩]
    · rw [List.find?_cons_of_neg (by simpa using e)]
      split
      · rfl
      · rw [getD_set', if_neg (fun h => e (by omega))]

theorem atOnceLaw (hup : CallsF Try.prog 8 [] (.bool true)) (l : List (Int × Int)) (spare : Int) (hl : l.length ≤ 1048576) : CallsF Try.prog 6 [prs l, .int .i64 spare] (.bool true) := by
  refine callsF_ofS mx Try.call6 Try.func6 rfl Try.ntmps6 Try.results6 (by kernel_rfl) (by simp) fun lo => ?_
  refine CallS.frozen (.bool true) hup (plainAll rfl) ?_
  repeat' (first | (refine And.intro ?_ ?_; focus (first | first | first | exact rfl | exact trivial | exact fun _ => rfl | exact Nat.le_of_ble_eq_true rfl | exact Option.some_ne_none _ | omega | (intro hh; cases hh; done) | assumption | (show (0 : Int) ≤ _; omega) | (rw [bPair]; omega) | (rw [bInt]; omega) | exact fun hh => hh | omega | ((refine ⟨fun hh => ?_, fun hh => ?_⟩) <;> (first | exact rfl | exact beq_iff_eq.2 hh)) | ((repeat' apply And.intro) <;> (first | first | exact rfl | exact trivial | exact fun _ => rfl | exact Nat.le_of_ble_eq_true rfl | exact Option.some_ne_none _ | omega | (intro hh; cases hh; done) | assumption | (show (0 : Int) ≤ _; omega) | (rw [bPair]; omega) | (rw [bInt]; omega))) | (intro hh; first | (cases hh; done) | ((repeat' apply And.intro) <;> (first | first | exact rfl | exact trivial | exact fun _ => rfl | exact Nat.le_of_ble_eq_true rfl | exact Option.some_ne_none _ | omega | (intro hh; cases hh; done) | assumption | (show (0 : Int) ≤ _; omega) | (rw [bPair]; omega) | (rw [bInt]; omega)))))) | (refine And.intro ?_ ?_) | (intro hq; (try simp at hq); (try (exfalso; omega)); (try (revert hq; intro))))
  · exact .refl _
  refine CallS.frozen (movesRes l spare) (movesP_spec l spare hl) (plainAll rfl) ?_
  unfold movesRes
  cases hk : mOK l spare with
  | false =>
    repeat' (first | (refine And.intro ?_ ?_; focus (first | first | first | exact rfl | exact trivial | exact fun _ => rfl | exact Nat.le_of_ble_eq_true rfl | exact Option.some_ne_none _ | omega | (intro hh; cases hh; done) | assumption | (show (0 : Int) ≤ _; omega) | (rw [bPair]; omega) | (rw [bInt]; omega) | exact fun hh => hh | omega | ((refine ⟨fun hh => ?_, fun hh => ?_⟩) <;> (first | exact rfl | exact beq_iff_eq.2 hh)) | ((repeat' apply And.intro) <;> (first | first | exact rfl | exact trivial | exact fun _ => rfl | exact Nat.le_of_ble_eq_true rfl | exact Option.some_ne_none _ | omega | (intro hh; cases hh; done) | assumption | (show (0 : Int) ≤ _; omega) | (rw [bPair]; omega) | (rw [bInt]; omega))) | (intro hh; first | (cases hh; done) | ((repeat' apply And.intro) <;> (first | first | exact rfl | exact trivial | exact fun _ => rfl | exact Nat.le_of_ble_eq_true rfl | exact Option.some_ne_none _ | omega | (intro hh; cases hh; done) | assumption | (show (0 : Int) ≤ _; omega) | (rw [bPair]; omega) | (rw [bInt]; omega)))))) | (refine And.intro ?_ ?_) | (intro hq; (try simp at hq); (try (exfalso; omega)); (try (revert hq; intro))))
    (refine NEq.of_eq ?_; show PV.bool _ = PV.bool _; congr 1)
  | true =>
    have hlen := movesR_len hk
    have hl0 := mOK_len hk
    have hlr := mOK_el hk
    have hmr := movesR_mem hk
    have hex := movesR_ex hk
    have hln := mOK_nd hk
    clear hk
    have w1 : IntKind.i64.wrap (3 * (l.length : Int)) = 3 * (l.length : Int) := wrapI (by omega)
    have w2 : IntKind.i64.wrap (2 * ((movesR l spare).length : Int)) = 2 * ((movesR l spare).length : Int) := wrapI (by omega)
    have idn0 : ∀ {f : Nat → Nat → PV}, (∀ i o, i < 251 → o < 1 → NEq (f i o) (.int .i64 0)) → NEq (.own 1 251 f) (oints (idn 0)) := fun h => NEq.owns rfl (idn_len 0).symm fun i o hi ho => by
      rw [idn_len] at hi
      rw [idn_getD]
      simpa [hi] using h i o hi ho
    repeat' (first | (refine And.intro ?_ ?_; focus (first | first | first | exact rfl | exact trivial | exact fun _ => rfl | exact Nat.le_of_ble_eq_true rfl | exact Option.some_ne_none _ | omega | (intro hh; cases hh; done) | assumption | (show (0 : Int) ≤ _; omega) | (rw [bPair]; omega) | (rw [bInt]; omega) | exact fun hh => hh | omega | ((refine ⟨fun hh => ?_, fun hh => ?_⟩) <;> (first | exact rfl | exact beq_iff_eq.2 hh)) | ((repeat' apply And.intro) <;> (first | first | exact rfl | exact trivial | exact fun _ => rfl | exact Nat.le_of_ble_eq_true rfl | exact Option.some_ne_none _ | omega | (intro hh; cases hh; done) | assumption | (show (0 : Int) ≤ _; omega) | (rw [bPair]; omega) | (rw [bInt]; omega))) | (intro hh; first | (cases hh; done) | ((repeat' apply And.intro) <;> (first | first | exact rfl | exact trivial | exact fun _ => rfl | exact Nat.le_of_ble_eq_true rfl | exact Option.some_ne_none _ | omega | (intro hh; cases hh; done) | assumption | (show (0 : Int) ≤ _; omega) | (rw [bPair]; omega) | (rw [bInt]; omega)))))) | (refine And.intro ?_ ?_) | (intro hq; (try simp at hq); (try (exfalso; omega)); (try (revert hq; intro))))
    refine Exists.intro (oints (idn 0)) (And.intro ?_ (And.intro (shape_ints (idn_len 0).symm) ?_))
    · refine idn0 fun i o hi ho => ?_
      obtain rfl : o = 0 := by omega
      exact .refl _
    repeat' (first | (refine And.intro ?_ ?_; focus (first | first | first | exact rfl | exact trivial | exact fun _ => rfl | exact Nat.le_of_ble_eq_true rfl | exact Option.some_ne_none _ | omega | (intro hh; cases hh; done) | assumption | (show (0 : Int) ≤ _; omega) | (rw [bPair]; omega) | (rw [bInt]; omega) | exact fun hh => hh | omega | ((refine ⟨fun hh => ?_, fun hh => ?_⟩) <;> (first | exact rfl | exact beq_iff_eq.2 hh)) | ((repeat' apply And.intro) <;> (first | first | exact rfl | exact trivial | exact fun _ => rfl | exact Nat.le_of_ble_eq_true rfl | exact Option.some_ne_none _ | omega | (intro hh; cases hh; done) | assumption | (show (0 : Int) ≤ _; omega) | (rw [bPair]; omega) | (rw [bInt]; omega))) | (intro hh; first | (cases hh; done) | ((repeat' apply And.intro) <;> (first | first | exact rfl | exact trivial | exact fun _ => rfl | exact Nat.le_of_ble_eq_true rfl | exact Option.some_ne_none _ | omega | (intro hh; cases hh; done) | assumption | (show (0 : Int) ≤ _; omega) | (rw [bPair]; omega) | (rw [bInt]; omega)))))) | (refine And.intro ?_ ?_) | (intro hq; (try simp at hq); (try (exfalso; omega)); (try (revert hq; intro))))
    refine Exists.intro (oints (idn 0)) (And.intro ?_ (And.intro (shape_ints (idn_len 0).symm) ?_))
    · refine idn0 fun i o hi ho => ?_
      obtain rfl : o = 0 := by omega
      exact .refl _
    refine loopS3 mx (by decide) (by kernel_rfl) (fun (k v v2 : Nat) => k ≤ 251) (fun k v v2 => [(10, .int .i64 k), (8, .ref (1, 44) v [] 1 0 251), (9, .ref (1, 45) v2 [] 1 0 251), (5, .bool true), (6, prs (movesR l spare)), (0, prs l), (1, .int .i64 spare)])
      (fun k v v2 => [((1, 44), ⟨v, oints (idn k)⟩), ((1, 45), ⟨v2, oints (idn k)⟩)]) (fun k _ _ => 251 - k) 0 _ _ (by simp) ⟨⟨.refl _, .refs rfl rfl rfl, .refs rfl rfl rfl, .refl _, .refl _, .refl _, .refl _, trivial⟩, ⟨⟨rfl, .refl _⟩, ⟨rfl, .refl _⟩, trivial⟩, .nil⟩ ?_
    intro k v v2 nv hk
    have h251 := idn_len k
    repeat' (first | (refine And.intro ?_ ?_; focus (first | first | first | exact rfl | exact trivial | exact fun _ => rfl | exact Nat.le_of_ble_eq_true rfl | exact Option.some_ne_none _ | omega | (intro hh; cases hh; done) | assumption | (show (0 : Int) ≤ _; omega) | (rw [bPair]; omega) | (rw [bInt]; omega) | exact fun hh => hh | omega | ((refine ⟨fun hh => ?_, fun hh => ?_⟩) <;> (first | exact rfl | exact beq_iff_eq.2 hh)) | ((repeat' apply And.intro) <;> (first | first | exact rfl | exact trivial | exact fun _ => rfl | exact Nat.le_of_ble_eq_true rfl | exact Option.some_ne_none _ | omega | (intro hh; cases hh; done) | assumption | (show (0 : Int) ≤ _; omega) | (rw [bPair]; omega) | (rw [bInt]; omega))) | (intro hh; first | (cases hh; done) | ((repeat' apply And.intro) <;> (first | first | exact rfl | exact trivial | exact fun _ => rfl | exact Nat.le_of_ble_eq_true rfl | exact Option.some_ne_none _ | omega | (intro hh; cases hh; done) | assumption | (show (0 : Int) ≤ _; omega) | (rw [bPair]; omega) | (rw [bInt]; omega)))))) | (refine And.intro ?_ ?_) | (intro hq; (try simp at hq); (try (exfalso; omega)); (try (revert hq; intro))))
    · rfl
    · rename_i hlt
      refine Exists.intro (oints ((idn k).set k k)) (And.intro ?_ (And.intro (shape_ints (by simp)) ?_))
      · refine set_ints fun i hi => ?_
        dsimp only
        by_cases e : i = k
        · rw [if_pos ⟨by omega, by omega, Nat.lt_add_one 0⟩, if_pos e]; exact .refl _
        · rw [if_neg (fun h => e (by omega)), if_neg e]; exact .refl _
      repeat' (first | (refine And.intro ?_ ?_; focus (first | first | first | exact rfl | exact trivial | exact fun _ => rfl | exact Nat.le_of_ble_eq_true rfl | exact Option.some_ne_none _ | omega | (intro hh; cases hh; done) | assumption | (show (0 : Int) ≤ _; omega) | (rw [bPair]; omega) | (rw [bInt]; omega) | exact fun hh => hh | omega | ((refine ⟨fun hh => ?_, fun hh => ?_⟩) <;> (first | exact rfl | exact beq_iff_eq.2 hh)) | ((repeat' apply And.intro) <;> (first | first | exact rfl | exact trivial | exact fun _ => rfl | exact Nat.le_of_ble_eq_true rfl | exact Option.some_ne_none _ | omega | (intro hh; cases hh; done) | assumption | (show (0 : Int) ≤ _; omega) | (rw [bPair]; omega) | (rw [bInt]; omega))) | (intro hh; first | (cases hh; done) | ((repeat' apply And.intro) <;> (first | first | exact rfl | exact trivial | exact fun _ => rfl | exact Nat.le_of_ble_eq_true rfl | exact Option.some_ne_none _ | omega | (intro hh; cases hh; done) | assumption | (show (0 : Int) ≤ _; omega) | (rw [bPair]; omega) | (rw [bInt]; omega)))))) | (refine And.intro ?_ ?_) | (intro hq; (try simp at hq); (try (exfalso; omega)); (try (revert hq; intro))))
      · rfl
      refine Exists.intro (oints ((idn k).set k k)) (And.intro ?_ (And.intro (shape_ints (by simp)) ?_))
      · refine set_ints fun i hi => ?_
        dsimp only
        by_cases e : i = k
        · rw [if_pos ⟨by omega, by omega, Nat.lt_add_one 0⟩, if_pos e]; exact .refl _
        · rw [if_neg (fun h => e (by omega)), if_neg e]; exact .refl _
      repeat' (first | (refine And.intro ?_ ?_; focus (first | first | first | exact rfl | exact trivial | exact fun _ => rfl | exact Nat.le_of_ble_eq_true rfl | exact Option.some_ne_none _ | omega | (intro hh; cases hh; done) | assumption | (show (0 : Int) ≤ _; omega) | (rw [bPair]; omega) | (rw [bInt]; omega) | exact fun hh => hh | omega | ((refine ⟨fun hh => ?_, fun hh => ?_⟩) <;> (first | exact rfl | exact beq_iff_eq.2 hh)) | ((repeat' apply And.intro) <;> (first | first | exact rfl | exact trivial | exact fun _ => rfl | exact Nat.le_of_ble_eq_true rfl | exact Option.some_ne_none _ | omega | (intro hh; cases hh; done) | assumption | (show (0 : Int) ≤ _; omega) | (rw [bPair]; omega) | (rw [bInt]; omega))) | (intro hh; first | (cases hh; done) | ((repeat' apply And.intro) <;> (first | first | exact rfl | exact trivial | exact fun _ => rfl | exact Nat.le_of_ble_eq_true rfl | exact Option.some_ne_none _ | omega | (intro hh; cases hh; done) | assumption | (show (0 : Int) ≤ _; omega) | (rw [bPair]; omega) | (rw [bInt]; omega)))))) | (refine And.intro ?_ ?_) | (intro hq; (try simp at hq); (try (exfalso; omega)); (try (revert hq; intro))))
      rw [idn_succ (by omega)]
      exact Exists.intro (k+1, v, v2) ⟨by omega, (by first | omega | (dsimp only; omega)), ⟨⟨(by refine NEq.int ?_; first | exact rfl | omega | (rw [wrapI (by omega)]; first | exact rfl | omega)), .refl _, .refl _, .refl _, .refl _, .refl _, .refl _, trivial⟩, ⟨⟨rfl, .refl _⟩, ⟨rfl, .refl _⟩, trivial⟩, .nil⟩⟩
    rename_i hge
    obtain rfl : k = 251 := by omega
    generalize hw0 : idn 251 = w0
    have hw0l : w0.length = 251 := by rw [← hw0]; exact h251
    repeat' (first | (refine And.intro ?_ ?_; focus (first | first | first | exact rfl | exact trivial | exact fun _ => rfl | exact Nat.le_of_ble_eq_true rfl | exact Option.some_ne_none _ | omega | (intro hh; cases hh; done) | assumption | (show (0 : Int) ≤ _; omega) | (rw [bPair]; omega) | (rw [bInt]; omega) | exact fun hh => hh | omega | ((refine ⟨fun hh => ?_, fun hh => ?_⟩) <;> (first | exact rfl | exact beq_iff_eq.2 hh)) | ((repeat' apply And.intro) <;> (first | first | exact rfl | exact trivial | exact fun _ => rfl | exact Nat.le_of_ble_eq_true rfl | exact Option.some_ne_none _ | omega | (intro hh; cases hh; done) | assumption | (show (0 : Int) ≤ _; omega) | (rw [bPair]; omega) | (rw [bInt]; omega))) | (intro hh; first | (cases hh; done) | ((repeat' apply And.intro) <;> (first | first | exact rfl | exact trivial | exact fun _ => rfl | exact Nat.le_of_ble_eq_true rfl | exact Option.some_ne_none _ | omega | (intro hh; cases hh; done) | assumption | (show (0 : Int) ≤ _; omega) | (rw [bPair]; omega) | (rw [bInt]; omega)))))) | (refine And.intro ?_ ?_) | (intro hq; (try simp at hq); (try (exfalso; omega)); (try (revert hq; intro))))
    refine loopS3 mx (by decide) (by kernel_rfl) (fun (k v v2 : Nat) => k ≤ l.length) (fun k v v2 => [(11, .int .i64 k), (8, .ref (1, 44) v [] 1 0 251), (9, .ref (1, 45) v2 [] 1 0 251), (5, .bool true), (6, prs (movesR l spare)), (0, prs l), (1, .int .i64 spare)])
      (fun k v v2 => [((1, 44), ⟨v, oints w0⟩), ((1, 45), ⟨v2, oints (setAll w0 (l.take k))⟩)]) (fun k _ _ => l.length - k) 0 _ _ (by simp) ⟨⟨.refl _, .refs rfl rfl rfl, .refs rfl rfl rfl, .refl _, .refl _, .refl _, .refl _, trivial⟩, ⟨⟨rfl, .refl _⟩, ⟨rfl, .refl _⟩, trivial⟩, .nil⟩ ?_
    intro k v v2 nv hk
    have hsl : (setAll w0 (l.take k)).length = 251 := by rw [setAll_len]; exact hw0l
    have hlk : k < l.length → (0 ≤ (l.getD (k : Int).toNat (0, 0)).1 ∧ (l.getD (k : Int).toNat (0, 0)).1 ≤ 250) ∧ (0 ≤ (l.getD (k : Int).toNat (0, 0)).2 ∧ (l.getD (k : Int).toNat (0, 0)).2 ≤ 250) := fun h => by
      have := hlr (l.getD k (0, 0)) (by simp [List.getD_eq_getElem?_getD, h])
      exact ⟨⟨this.1.1, this.1.2.1⟩, this.2.1, this.2.2.1⟩
    repeat' (first | (refine And.intro ?_ ?_; focus (first | first | first | exact rfl | exact trivial | exact fun _ => rfl | exact Nat.le_of_ble_eq_true rfl | exact Option.some_ne_none _ | omega | (intro hh; cases hh; done) | assumption | (show (0 : Int) ≤ _; omega) | (rw [bPair]; omega) | (rw [bInt]; omega) | exact fun hh => hh | omega | ((refine ⟨fun hh => ?_, fun hh => ?_⟩) <;> (first | exact rfl | exact beq_iff_eq.2 hh)) | ((repeat' apply And.intro) <;> (first | first | exact rfl | exact trivial | exact fun _ => rfl | exact Nat.le_of_ble_eq_true rfl | exact Option.some_ne_none _ | omega | (intro hh; cases hh; done) | assumption | (show (0 : Int) ≤ _; omega) | (rw [bPair]; omega) | (rw [bInt]; omega))) | (intro hh; first | (cases hh; done) | ((repeat' apply And.intro) <;> (first | first | exact rfl | exact trivial | exact fun _ => rfl | exact Nat.le_of_ble_eq_true rfl | exact Option.some_ne_none _ | omega | (intro hh; cases hh; done) | assumption | (show (0 : Int) ≤ _; omega) | (rw [bPair]; omega) | (rw [bInt]; omega)))))) | (refine And.intro ?_ ?_) | (intro hq; (try simp at hq); (try (exfalso; omega)); (try (revert hq; intro))))
    · rfl
    · rename_i hlt _ _ _ _
      refine Exists.intro (oints ((setAll w0 (l.take k)).set (l.getD k (0, 0)).1.toNat (l.getD k (0, 0)).2)) (And.intro ?_ (And.intro (shape_ints (by simp)) ?_))
      · refine set_ints fun i hi => ?_
        dsimp only
        by_cases e : i = (l.getD k (0, 0)).1.toNat
        · rw [if_pos ⟨by rw [e, Nat.zero_add]; rfl, Nat.le_refl _, Nat.lt_add_one 0⟩, if_pos e]; exact .refl _
        · rw [if_neg (fun h => e (by have := h.1; rw [Nat.zero_add] at this; exact this)), if_neg e]; exact .refl _
      repeat' (first | (refine And.intro ?_ ?_; focus (first | first | first | exact rfl | exact trivial | exact fun _ => rfl | exact Nat.le_of_ble_eq_true rfl | exact Option.some_ne_none _ | omega | (intro hh; cases hh; done) | assumption | (show (0 : Int) ≤ _; omega) | (rw [bPair]; omega) | (rw [bInt]; omega) | exact fun hh => hh | omega | ((refine ⟨fun hh => ?_, fun hh => ?_⟩) <;> (first | exact rfl | exact beq_iff_eq.2 hh)) | ((repeat' apply And.intro) <;> (first | first | exact rfl | exact trivial | exact fun _ => rfl | exact Nat.le_of_ble_eq_true rfl | exact Option.some_ne_none _ | omega | (intro hh; cases hh; done) | assumption | (show (0 : Int) ≤ _; omega) | (rw [bPair]; omega) | (rw [bInt]; omega))) | (intro hh; first | (cases hh; done) | ((repeat' apply And.intro) <;> (first | first | exact rfl | exact trivial | exact fun _ => rfl | exact Nat.le_of_ble_eq_true rfl | exact Option.some_ne_none _ | omega | (intro hh; cases hh; done) | assumption | (show (0 : Int) ≤ _; omega) | (rw [bPair]; omega) | (rw [bInt]; omega)))))) | (refine And.intro ?_ ?_) | (intro hq; (try simp at hq); (try (exfalso; omega)); (try (revert hq; intro))))
      rw [← setAll_take w0 l (by omega)]
      exact Exists.intro (k+1, v, v2) ⟨by omega, (by first | omega | (dsimp only; omega)), ⟨⟨(by refine NEq.int ?_; first | exact rfl | omega | (rw [wrapI (by omega)]; first | exact rfl | omega)), .refl _, .refl _, .refl _, .refl _, .refl _, .refl _, trivial⟩, ⟨⟨rfl, .refl _⟩, ⟨rfl, .refl _⟩, trivial⟩, .nil⟩⟩
    rename_i hge
    rw [List.take_of_length_le (by omega)]
    generalize hm : movesR l spare = m at *
    have hml : m.length ≤ 400 := by omega
    clear hsl hlk
    repeat' (first | (refine And.intro ?_ ?_; focus (first | first | first | exact rfl | exact trivial | exact fun _ => rfl | exact Nat.le_of_ble_eq_true rfl | exact Option.some_ne_none _ | omega | (intro hh; cases hh; done) | assumption | (show (0 : Int) ≤ _; omega) | (rw [bPair]; omega) | (rw [bInt]; omega) | exact fun hh => hh | omega | ((refine ⟨fun hh => ?_, fun hh => ?_⟩) <;> (first | exact rfl | exact beq_iff_eq.2 hh)) | ((repeat' apply And.intro) <;> (first | first | exact rfl | exact trivial | exact fun _ => rfl | exact Nat.le_of_ble_eq_true rfl | exact Option.some_ne_none _ | omega | (intro hh; cases hh; done) | assumption | (show (0 : Int) ≤ _; omega) | (rw [bPair]; omega) | (rw [bInt]; omega))) | (intro hh; first | (cases hh; done) | ((repeat' apply And.intro) <;> (first | first | exact rfl | exact trivial | exact fun _ => rfl | exact Nat.le_of_ble_eq_true rfl | exact Option.some_ne_none _ | omega | (intro hh; cases hh; done) | assumption | (show (0 : Int) ≤ _; omega) | (rw [bPair]; omega) | (rw [bInt]; omega)))))) | (refine And.intro ?_ ?_) | (intro hq; (try simp at hq); (try (exfalso; omega)); (try (revert hq; intro))))
    refine loopS3 mx (by decide) (by kernel_rfl) (fun (k v v2 : Nat) => k ≤ m.length) (fun k v v2 => [(12, .int .i64 k), (8, .ref (1, 44) v [] 1 0 251), (9, .ref (1, 45) v2 [] 1 0 251), (5, .bool true), (6, prs m), (0, prs l), (1, .int .i64 spare)])
      (fun k v v2 => [((1, 44), ⟨v, oints (movAll w0 (m.take k))⟩), ((1, 45), ⟨v2, oints (setAll w0 l)⟩)]) (fun k _ _ => m.length - k) 0 _ _ (by simp) ⟨⟨.refl _, .refs rfl rfl rfl, .refs rfl rfl rfl, .refl _, .refl _, .refl _, .refl _, trivial⟩, ⟨⟨rfl, .refl _⟩, ⟨rfl, .refl _⟩, trivial⟩, .nil⟩ ?_
    intro k v v2 nv hk
    have hsl : (movAll w0 (m.take k)).length = 251 := by rw [movAll_len]; exact hw0l
    have hlk : k < m.length → (0 ≤ (m.getD (k : Int).toNat (0, 0)).1 ∧ (m.getD (k : Int).toNat (0, 0)).1 ≤ 250) ∧ (0 ≤ (m.getD (k : Int).toNat (0, 0)).2 ∧ (m.getD (k : Int).toNat (0, 0)).2 ≤ 250) := fun h =>
      hmr (m.getD k (0, 0)) (by simp [List.getD_eq_getElem?_getD, h])
    have hlk2 : k < m.length → (0 ≤ (m[k]?.getD (0, 0)).1 ∧ (m[k]?.getD (0, 0)).1 ≤ 250) ∧ (0 ≤ (m[k]?.getD (0, 0)).2 ∧ (m[k]?.getD (0, 0)).2 ≤ 250) := fun h => by
      have := hlk h
      simpa [List.getD_eq_getElem?_getD] using this
    repeat' (first | (refine And.intro ?_ ?_; focus (first | first | first | exact rfl | exact trivial | exact fun _ => rfl | exact Nat.le_of_ble_eq_true rfl | exact Option.some_ne_none _ | omega | (intro hh; cases hh; done) | assumption | (show (0 : Int) ≤ _; omega) | (rw [bPair]; omega) | (rw [bInt]; omega) | exact fun hh => hh | omega | ((refine ⟨fun hh => ?_, fun hh => ?_⟩) <;> (first | exact rfl | exact beq_iff_eq.2 hh)) | ((repeat' apply And.intro) <;> (first | first | exact rfl | exact trivial | exact fun _ => rfl | exact Nat.le_of_ble_eq_true rfl | exact Option.some_ne_none _ | omega | (intro hh; cases hh; done) | assumption | (show (0 : Int) ≤ _; omega) | (rw [bPair]; omega) | (rw [bInt]; omega))) | (intro hh; first | (cases hh; done) | ((repeat' apply And.intro) <;> (first | first | exact rfl | exact trivial | exact fun _ => rfl | exact Nat.le_of_ble_eq_true rfl | exact Option.some_ne_none _ | omega | (intro hh; cases hh; done) | assumption | (show (0 : Int) ≤ _; omega) | (rw [bPair]; omega) | (rw [bInt]; omega)))))) | (refine And.intro ?_ ?_) | (intro hq; (try simp at hq); (try (exfalso; omega)); (try (revert hq; intro))))
    · simp; omega
    · simp; omega
    · rfl
    · rename_i hlt _ _ _ _ _
      refine Exists.intro (oints ((movAll w0 (m.take k)).set (m.getD k (0, 0)).1.toNat ((movAll w0 (m.take k)).getD (m.getD k (0, 0)).2.toNat 0))) (And.intro ?_ (And.intro (shape_ints (by simp)) ?_))
      · refine set_ints fun i hi => ?_
        dsimp only
        by_cases e : i = (m.getD k (0, 0)).1.toNat
        · rw [if_pos ⟨by rw [e, Nat.zero_add]; rfl, Nat.le_refl _, Nat.lt_add_one 0⟩, if_pos e]
          refine NEq.int ?_
          show (movAll w0 (m.take k)).getD (0 + (m.getD k (0, 0)).2.toNat) 0 = _
          rw [Nat.zero_add]
        · rw [if_neg (fun h => e (by have := h.1; rw [Nat.zero_add] at this; exact this)), if_neg e]; exact .refl _
      repeat' (first | (refine And.intro ?_ ?_; focus (first | first | first | exact rfl | exact trivial | exact fun _ => rfl | exact Nat.le_of_ble_eq_true rfl | exact Option.some_ne_none _ | omega | (intro hh; cases hh; done) | assumption | (show (0 : Int) ≤ _; omega) | (rw [bPair]; omega) | (rw [bInt]; omega) | exact fun hh => hh | omega | ((refine ⟨fun hh => ?_, fun hh => ?_⟩) <;> (first | exact rfl | exact beq_iff_eq.2 hh)) | ((repeat' apply And.intro) <;> (first | first | exact rfl | exact trivial | exact fun _ => rfl | exact Nat.le_of_ble_eq_true rfl | exact Option.some_ne_none _ | omega | (intro hh; cases hh; done) | assumption | (show (0 : Int) ≤ _; omega) | (rw [bPair]; omega) | (rw [bInt]; omega))) | (intro hh; first | (cases hh; done) | ((repeat' apply And.intro) <;> (first | first | exact rfl | exact trivial | exact fun _ => rfl | exact Nat.le_of_ble_eq_true rfl | exact Option.some_ne_none _ | omega | (intro hh; cases hh; done) | assumption | (show (0 : Int) ≤ _; omega) | (rw [bPair]; omega) | (rw [bInt]; omega)))))) | (refine And.intro ?_ ?_) | (intro hq; (try simp at hq); (try (exfalso; omega)); (try (revert hq; intro))))
      rw [← movAll_take w0 m (by omega)]
      exact Exists.intro (k+1, v, v2) ⟨by omega, (by first | omega | (dsimp only; omega)), ⟨⟨(by refine NEq.int ?_; first | exact rfl | omega | (rw [wrapI (by omega)]; first | exact rfl | omega)), .refl _, .refl _, .refl _, .refl _, .refl _, .refl _, trivial⟩, ⟨⟨rfl, .refl _⟩, ⟨rfl, .refl _⟩, trivial⟩, .nil⟩⟩
    rename_i hge2
    rw [List.take_of_length_le (by omega)]
    have hfin : ∀ i : Nat, i < 251 → (i : Int) ≠ spare → (movAll w0 m).getD i 0 = (setAll w0 l).getD i 0 := fun i hi hs => by
      rw [movAll_ex w0 m hw0l hmr i hi, setAll_at w0 l hw0l hln (fun p hp => ⟨(hlr p hp).1.1, (hlr p hp).1.2.1⟩) i hi, hex _ _ hs]
      unfold atOnce
      cases hp : l.find? (fun p => p.1 == (i : Int)) with
      | some p =>
        have hp1 := List.mem_of_find?_eq_some hp
        obtain ⟨_, h2⟩ := hlr p hp1
        simp only
        rw [← hw0, idn_getD, if_pos (by omega), if_pos (by omega)]
        omega
      | none => rfl
    have hA : (movAll w0 m).length = 251 := by rw [movAll_len]; exact hw0l
    have hB : (setAll w0 l).length = 251 := by rw [setAll_len]; exact hw0l
    generalize movAll w0 m = A at *
    generalize setAll w0 l = B at *
    clear hsl hlk hlk2
    repeat' (first | (refine And.intro ?_ ?_; focus (first | first | first | exact rfl | exact trivial | exact fun _ => rfl | exact Nat.le_of_ble_eq_true rfl | exact Option.some_ne_none _ | omega | (intro hh; cases hh; done) | assumption | (show (0 : Int) ≤ _; omega) | (rw [bPair]; omega) | (rw [bInt]; omega) | exact fun hh => hh | omega | ((refine ⟨fun hh => ?_, fun hh => ?_⟩) <;> (first | exact rfl | exact beq_iff_eq.2 hh)) | ((repeat' apply And.intro) <;> (first | first | exact rfl | exact trivial | exact fun _ => rfl | exact Nat.le_of_ble_eq_true rfl | exact Option.some_ne_none _ | omega | (intro hh; cases hh; done) | assumption | (show (0 : Int) ≤ _; omega) | (rw [bPair]; omega) | (rw [bInt]; omega))) | (intro hh; first | (cases hh; done) | ((repeat' apply And.intro) <;> (first | first | exact rfl | exact trivial | exact fun _ => rfl | exact Nat.le_of_ble_eq_true rfl | exact Option.some_ne_none _ | omega | (intro hh; cases hh; done) | assumption | (show (0 : Int) ≤ _; omega) | (rw [bPair]; omega) | (rw [bInt]; omega)))))) | (refine And.intro ?_ ?_) | (intro hq; (try simp at hq); (try (exfalso; omega)); (try (revert hq; intro))))
    refine loopS3 mx (by decide) (by kernel_rfl) (fun (k v v2 : Nat) => k ≤ 251) (fun k v v2 => [(13, .int .i64 k), (8, .ref (1, 44) v [] 1 0 251), (9, .ref (1, 45) v2 [] 1 0 251), (5, .bool true), (1, .int .i64 spare)])
      (fun k v v2 => [((1, 44), ⟨v, oints A⟩), ((1, 45), ⟨v2, oints B⟩)]) (fun k _ _ => 251 - k) 0 _ _ (by simp) ⟨⟨.refl _, .refs rfl rfl rfl, .refs rfl rfl rfl, .refl _, .refl _, trivial⟩, ⟨⟨rfl, .refl _⟩, ⟨rfl, .refl _⟩, trivial⟩, .nil⟩ ?_
    intro k v v2 nv hk
    have hk1 := hfin k
    repeat' (first | (refine And.intro ?_ ?_; focus (first | first | first | exact rfl | exact trivial | exact fun _ => rfl | exact Nat.le_of_ble_eq_true rfl | exact Option.some_ne_none _ | omega | (intro hh; cases hh; done) | assumption | (show (0 : Int) ≤ _; omega) | (rw [bPair]; omega) | (rw [bInt]; omega) | exact fun hh => hh | omega | ((refine ⟨fun hh => ?_, fun hh => ?_⟩) <;> (first | exact rfl | exact beq_iff_eq.2 hh)) | ((repeat' apply And.intro) <;> (first | first | exact rfl | exact trivial | exact fun _ => rfl | exact Nat.le_of_ble_eq_true rfl | exact Option.some_ne_none _ | omega | (intro hh; cases hh; done) | assumption | (show (0 : Int) ≤ _; omega) | (rw [bPair]; omega) | (rw [bInt]; omega))) | (intro hh; first | (cases hh; done) | ((repeat' apply And.intro) <;> (first | first | exact rfl | exact trivial | exact fun _ => rfl | exact Nat.le_of_ble_eq_true rfl | exact Option.some_ne_none _ | omega | (intro hh; cases hh; done) | assumption | (show (0 : Int) ≤ _; omega) | (rw [bPair]; omega) | (rw [bInt]; omega)))))) | (refine And.intro ?_ ?_) | (intro hq; (try simp at hq); (try (exfalso; omega)); (try (revert hq; intro))))
    · exfalso
      rename_i hlt hh
      have h1 := hk1 (by omega) hh.1
      simp only [List.getD_eq_getElem?_getD] at h1
      exact hh.2 h1
    · rename_i hlt hh
      exact Exists.intro (k+1, v, v2) ⟨by omega, (by first | omega | (dsimp only; omega)), ⟨⟨(by refine NEq.int ?_; first | exact rfl | omega | (rw [wrapI (by omega)]; first | exact rfl | omega)), .refl _, .refl _, .refl _, .refl _, trivial⟩, ⟨⟨rfl, .refl _⟩, ⟨rfl, .refl _⟩, trivial⟩, .nil⟩⟩
    · repeat' (first | (refine And.intro ?_ ?_; focus (first | first | first | exact rfl | exact trivial | exact fun _ => rfl | exact Nat.le_of_ble_eq_true rfl | exact Option.some_ne_none _ | omega | (intro hh; cases hh; done) | assumption | (show (0 : Int) ≤ _; omega) | (rw [bPair]; omega) | (rw [bInt]; omega) | exact fun hh => hh | omega | ((refine ⟨fun hh => ?_, fun hh => ?_⟩) <;> (first | exact rfl | exact beq_iff_eq.2 hh)) | ((repeat' apply And.intro) <;> (first | first | exact rfl | exact trivial | exact fun _ => rfl | exact Nat.le_of_ble_eq_true rfl | exact Option.some_ne_none _ | omega | (intro hh; cases hh; done) | assumption | (show (0 : Int) ≤ _; omega) | (rw [bPair]; omega) | (rw [bInt]; omega))) | (intro hh; first | (cases hh; done) | ((repeat' apply And.intro) <;> (first | first | exact rfl | exact trivial | exact fun _ => rfl | exact Nat.le_of_ble_eq_true rfl | exact Option.some_ne_none _ | omega | (intro hh; cases hh; done) | assumption | (show (0 : Int) ≤ _; omega) | (rw [bPair]; omega) | (rw [bInt]; omega)))))) | (refine And.intro ?_ ?_) | (intro hq; (try simp at hq); (try (exfalso; omega)); (try (revert hq; intro))))
      (refine NEq.of_eq ?_; show PV.bool _ = PV.bool _; congr 1)
end Go.Ab
namespace Go.Proofs.Ytbclepldghjacaa.Common
open Go Go.Ab Go.Proofs
open Go.ChangeShapes Go.WideShapes Go.ChangeAt Go.RowKit
set_option maxRecDepth 100000

theorem own : ownKnob Try.prog.godebug = none := by kernel_rfl
theorem laidOut : laidOutB Try.prog = true := by kernel_rfl
theorem rowed : mapsRowed Try.prog = true := by kernel_rfl
mutual
theorem blkEq {H : Type} : (d : DataW H) → blk d = Rows.uptoBulk d
  | .lit l => by cases l <;> simp [blk, Rows.uptoBulk]
  | .nil => by simp [blk, Rows.uptoBulk]
  | .ptr d => by simp [blk, Rows.uptoBulk, blkEq d]
  | .slice elems spare => by simp [blk, Rows.uptoBulk, blkAllEq elems, blkAllEq spare]
  | .agg parts => by simp [blk, Rows.uptoBulk, blkAllEq parts]
  | .iface _ d => by simp [blk, Rows.uptoBulk, blkEq d]
  | .map entries => by simp [blk, Rows.uptoBulk, blkEntriesEq entries]
  | .held _ => by simp [blk, Rows.uptoBulk]
theorem blkAllEq {H : Type} : (l : List (DataW H)) → blkAll l = Rows.uptoBulkAll l
  | [] => by simp [blkAll, Rows.uptoBulkAll]
  | d :: r => by simp [blkAll, Rows.uptoBulkAll, blkEq d, blkAllEq r]
theorem blkEntriesEq {H : Type} : (l : List (Lit × DataW H)) → blkEntries l = Rows.uptoBulkEntries l
  | [] => by simp [blkEntries, Rows.uptoBulkEntries]
  | x :: r => by simp [blkEntries, Rows.uptoBulkEntries, blkEntryEq x, blkEntriesEq r]
theorem blkEntryEq {H : Type} : (x : Lit × DataW H) → blkEntry x = Rows.uptoBulkEntry x
  | (l, d) => by cases l <;> simp [blkEntry, Rows.uptoBulkEntry, blkEq d]
end
/-- Each argument's bulk. -/
theorem small {H : Type} {ds : List (DataW H)} (hk : Rows.uptoSmall H (ds ++ []) = true) : ∀ d ∈ ds, blk d ≤ 1048576 := fun d hd => by
  have h : Rows.uptoBulkAll (ds ++ []) ≤ 1048576 := of_decide_eq_true hk
  rw [List.append_nil, ← blkAllEq] at h
  exact Nat.le_trans (blk_mem hd) h
theorem sizes : ∀ t e, t < Try.prog.types.size → Try.prog.underlying t = some (.slice e) → 0 < Try.prog.cellsOf e := by
  have h : (List.range Try.prog.types.size).all (fun t => match Try.prog.underlying t with
    | some (.slice e) => Nat.blt 0 (Try.prog.cellsOf e)
    | _ => true) = true := by kernel_rfl
  intro t e ht hu
  have := List.all_eq_true.1 h t (List.mem_range.2 ht)
  rw [hu] at this
  simpa [Nat.blt_eq] using this
theorem rInt : Reads Try.prog 3 Int (fun n => [.int .i64 n]) (fun n => (Lit.int .i64 n).wf = true) := Reads.int Try.underlying3
theorem rPair : Reads Try.prog 56 (Int × Int) (fun p => [.int .i64 p.1] ++ [.int .i64 p.2]) (fun p => (Lit.int .i64 p.1).wf = true ∧ (Lit.int .i64 p.2).wf = true) := Reads.array2 Try.underlying56 (by kernel_rfl) rInt
theorem cPair : Try.prog.cellsOf 56 = 2 := by kernel_rfl
theorem rPairs : Reads Try.prog 22 (List (Int × Int)) (fun l => [prs l]) (fun l => l.length ≤ 1048576) := by
  refine Reads.less (Reads.slice (0, 0) Try.underlying22 (by rw [cPair]; decide) rPair) (fun l => l) fun l hl => ⟨hl.1, .cons ?_ .nil⟩
  refine NEq.frzs cPair rfl fun i o hi ho => ?_
  obtain rfl | rfl : o = 0 ∨ o = 1 := by omega
  · exact .refl _
  · exact .refl _

end Go.Proofs.Ytbclepldghjacaa.Common

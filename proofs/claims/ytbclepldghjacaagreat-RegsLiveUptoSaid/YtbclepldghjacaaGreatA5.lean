/- Shaped code is shaped code. -/
import Derived.Test.YtbclepldghjacaaGreatA4
set_option linter.unusedVariables false
set_option linter.unusedSimpArgs false
namespace Go.Ab
open Go.Proofs
set_option maxRecDepth 100000
set_option maxHeartbeats 4000000

def goesL (x : DI) (i : Nat) : List Int :=
  if x.op = 9 then [x.n] else if x.op = 10 ∨ x.op = 11 then []
  else if x.op = 3 ∨ x.op = 6 then (if x.n = (i : Int) + 1 then [(i : Int) + 1] else if x.n < (i : Int) + 1 then [x.n, (i : Int) + 1] else [(i : Int) + 1, x.n])
  else [(i : Int) + 1]
/-- What stands behind in the same memory. -/
def padL (x : DI) (i : Nat) : List Int := if (x.op = 3 ∨ x.op = 6) ∧ x.n = (i : Int) + 1 then [0] else []
theorem keepS_pre {L : Hp} {r : RId} {v n m : Nat} {l : List Int} (h : lkH L r = some ⟨v, oints l⟩) (hn : n = m) : keepS (fun id ver => .ref id ver [] 1 0 m) (oints l) (.ref r v [] 1 0 n) L :=
  .inl ⟨r, v, _, h, setH L r none, fun j => lookH_setH L r j none, fun id ver => ⟨.refs rfl rfl hn, KpR_ints⟩⟩
theorem sortI_one (x : Int) : sortI [x] = [x] := sortI_sorted (by simp)
theorem sortI_two (x y : Int) : sortI [x, y] = if y < x then [y, x] else [x, y] := by
  by_cases h : y < x
  · rw [if_pos h, sortI_perm (List.Perm.swap y x []), sortI_sorted (by simp [h])]
  · rw [if_neg h]
    by_cases e : x = y
    · subst e
      exact (List.mergeSort_of_pairwise (by simp) : sortI [x, x] = [x, x])
    · exact sortI_sorted (by simp; omega)

theorem nexts_f (o : DO) (lv : PV) (i : Nat) (hi : i < o.irs.length) (hil : o.irs.length ≤ 6000) (hop : 1 ≤ (o.irs.getD i default).op ∧ (o.irs.getD i default).op ≤ 16) (hne : (o.irs.getD i default).op ≠ 3 ∧ (o.irs.getD i default).op ≠ 6 ∧ (o.irs.getD i default).op ≠ 9 ∧ (o.irs.getD i default).op ≠ 10 ∧ (o.irs.getD i default).op ≠ 11) : CallsO Tryz.prog 38 [codeP o lv, .int .i64 i] (oints (goesL (o.irs.getD i default) i ++ padL (o.irs.getD i default) i)) (fun id ver => .ref id ver [] 1 0 (goesL (o.irs.getD i default) i).length) := by
  obtain ⟨k3, k6, k9, k10, k11⟩ := hne
  have w1 : IntKind.i64.wrap ((i : Int) + 1) = (i : Int) + 1 := wrapI (by omega)
  have e1 : goesL (o.irs.getD i default) i = [(i : Int) + 1] := by unfold goesL; rw [if_neg k9, if_neg (by omega), if_neg (by omega)]
  have e2 : padL (o.irs.getD i default) i = [] := by unfold padL; rw [if_neg (by omega)]
  have hf : fallsB (o.irs.getD i default).op = true := by simp only [fallsB, beq_eq_false_iff_ne.2 k9, beq_eq_false_iff_ne.2 k10, beq_eq_false_iff_ne.2 k11]; rfl
  have hg : goesB (o.irs.getD i default).op = false := by simp only [goesB, beq_eq_false_iff_ne.2 k3, beq_eq_false_iff_ne.2 k6, beq_eq_false_iff_ne.2 k9]; rfl
  obtain ⟨fn, hfn⟩ := usesF_fn hop k10
  rw [e1, e2]
  refine callsO_ofS mx Tryz.call38 Tryz.func38 rfl Tryz.ntmps38 Tryz.results38 (by kernel_rfl) (by simp) fun lo => ?_
  repeat' (first | refine vcI ?_ | refine And.intro ?_ ?_ | (intro hq; (try simp at hq); (try (exfalso; omega)); (try (revert hq; intro))))
  · show 0 ≤ (o.irs.getD i default).op; omega
  · show (o.irs.getD i default).op < _; omega
  · rw [cRow]; decide
  · rw [cRow]; show 0 + 12 + (o.irs.getD i default).op.toNat * 4 + 4 ≤ 81; omega
  · rw [cRow]; decide
  · rw [cRow, row_list o lv hop (by show 0 + 12 + (o.irs.getD i default).op.toNat * 4 = _; omega)]; exact row_cells hop
  · rw [List.length_map, List.length_range, cRow]; decide
  rw [cRow, row_list o lv hop (by show 0 + 12 + (o.irs.getD i default).op.toNat * 4 = _; omega), rowF_eq, hfn, hf, hg]
  repeat' (first | refine vcI ?_ | refine And.intro ?_ ?_ | (intro hq; (try simp at hq); (try (exfalso; omega)); (try (revert hq; intro))))
  refine Exists.intro (oints [(i : Int) + 1]) (And.intro ?_ (And.intro (by first | rfl | exact shape_prs (by simp) | exact shape_ints (by simp) | exact shape_odvs (by simp)) ?_))
  · exact one_ints _ rfl rfl (by exact NEq.int w1)
  repeat' (first | refine vcI ?_ | refine And.intro ?_ ?_ | (intro hq; (try simp at hq); (try (exfalso; omega)); (try (revert hq; intro))))
  refine Exists.intro (oints [(i : Int) + 1]) (And.intro ?_ (And.intro (by first | rfl | exact shape_prs (by simp) | exact shape_ints (by simp) | exact shape_odvs (by simp)) ?_))
  · exact one_ints _ rfl rfl (.refl _)
  repeat' (first | refine vcI ?_ | refine And.intro ?_ ?_ | (intro hq; (try simp at hq); (try (exfalso; omega)); (try (revert hq; intro))))
  refine CallS.onA (L0 := [((1, 27), ⟨_, oints [(i : Int) + 1]⟩)]) (M := _) (sort_at rfl (sort_spec [(i : Int) + 1] (by simp) (1, 27) _ _ _)) (fun r => rfl) ?_
  rintro x L' nv' ⟨rfl, rfl⟩
  rw [sortI_one]
  repeat' (first | refine vcI ?_ | refine And.intro ?_ ?_ | (intro hq; (try simp at hq); (try (exfalso; omega)); (try (revert hq; intro))))
  refine CallS.onA (L0 := [((1, 27), ⟨_, oints [(i : Int) + 1]⟩)]) (M := _) (compact1_27 ((i : Int) + 1) _ _ _) (fun r => rfl) ?_
  rintro x L' nv' ⟨rfl, rfl⟩
  repeat' (first | refine vcI ?_ | refine And.intro ?_ ?_ | (intro hq; (try simp at hq); (try (exfalso; omega)); (try (revert hq; intro))))
  exact keepS_pre rfl rfl

theorem nexts_3 (o : DO) (lv : PV) (i : Nat) (hi : i < o.irs.length) (hil : o.irs.length ≤ 6000) (hop : (o.irs.getD i default).op = 3) : CallsO Tryz.prog 38 [codeP o lv, .int .i64 i] (oints (goesL (o.irs.getD i default) i ++ padL (o.irs.getD i default) i)) (fun id ver => .ref id ver [] 1 0 (goesL (o.irs.getD i default) i).length) := by
  have hop1 : (o.irs[i]?.getD default).op = 3 := hop
  have hop2 : (o.irs.getD (i : Int).toNat default).op = 3 := hop
  have w1 : IntKind.i64.wrap ((i : Int) + 1) = (i : Int) + 1 := wrapI (by omega)
  refine callsO_ofS mx Tryz.call38 Tryz.func38 rfl Tryz.ntmps38 Tryz.results38 (by kernel_rfl) (by simp) fun lo => ?_
  repeat' (first | refine vcI ?_ | refine And.intro ?_ ?_ | (intro hq; (try simp at hq); (try (exfalso; omega)); (try (revert hq; intro))))
  · rw [hop2]; decide
  · rw [cRow]; decide
  · rw [hop2]; rfl
  · rw [List.length_map, List.length_range, cRow]; decide
  rw [hop2]
  repeat' (first | refine vcI ?_ | refine And.intro ?_ ?_ | (intro hq; (try simp at hq); (try (exfalso; omega)); (try (revert hq; intro))))
  refine Exists.intro (oints [(i : Int) + 1]) (And.intro ?_ (And.intro (by first | rfl | exact shape_prs (by simp) | exact shape_ints (by simp) | exact shape_odvs (by simp)) ?_))
  · exact one_ints _ rfl rfl (by exact NEq.int w1)
  repeat' (first | refine vcI ?_ | refine And.intro ?_ ?_ | (intro hq; (try simp at hq); (try (exfalso; omega)); (try (revert hq; intro))))
  refine Exists.intro (oints [(i : Int) + 1]) (And.intro ?_ (And.intro (by first | rfl | exact shape_prs (by simp) | exact shape_ints (by simp) | exact shape_odvs (by simp)) ?_))
  · exact one_ints _ rfl rfl (.refl _)
  repeat' (first | refine vcI ?_ | refine And.intro ?_ ?_ | (intro hq; (try simp at hq); (try (exfalso; omega)); (try (revert hq; intro))))
  refine Exists.intro (oints [(o.irs.getD i default).n]) (And.intro ?_ (And.intro (by first | rfl | exact shape_prs (by simp) | exact shape_ints (by simp) | exact shape_odvs (by simp)) ?_))
  · exact one_ints _ rfl rfl (.refl _)
  repeat' (first | refine vcI ?_ | refine And.intro ?_ ?_ | (intro hq; (try simp at hq); (try (exfalso; omega)); (try (revert hq; intro))))
  refine Exists.intro (oints [(i : Int) + 1, (o.irs.getD i default).n]) (And.intro ?_ (And.intro (by first | rfl | exact shape_prs (by simp) | exact shape_ints (by simp) | exact shape_odvs (by simp)) ?_))
  · exact two_ints _ _ rfl rfl (.refl _) (.refl _)
  repeat' (first | refine vcI ?_ | refine And.intro ?_ ?_ | (intro hq; (try simp at hq); (try (exfalso; omega)); (try (revert hq; intro))))
  refine CallS.onA (L0 := [((1, 27), ⟨_, oints [(i : Int) + 1, (o.irs.getD i default).n]⟩)]) (M := _) (sort_at rfl (sort_spec [(i : Int) + 1, (o.irs.getD i default).n] (by simp) (1, 27) _ _ _)) (fun r => rfl) ?_
  rintro x L' nv' ⟨rfl, rfl⟩
  rcases (by omega : (o.irs.getD i default).n = (i : Int) + 1 ∨ (o.irs.getD i default).n < (i : Int) + 1 ∨ (i : Int) + 1 < (o.irs.getD i default).n) with hn | hn | hn
  · have e1 : goesL (o.irs.getD i default) i = [(i : Int) + 1] := by unfold goesL; rw [if_neg (by omega), if_neg (by omega), if_pos (by omega), if_pos hn]
    have e2 : padL (o.irs.getD i default) i = [0] := by unfold padL; rw [if_pos ⟨by omega, hn⟩]
    have es : sortI [(i : Int) + 1, (o.irs.getD i default).n] = [(i : Int) + 1, (i : Int) + 1] := by rw [sortI_two]; rw [hn, if_neg (by omega)]
    rw [e1, e2, es]
    repeat' (first | refine vcI ?_ | refine And.intro ?_ ?_ | (intro hq; (try simp at hq); (try (exfalso; omega)); (try (revert hq; intro))))
    refine CallS.onA (L0 := [((1, 27), ⟨_, oints [(i : Int) + 1, (i : Int) + 1]⟩)]) (M := _) (compact2_27 ((i : Int) + 1) ((i : Int) + 1) _ _ _) (fun r => rfl) ?_
    rintro x L' nv' ⟨rfl, rfl⟩
    rw [if_pos rfl, if_pos rfl]
    repeat' (first | refine vcI ?_ | refine And.intro ?_ ?_ | (intro hq; (try simp at hq); (try (exfalso; omega)); (try (revert hq; intro))))
    exact keepS_pre rfl rfl
  · have e1 : goesL (o.irs.getD i default) i = [(o.irs.getD i default).n, (i : Int) + 1] := by unfold goesL; rw [if_neg (by omega), if_neg (by omega), if_pos (by omega), if_neg (by omega), if_pos hn]
    have e2 : padL (o.irs.getD i default) i = [] := by unfold padL; rw [if_neg (fun h => by omega)]
    have es : sortI [(i : Int) + 1, (o.irs.getD i default).n] = [(o.irs.getD i default).n, (i : Int) + 1] := by rw [sortI_two]; rw [if_pos hn]
    rw [e1, e2, es]
    repeat' (first | refine vcI ?_ | refine And.intro ?_ ?_ | (intro hq; (try simp at hq); (try (exfalso; omega)); (try (revert hq; intro))))
    refine CallS.onA (L0 := [((1, 27), ⟨_, oints [(o.irs.getD i default).n, (i : Int) + 1]⟩)]) (M := _) (compact2_27 ((o.irs.getD i default).n) ((i : Int) + 1) _ _ _) (fun r => rfl) ?_
    rintro x L' nv' ⟨rfl, rfl⟩
    rw [if_neg (by omega), if_neg (by omega)]
    repeat' (first | refine vcI ?_ | refine And.intro ?_ ?_ | (intro hq; (try simp at hq); (try (exfalso; omega)); (try (revert hq; intro))))
    exact keepS_pre rfl rfl
  · have e1 : goesL (o.irs.getD i default) i = [(i : Int) + 1, (o.irs.getD i default).n] := by unfold goesL; rw [if_neg (by omega), if_neg (by omega), if_pos (by omega), if_neg (by omega), if_neg (by omega)]
    have e2 : padL (o.irs.getD i default) i = [] := by unfold padL; rw [if_neg (fun h => by omega)]
    have es : sortI [(i : Int) + 1, (o.irs.getD i default).n] = [(i : Int) + 1, (o.irs.getD i default).n] := by rw [sortI_two]; rw [if_neg (by omega)]
    rw [e1, e2, es]
    repeat' (first | refine vcI ?_ | refine And.intro ?_ ?_ | (intro hq; (try simp at hq); (try (exfalso; omega)); (try (revert hq; intro))))
    refine CallS.onA (L0 := [((1, 27), ⟨_, oints [(i : Int) + 1, (o.irs.getD i default).n]⟩)]) (M := _) (compact2_27 ((i : Int) + 1) ((o.irs.getD i default).n) _ _ _) (fun r => rfl) ?_
    rintro x L' nv' ⟨rfl, rfl⟩
    rw [if_neg (by omega), if_neg (by omega)]
    repeat' (first | refine vcI ?_ | refine And.intro ?_ ?_ | (intro hq; (try simp at hq); (try (exfalso; omega)); (try (revert hq; intro))))
    exact keepS_pre rfl rfl

theorem nexts_6 (o : DO) (lv : PV) (i : Nat) (hi : i < o.irs.length) (hil : o.irs.length ≤ 6000) (hop : (o.irs.getD i default).op = 6) : CallsO Tryz.prog 38 [codeP o lv, .int .i64 i] (oints (goesL (o.irs.getD i default) i ++ padL (o.irs.getD i default) i)) (fun id ver => .ref id ver [] 1 0 (goesL (o.irs.getD i default) i).length) := by
  have hop1 : (o.irs[i]?.getD default).op = 6 := hop
  have hop2 : (o.irs.getD (i : Int).toNat default).op = 6 := hop
  have w1 : IntKind.i64.wrap ((i : Int) + 1) = (i : Int) + 1 := wrapI (by omega)
  refine callsO_ofS mx Tryz.call38 Tryz.func38 rfl Tryz.ntmps38 Tryz.results38 (by kernel_rfl) (by simp) fun lo => ?_
  repeat' (first | refine vcI ?_ | refine And.intro ?_ ?_ | (intro hq; (try simp at hq); (try (exfalso; omega)); (try (revert hq; intro))))
  · rw [hop2]; decide
  · rw [cRow]; decide
  · rw [hop2]; rfl
  · rw [List.length_map, List.length_range, cRow]; decide
  rw [hop2]
  repeat' (first | refine vcI ?_ | refine And.intro ?_ ?_ | (intro hq; (try simp at hq); (try (exfalso; omega)); (try (revert hq; intro))))
  refine Exists.intro (oints [(i : Int) + 1]) (And.intro ?_ (And.intro (by first | rfl | exact shape_prs (by simp) | exact shape_ints (by simp) | exact shape_odvs (by simp)) ?_))
  · exact one_ints _ rfl rfl (by exact NEq.int w1)
  repeat' (first | refine vcI ?_ | refine And.intro ?_ ?_ | (intro hq; (try simp at hq); (try (exfalso; omega)); (try (revert hq; intro))))
  refine Exists.intro (oints [(i : Int) + 1]) (And.intro ?_ (And.intro (by first | rfl | exact shape_prs (by simp) | exact shape_ints (by simp) | exact shape_odvs (by simp)) ?_))
  · exact one_ints _ rfl rfl (.refl _)
  repeat' (first | refine vcI ?_ | refine And.intro ?_ ?_ | (intro hq; (try simp at hq); (try (exfalso; omega)); (try (revert hq; intro))))
  refine Exists.intro (oints [(o.irs.getD i default).n]) (And.intro ?_ (And.intro (by first | rfl | exact shape_prs (by simp) | exact shape_ints (by simp) | exact shape_odvs (by simp)) ?_))
  · exact one_ints _ rfl rfl (.refl _)
  repeat' (first | refine vcI ?_ | refine And.intro ?_ ?_ | (intro hq; (try simp at hq); (try (exfalso; omega)); (try (revert hq; intro))))
  refine Exists.intro (oints [(i : Int) + 1, (o.irs.getD i default).n]) (And.intro ?_ (And.intro (by first | rfl | exact shape_prs (by simp) | exact shape_ints (by simp) | exact shape_odvs (by simp)) ?_))
  · exact two_ints _ _ rfl rfl (.refl _) (.refl _)
  repeat' (first | refine vcI ?_ | refine And.intro ?_ ?_ | (intro hq; (try simp at hq); (try (exfalso; omega)); (try (revert hq; intro))))
  refine CallS.onA (L0 := [((1, 27), ⟨_, oints [(i : Int) + 1, (o.irs.getD i default).n]⟩)]) (M := _) (sort_at rfl (sort_spec [(i : Int) + 1, (o.irs.getD i default).n] (by simp) (1, 27) _ _ _)) (fun r => rfl) ?_
  rintro x L' nv' ⟨rfl, rfl⟩
  rcases (by omega : (o.irs.getD i default).n = (i : Int) + 1 ∨ (o.irs.getD i default).n < (i : Int) + 1 ∨ (i : Int) + 1 < (o.irs.getD i default).n) with hn | hn | hn
  · have e1 : goesL (o.irs.getD i default) i = [(i : Int) + 1] := by unfold goesL; rw [if_neg (by omega), if_neg (by omega), if_pos (by omega), if_pos hn]
    have e2 : padL (o.irs.getD i default) i = [0] := by unfold padL; rw [if_pos ⟨by omega, hn⟩]
    have es : sortI [(i : Int) + 1, (o.irs.getD i default).n] = [(i : Int) + 1, (i : Int) + 1] := by rw [sortI_two]; rw [hn, if_neg (by omega)]
    rw [e1, e2, es]
    repeat' (first | refine vcI ?_ | refine And.intro ?_ ?_ | (intro hq; (try simp at hq); (try (exfalso; omega)); (try (revert hq; intro))))
    refine CallS.onA (L0 := [((1, 27), ⟨_, oints [(i : Int) + 1, (i : Int) + 1]⟩)]) (M := _) (compact2_27 ((i : Int) + 1) ((i : Int) + 1) _ _ _) (fun r => rfl) ?_
    rintro x L' nv' ⟨rfl, rfl⟩
    rw [if_pos rfl, if_pos rfl]
    repeat' (first | refine vcI ?_ | refine And.intro ?_ ?_ | (intro hq; (try simp at hq); (try (exfalso; omega)); (try (revert hq; intro))))
    exact keepS_pre rfl rfl
  · have e1 : goesL (o.irs.getD i default) i = [(o.irs.getD i default).n, (i : Int) + 1] := by unfold goesL; rw [if_neg (by omega), if_neg (by omega), if_pos (by omega), if_neg (by omega), if_pos hn]
    have e2 : padL (o.irs.getD i default) i = [] := by unfold padL; rw [if_neg (fun h => by omega)]
    have es : sortI [(i : Int) + 1, (o.irs.getD i default).n] = [(o.irs.getD i default).n, (i : Int) + 1] := by rw [sortI_two]; rw [if_pos hn]
    rw [e1, e2, es]
    repeat' (first | refine vcI ?_ | refine And.intro ?_ ?_ | (intro hq; (try simp at hq); (try (exfalso; omega)); (try (revert hq; intro))))
    refine CallS.onA (L0 := [((1, 27), ⟨_, oints [(o.irs.getD i default).n, (i : Int) + 1]⟩)]) (M := _) (compact2_27 ((o.irs.getD i default).n) ((i : Int) + 1) _ _ _) (fun r => rfl) ?_
    rintro x L' nv' ⟨rfl, rfl⟩
    rw [if_neg (by omega), if_neg (by omega)]
    repeat' (first | refine vcI ?_ | refine And.intro ?_ ?_ | (intro hq; (try simp at hq); (try (exfalso; omega)); (try (revert hq; intro))))
    exact keepS_pre rfl rfl
  · have e1 : goesL (o.irs.getD i default) i = [(i : Int) + 1, (o.irs.getD i default).n] := by unfold goesL; rw [if_neg (by omega), if_neg (by omega), if_pos (by omega), if_neg (by omega), if_neg (by omega)]
    have e2 : padL (o.irs.getD i default) i = [] := by unfold padL; rw [if_neg (fun h => by omega)]
    have es : sortI [(i : Int) + 1, (o.irs.getD i default).n] = [(i : Int) + 1, (o.irs.getD i default).n] := by rw [sortI_two]; rw [if_neg (by omega)]
    rw [e1, e2, es]
    repeat' (first | refine vcI ?_ | refine And.intro ?_ ?_ | (intro hq; (try simp at hq); (try (exfalso; omega)); (try (revert hq; intro))))
    refine CallS.onA (L0 := [((1, 27), ⟨_, oints [(i : Int) + 1, (o.irs.getD i default).n]⟩)]) (M := _) (compact2_27 ((i : Int) + 1) ((o.irs.getD i default).n) _ _ _) (fun r => rfl) ?_
    rintro x L' nv' ⟨rfl, rfl⟩
    rw [if_neg (by omega), if_neg (by omega)]
    repeat' (first | refine vcI ?_ | refine And.intro ?_ ?_ | (intro hq; (try simp at hq); (try (exfalso; omega)); (try (revert hq; intro))))
    exact keepS_pre rfl rfl

theorem nexts_9 (o : DO) (lv : PV) (i : Nat) (hi : i < o.irs.length) (hil : o.irs.length ≤ 6000) (hop : (o.irs.getD i default).op = 9) : CallsO Tryz.prog 38 [codeP o lv, .int .i64 i] (oints (goesL (o.irs.getD i default) i ++ padL (o.irs.getD i default) i)) (fun id ver => .ref id ver [] 1 0 (goesL (o.irs.getD i default) i).length) := by
  have hop1 : (o.irs[i]?.getD default).op = 9 := hop
  have hop2 : (o.irs.getD (i : Int).toNat default).op = 9 := hop
  have w1 : IntKind.i64.wrap ((i : Int) + 1) = (i : Int) + 1 := wrapI (by omega)
  have e1 : goesL (o.irs.getD i default) i = [(o.irs.getD i default).n] := by simp only [goesL, hop]; simp
  have e2 : padL (o.irs.getD i default) i = [] := by simp only [padL, hop]; simp
  rw [e1, e2]
  refine callsO_ofS mx Tryz.call38 Tryz.func38 rfl Tryz.ntmps38 Tryz.results38 (by kernel_rfl) (by simp) fun lo => ?_
  repeat' (first | refine vcI ?_ | refine And.intro ?_ ?_ | (intro hq; (try simp at hq); (try (exfalso; omega)); (try (revert hq; intro))))
  · rw [hop2]; decide
  · rw [cRow]; decide
  · rw [hop2]; rfl
  · rw [List.length_map, List.length_range, cRow]; decide
  rw [hop2]
  repeat' (first | refine vcI ?_ | refine And.intro ?_ ?_ | (intro hq; (try simp at hq); (try (exfalso; omega)); (try (revert hq; intro))))
  refine Exists.intro (oints [(o.irs.getD i default).n]) (And.intro ?_ (And.intro (by first | rfl | exact shape_prs (by simp) | exact shape_ints (by simp) | exact shape_odvs (by simp)) ?_))
  · exact one_ints _ rfl rfl (.refl _)
  repeat' (first | refine vcI ?_ | refine And.intro ?_ ?_ | (intro hq; (try simp at hq); (try (exfalso; omega)); (try (revert hq; intro))))
  refine Exists.intro (oints [(o.irs.getD i default).n]) (And.intro ?_ (And.intro (by first | rfl | exact shape_prs (by simp) | exact shape_ints (by simp) | exact shape_odvs (by simp)) ?_))
  · exact one_ints _ rfl rfl (.refl _)
  repeat' (first | refine vcI ?_ | refine And.intro ?_ ?_ | (intro hq; (try simp at hq); (try (exfalso; omega)); (try (revert hq; intro))))
  refine CallS.onA (L0 := [((1, 41), ⟨_, oints [(o.irs.getD i default).n]⟩)]) (M := _) (sort_at rfl (sort_spec [(o.irs.getD i default).n] (by simp) (1, 41) _ _ _)) (fun r => rfl) ?_
  rintro x L' nv' ⟨rfl, rfl⟩
  rw [sortI_one]
  repeat' (first | refine vcI ?_ | refine And.intro ?_ ?_ | (intro hq; (try simp at hq); (try (exfalso; omega)); (try (revert hq; intro))))
  refine CallS.onA (L0 := [((1, 41), ⟨_, oints [(o.irs.getD i default).n]⟩)]) (M := _) (compact1_41 (o.irs.getD i default).n _ _ _) (fun r => rfl) ?_
  rintro x L' nv' ⟨rfl, rfl⟩
  repeat' (first | refine vcI ?_ | refine And.intro ?_ ?_ | (intro hq; (try simp at hq); (try (exfalso; omega)); (try (revert hq; intro))))
  exact keepS_pre rfl rfl

theorem nexts_10 (o : DO) (lv : PV) (i : Nat) (hi : i < o.irs.length) (hil : o.irs.length ≤ 6000) (hop : (o.irs.getD i default).op = 10) : CallsO Tryz.prog 38 [codeP o lv, .int .i64 i] (oints (goesL (o.irs.getD i default) i ++ padL (o.irs.getD i default) i)) (fun id ver => .ref id ver [] 1 0 (goesL (o.irs.getD i default) i).length) := by
  have hop1 : (o.irs[i]?.getD default).op = 10 := hop
  have hop2 : (o.irs.getD (i : Int).toNat default).op = 10 := hop
  have w1 : IntKind.i64.wrap ((i : Int) + 1) = (i : Int) + 1 := wrapI (by omega)
  have e1 : goesL (o.irs.getD i default) i = [] := by simp only [goesL, hop]; simp
  have e2 : padL (o.irs.getD i default) i = [] := by simp only [padL, hop]; simp
  rw [e1, e2]
  refine callsO_ofS mx Tryz.call38 Tryz.func38 rfl Tryz.ntmps38 Tryz.results38 (by kernel_rfl) (by simp) fun lo => ?_
  repeat' (first | refine vcI ?_ | refine And.intro ?_ ?_ | (intro hq; (try simp at hq); (try (exfalso; omega)); (try (revert hq; intro))))
  · rw [hop2]; decide
  · rw [cRow]; decide
  · rw [hop2]; rfl
  · rw [List.length_map, List.length_range, cRow]; decide
  rw [hop2]
  repeat' (first | refine vcI ?_ | refine And.intro ?_ ?_ | (intro hq; (try simp at hq); (try (exfalso; omega)); (try (revert hq; intro))))
  refine CallS.frozen (.tup []) sortNil_spec (plainAll rfl) ?_
  repeat' (first | refine vcI ?_ | refine And.intro ?_ ?_ | (intro hq; (try simp at hq); (try (exfalso; omega)); (try (revert hq; intro))))
  refine CallS.frozen .nils compactNil_spec (plainAll rfl) ?_
  repeat' (first | refine vcI ?_ | refine And.intro ?_ ?_ | (intro hq; (try simp at hq); (try (exfalso; omega)); (try (revert hq; intro))))
  exact keepS_nil

theorem nexts_11 (o : DO) (lv : PV) (i : Nat) (hi : i < o.irs.length) (hil : o.irs.length ≤ 6000) (hop : (o.irs.getD i default).op = 11) : CallsO Tryz.prog 38 [codeP o lv, .int .i64 i] (oints (goesL (o.irs.getD i default) i ++ padL (o.irs.getD i default) i)) (fun id ver => .ref id ver [] 1 0 (goesL (o.irs.getD i default) i).length) := by
  have hop1 : (o.irs[i]?.getD default).op = 11 := hop
  have hop2 : (o.irs.getD (i : Int).toNat default).op = 11 := hop
  have w1 : IntKind.i64.wrap ((i : Int) + 1) = (i : Int) + 1 := wrapI (by omega)
  have e1 : goesL (o.irs.getD i default) i = [] := by simp only [goesL, hop]; simp
  have e2 : padL (o.irs.getD i default) i = [] := by simp only [padL, hop]; simp
  rw [e1, e2]
  refine callsO_ofS mx Tryz.call38 Tryz.func38 rfl Tryz.ntmps38 Tryz.results38 (by kernel_rfl) (by simp) fun lo => ?_
  repeat' (first | refine vcI ?_ | refine And.intro ?_ ?_ | (intro hq; (try simp at hq); (try (exfalso; omega)); (try (revert hq; intro))))
  · rw [hop2]; decide
  · rw [cRow]; decide
  · rw [hop2]; rfl
  · rw [List.length_map, List.length_range, cRow]; decide
  rw [hop2]
  repeat' (first | refine vcI ?_ | refine And.intro ?_ ?_ | (intro hq; (try simp at hq); (try (exfalso; omega)); (try (revert hq; intro))))
  refine CallS.frozen (.tup []) sortNil_spec (plainAll rfl) ?_
  repeat' (first | refine vcI ?_ | refine And.intro ?_ ?_ | (intro hq; (try simp at hq); (try (exfalso; omega)); (try (revert hq; intro))))
  refine CallS.frozen .nils compactNil_spec (plainAll rfl) ?_
  repeat' (first | refine vcI ?_ | refine And.intro ?_ ?_ | (intro hq; (try simp at hq); (try (exfalso; omega)); (try (revert hq; intro))))
  exact keepS_nil

theorem nexts_spec (o : DO) (lv : PV) (i : Nat) (hi : i < o.irs.length) (hil : o.irs.length ≤ 6000) (hop : 1 ≤ (o.irs.getD i default).op ∧ (o.irs.getD i default).op ≤ 16) : CallsO Tryz.prog 38 [codeP o lv, .int .i64 i] (oints (goesL (o.irs.getD i default) i ++ padL (o.irs.getD i default) i)) (fun id ver => .ref id ver [] 1 0 (goesL (o.irs.getD i default) i).length) := by
  by_cases h3 : (o.irs.getD i default).op = 3
  · exact nexts_3 o lv i hi hil h3
  by_cases h6 : (o.irs.getD i default).op = 6
  · exact nexts_6 o lv i hi hil h6
  by_cases h9 : (o.irs.getD i default).op = 9
  · exact nexts_9 o lv i hi hil h9
  by_cases h10 : (o.irs.getD i default).op = 10
  · exact nexts_10 o lv i hi hil h10
  by_cases h11 : (o.irs.getD i default).op = 11
  · exact nexts_11 o lv i hi hil h11
  exact nexts_f o lv i hi hil hop ⟨h3, h6, h9, h10, h11⟩
end Go.Ab
namespace Go.Ab
open Go.Proofs
set_option maxRecDepth 100000
set_option maxHeartbeats 1000000

def two2 (a b : List Int) : PV := .frz 1 2 fun i _ => match i with | 0 => ints a | _ => ints b
theorem Grow_spec (n : Nat) (h0 : 0 < n) (hn : n ≤ 1048576) : CallsO Tryz.prog 137 [.nils, .int .i64 n] (oints (List.replicate n 0)) (fun id ver => .ref id ver [] 1 0 0) := by
  have w0 : IntKind.i64.wrap (0 - 0) = 0 := rfl
  have w1 : IntKind.i64.wrap ((n : Int) - IntKind.i64.wrap (0 - 0)) = n := by rw [w0]; exact wrapI (by omega)
  have w2 : IntKind.i64.wrap ((n : Int) - IntKind.i64.wrap 0) = n := w1
  have hlen : (List.replicate n (0 : Int)).length = n := List.length_replicate ..
  refine callsO_ofS mx Tryz.call137 Tryz.func137 rfl Tryz.ntmps137 Tryz.results137 (by kernel_rfl) (by simp) fun lo => ?_
  repeat' (first | refine vcI ?_ | refine And.intro ?_ ?_ | (intro hq; (try simp at hq); (try (exfalso; omega)); (try (revert hq; intro))))
  rw [w1]
  refine Exists.intro (oints (List.replicate n 0)) (And.intro ?_ (And.intro (shape_ints (by rw [hlen]; rfl)) ?_))
  · refine NEq.owns rfl (by rw [hlen]; rfl) fun i o hi ho => ?_
    obtain rfl : o = 0 := by omega
    rw [hlen] at hi
    have : (List.replicate n (0 : Int)).getD i 0 = 0 := by simp [hi]
    rw [this]
    exact .refl _
  repeat' (first | refine vcI ?_ | refine And.intro ?_ ?_ | (intro hq; (try simp at hq); (try (exfalso; omega)); (try (revert hq; intro))))
  exact keepS_pre rfl rfl
theorem Grow0_spec : CallsF Tryz.prog 137 [.nils, .int .i64 0] .nils := by
  refine callsF_ofS mx Tryz.call137 Tryz.func137 rfl Tryz.ntmps137 Tryz.results137 (by kernel_rfl) (by simp) fun lo => ?_
  repeat' (first | refine vcI ?_ | refine And.intro ?_ ?_ | (intro hq; (try simp at hq); (try (exfalso; omega)); (try (revert hq; intro))))
  exact .refl _
/-- Concat of two lists, of which one has elements. -/
theorem Concat_spec (a b : List Int) (ha : a.length ≤ 40000) (hb : b.length ≤ 40000) (h0 : 0 < a.length + b.length) : CallsO Tryz.prog 125 [two2 a b] (oints (a ++ b)) (fun id ver => .ref id ver [] 1 0 (a ++ b).length) := by
  refine callsO_ofS mx Tryz.call125 Tryz.func125 rfl Tryz.ntmps125 Tryz.results125 (by kernel_rfl) (by simp) fun lo => ?_
  repeat' (first | refine vcI ?_ | refine And.intro ?_ ?_ | (intro hq; (try simp at hq); (try (exfalso; omega)); (try (revert hq; intro))))
  have wa : IntKind.i64.wrap (a.length : Int) = a.length := wrapI (by omega)
  have wb : IntKind.i64.wrap ((a.length : Int) + b.length) = (a.length : Int) + b.length := wrapI (by omega)
  refine loopS2 mx (by decide) (by kernel_rfl) (fun (k z : Nat) => k ≤ 2 ∧ z = (if k = 0 then 0 else if k = 1 then a.length else a.length + b.length)) (fun k z => [(11, .int .i64 k), (10, .int .i64 2), (9, two2 a b), (3, .int .i64 z), (0, two2 a b)]) (fun _ _ => []) (fun k _ => 2 - k) 0 0 ⟨by simp, rfl⟩ ⟨by ((repeat' apply And.intro) <;> (first | exact True.intro | exact NEq.refl _ | (refine NEq.int ?_; first | exact rfl | omega | (rw [wrapI (by omega)]; first | exact rfl | omega)))), trivial, .nil⟩ ?_
  rintro k z nv ⟨hk, hz⟩
  rcases (by omega : k = 0 ∨ k = 1 ∨ k = 2) with rfl | rfl | rfl
  · obtain rfl : z = 0 := hz
    repeat' (first | refine vcI ?_ | refine And.intro ?_ ?_ | (intro hq; (try simp at hq); (try (exfalso; omega)); (try (revert hq; intro))))
    exact Exists.intro (1, a.length) ⟨⟨by omega, rfl⟩, (by first | omega | (dsimp only; omega)), ⟨by ((repeat' apply And.intro) <;> (first | exact True.intro | exact NEq.refl _ | (refine NEq.int ?_; first | exact rfl | omega | (rw [wrapI (by omega)]; first | exact rfl | omega)))), trivial, .nil⟩⟩
  · obtain rfl : z = a.length := hz
    repeat' (first | refine vcI ?_ | refine And.intro ?_ ?_ | (intro hq; (try simp at hq); (try (exfalso; omega)); (try (revert hq; intro))))
    exact Exists.intro (2, a.length + b.length) ⟨⟨by omega, rfl⟩, (by first | omega | (dsimp only; omega)), ⟨by ((repeat' apply And.intro) <;> (first | exact True.intro | exact NEq.refl _ | (refine NEq.int ?_; first | exact rfl | omega | (rw [wrapI (by omega)]; first | exact rfl | omega)))), trivial, .nil⟩⟩
  · obtain rfl : z = a.length + b.length := hz
    repeat' (first | refine vcI ?_ | refine And.intro ?_ ?_ | (intro hq; (try simp at hq); (try (exfalso; omega)); (try (revert hq; intro))))
    refine CallS.own (oints (List.replicate (a.length + b.length) 0)) (fun id ver => .ref id ver [] 1 0 0) (Grow_spec (a.length + b.length) h0 (by omega)) (plainAll rfl) ?_
    repeat' (first | refine vcI ?_ | refine And.intro ?_ ?_ | (intro hq; (try simp at hq); (try (exfalso; omega)); (try (revert hq; intro))))
    refine loopS3 mx (by decide) (by kernel_rfl) (fun (k z v : Nat) => k ≤ 2 ∧ z = (if k = 0 then 0 else if k = 1 then a.length else a.length + b.length)) (fun k z v => [(27, .int .i64 k), (26, .int .i64 2), (25, two2 a b), (6, .ref (1, 24) v [] 1 0 z)]) (fun k z v => [((1, 24), ⟨v, oints ((a ++ b).take z ++ List.replicate (a.length + b.length - z) 0)⟩)]) (fun k z v => 2 - k) 0 0 _ ⟨by simp, rfl⟩ ⟨by ((repeat' apply And.intro) <;> (first | exact True.intro | exact NEq.refl _ | (refine NEq.int ?_; first | exact rfl | omega | (rw [wrapI (by omega)]; first | exact rfl | omega)))), ⟨⟨rfl, ?_⟩, trivial⟩, .nil⟩ ?_
    · exact .refl _
    rintro k z v nv ⟨hk, hz⟩
    rcases (by omega : k = 0 ∨ k = 1 ∨ k = 2) with rfl | rfl | rfl
    · obtain rfl : z = 0 := hz
      repeat' (first | refine vcI ?_ | refine And.intro ?_ ?_ | (intro hq; (try simp at hq); (try (exfalso; omega)); (try (revert hq; intro))))
      · rfl
      · rename_i h
        subst h
        exact Exists.intro (1, 0, v) ⟨⟨by omega, rfl⟩, (by first | omega | (dsimp only; omega)), ⟨⟨(by refine NEq.int ?_; first | exact rfl | omega | (rw [wrapI (by omega)]; first | exact rfl | omega)), .refl _, .refl _, .refl _, trivial⟩, ⟨⟨rfl, .refl _⟩, trivial⟩, .nil⟩⟩
      · simp
      · rfl
      refine Exists.intro (oints ((a ++ b).take a.length ++ List.replicate (a.length + b.length - a.length) 0)) (And.intro ?_ (And.intro (shape_ints (by simp)) ?_))
      · refine NEq.owns rfl (by simp) fun i o hi ho => ?_
        obtain rfl : o = 0 := by omega
        simp only [List.take_zero, List.nil_append, List.take_left] at hi ⊢
        rw [getD_app]
        by_cases c : i < a.length
        · rw [if_pos c, if_pos ⟨Nat.zero_le _, by omega⟩]; exact .refl _
        · rw [if_neg c, if_neg (by omega)]
          have hi' : i < a.length + b.length := by simpa using hi
          have e1 : (List.replicate (a.length + b.length - 0) (0 : Int)).getD i 0 = 0 := by simp [hi']
          have e2 : (List.replicate (a.length + b.length - a.length) (0 : Int)).getD (i - a.length) 0 = 0 := by
            rw [List.getD_eq_getElem?_getD, List.getElem?_replicate]
            split <;> rfl
          rw [e1, e2]; exact .refl _
      repeat' (first | refine vcI ?_ | refine And.intro ?_ ?_ | (intro hq; (try simp at hq); (try (exfalso; omega)); (try (revert hq; intro))))
      exact Exists.intro (1, a.length, v) ⟨⟨by omega, rfl⟩, (by first | omega | (dsimp only; omega)), ⟨⟨(by refine NEq.int ?_; first | exact rfl | omega | (rw [wrapI (by omega)]; first | exact rfl | omega)), .refl _, .refl _, .refs rfl rfl (by simp), trivial⟩, ⟨⟨rfl, .refl _⟩, trivial⟩, .nil⟩⟩
    · obtain rfl : z = a.length := hz
      by_cases hb0 : b = []
      · subst hb0
        repeat' (first | refine vcI ?_ | refine And.intro ?_ ?_ | (intro hq; (try simp at hq); (try (exfalso; omega)); (try (revert hq; intro))))
        · simp
        · rw [bInt]; simp; omega
        · simp; omega
        refine Exists.intro (oints ((a ++ []).take (a.length + ([] : List Int).length) ++ List.replicate (a.length + ([] : List Int).length - (a.length + ([] : List Int).length)) 0)) (And.intro ?_ (And.intro (shape_ints (by simp)) ?_))
        · refine NEq.owns rfl (by simp) fun i o hi ho => ?_
          obtain rfl : o = 0 := by omega
          have hi' : i < a.length := by simpa using hi
          dsimp only
          rw [if_pos (by simpa using hi')]
          refine NEq.int ?_
          simp
        repeat' (first | refine vcI ?_ | refine And.intro ?_ ?_ | (intro hq; (try simp at hq); (try (exfalso; omega)); (try (revert hq; intro))))
        exact Exists.intro (2, a.length + ([] : List Int).length, _) ⟨⟨by omega, rfl⟩, (by first | omega | (dsimp only; omega)), ⟨⟨(by refine NEq.int ?_; first | exact rfl | omega | (rw [wrapI (by omega)]; first | exact rfl | omega)), .refl _, .refl _, .refs rfl rfl (by simp), trivial⟩, ⟨⟨rfl, .refl _⟩, trivial⟩, .nil⟩⟩
      · repeat' (first | refine vcI ?_ | refine And.intro ?_ ?_ | (intro hq; (try simp at hq); (try (exfalso; omega)); (try (revert hq; intro))))
        all_goals first | (exfalso; exact hb0 (by assumption)) | skip
        · rfl
        · simp
        · rfl
        refine Exists.intro (oints ((a ++ b).take (a.length + b.length) ++ List.replicate (a.length + b.length - (a.length + b.length)) 0)) (And.intro ?_ (And.intro (shape_ints (by simp)) ?_))
        · refine NEq.owns rfl (by simp) fun i o hi ho => ?_
          obtain rfl : o = 0 := by omega
          have hi' : i < a.length + b.length := by simpa using hi
          have et : (a ++ b).take (a.length + b.length) = a ++ b := List.take_of_length_le (by simp)
          rw [Nat.sub_self, List.replicate_zero, List.append_nil, et, getD_app, List.take_left]
          dsimp only
          rw [getD_app]
          by_cases c : i < a.length
          · rw [if_neg (by omega), if_pos c, if_pos c]; exact .refl _
          · rw [if_pos ⟨by omega, by omega⟩, if_neg c]; exact .refl _
        repeat' (first | refine vcI ?_ | refine And.intro ?_ ?_ | (intro hq; (try simp at hq); (try (exfalso; omega)); (try (revert hq; intro))))
        exact Exists.intro (2, a.length + b.length, v) ⟨⟨by omega, rfl⟩, (by first | omega | (dsimp only; omega)), ⟨⟨(by refine NEq.int ?_; first | exact rfl | omega | (rw [wrapI (by omega)]; first | exact rfl | omega)), .refl _, .refl _, .refs rfl rfl rfl, trivial⟩, ⟨⟨rfl, .refl _⟩, trivial⟩, .nil⟩⟩
    · obtain rfl : z = a.length + b.length := hz
      have et : (a ++ b).take (a.length + b.length) = a ++ b := List.take_of_length_le (by simp)
      rw [Nat.sub_self, List.replicate_zero, List.append_nil, et]
      repeat' (first | refine vcI ?_ | refine And.intro ?_ ?_ | (intro hq; (try simp at hq); (try (exfalso; omega)); (try (revert hq; intro))))
      exact keepS_pre rfl (by simp)
theorem Concat0_spec : CallsO Tryz.prog 125 [two2 [] []] (oints []) (fun id ver => .ref id ver [] 1 0 0) := by
  refine callsO_ofS mx Tryz.call125 Tryz.func125 rfl Tryz.ntmps125 Tryz.results125 (by kernel_rfl) (by simp) fun lo => ?_
  repeat' (first | refine vcI ?_ | refine And.intro ?_ ?_ | (intro hq; (try simp at hq); (try (exfalso; omega)); (try (revert hq; intro))))
  refine loopS mx (by decide) (by kernel_rfl) (fun (k : Nat) => k ≤ 2) (fun k => [(11, .int .i64 k), (10, .int .i64 2), (9, two2 [] []), (3, .int .i64 0), (0, two2 [] [])]) (fun _ => []) (fun k => 2 - k) 0 (by simp) ⟨by ((repeat' apply And.intro) <;> (first | exact True.intro | exact NEq.refl _ | (refine NEq.int ?_; first | exact rfl | omega | (rw [wrapI (by omega)]; first | exact rfl | omega)))), trivial, .nil⟩ ?_
  intro k nv hk
  rcases (by omega : k = 0 ∨ k = 1 ∨ k = 2) with rfl | rfl | rfl
  · repeat' (first | refine vcI ?_ | refine And.intro ?_ ?_ | (intro hq; (try simp at hq); (try (exfalso; omega)); (try (revert hq; intro))))
    exact Exists.intro 1 ⟨by omega, (by first | omega | (dsimp only; omega)), ⟨by ((repeat' apply And.intro) <;> (first | exact True.intro | exact NEq.refl _ | (refine NEq.int ?_; first | exact rfl | omega | (rw [wrapI (by omega)]; first | exact rfl | omega)))), trivial, .nil⟩⟩
  · repeat' (first | refine vcI ?_ | refine And.intro ?_ ?_ | (intro hq; (try simp at hq); (try (exfalso; omega)); (try (revert hq; intro))))
    exact Exists.intro 2 ⟨by omega, (by first | omega | (dsimp only; omega)), ⟨by ((repeat' apply And.intro) <;> (first | exact True.intro | exact NEq.refl _ | (refine NEq.int ?_; first | exact rfl | omega | (rw [wrapI (by omega)]; first | exact rfl | omega)))), trivial, .nil⟩⟩
  · repeat' (first | refine vcI ?_ | refine And.intro ?_ ?_ | (intro hq; (try simp at hq); (try (exfalso; omega)); (try (revert hq; intro))))
    refine CallS.frozen .nils Grow0_spec (plainAll rfl) ?_
    repeat' (first | refine vcI ?_ | refine And.intro ?_ ?_ | (intro hq; (try simp at hq); (try (exfalso; omega)); (try (revert hq; intro))))
    refine ghostS0 6 (1, 33) (by decide) 1 (fun _ _ => .undef) rfl rfl fun v => ?_
    refine loopS2 mx (by decide) (by kernel_rfl) (fun (k v : Nat) => k ≤ 2) (fun k v => [(27, .int .i64 k), (26, .int .i64 2), (25, two2 [] []), (6, .ref (1, 33) v [] 1 0 0)]) (fun k v => [((1, 33), ⟨v, oints []⟩)]) (fun k v => 2 - k) 0 v (by simp) ⟨by ((repeat' apply And.intro) <;> (first | exact True.intro | exact NEq.refl _ | (refine NEq.int ?_; first | exact rfl | omega | (rw [wrapI (by omega)]; first | exact rfl | omega)))), ⟨⟨rfl, .owns rfl rfl fun i o hi => absurd hi (by simp)⟩, trivial⟩, .nil⟩ ?_
    intro k v nv hk
    rcases (by omega : k = 0 ∨ k = 1 ∨ k = 2) with rfl | rfl | rfl
    · repeat' (first | refine vcI ?_ | refine And.intro ?_ ?_ | (intro hq; (try simp at hq); (try (exfalso; omega)); (try (revert hq; intro))))
      refine Exists.intro (oints []) (And.intro ?_ (And.intro rfl ?_))
      · exact NEq.owns rfl rfl fun i o hi => absurd hi (by simp)
      repeat' (first | refine vcI ?_ | refine And.intro ?_ ?_ | (intro hq; (try simp at hq); (try (exfalso; omega)); (try (revert hq; intro))))
      exact Exists.intro (1, _) ⟨by omega, (by first | omega | (dsimp only; omega)), ⟨⟨(by refine NEq.int ?_; first | exact rfl | omega | (rw [wrapI (by omega)]; first | exact rfl | omega)), .refl _, .refl _, .refs rfl rfl rfl, trivial⟩, ⟨⟨rfl, .refl _⟩, trivial⟩, .nil⟩⟩
    · repeat' (first | refine vcI ?_ | refine And.intro ?_ ?_ | (intro hq; (try simp at hq); (try (exfalso; omega)); (try (revert hq; intro))))
      refine Exists.intro (oints []) (And.intro ?_ (And.intro rfl ?_))
      · exact NEq.owns rfl rfl fun i o hi => absurd hi (by simp)
      repeat' (first | refine vcI ?_ | refine And.intro ?_ ?_ | (intro hq; (try simp at hq); (try (exfalso; omega)); (try (revert hq; intro))))
      exact Exists.intro (2, _) ⟨by omega, (by first | omega | (dsimp only; omega)), ⟨⟨(by refine NEq.int ?_; first | exact rfl | omega | (rw [wrapI (by omega)]; first | exact rfl | omega)), .refl _, .refl _, .refs rfl rfl rfl, trivial⟩, ⟨⟨rfl, .refl _⟩, trivial⟩, .nil⟩⟩
    · repeat' (first | refine vcI ?_ | refine And.intro ?_ ?_ | (intro hq; (try simp at hq); (try (exfalso; omega)); (try (revert hq; intro))))
      exact keepS_pre rfl rfl
theorem ConcatAll_spec (a b : List Int) (ha : a.length ≤ 40000) (hb : b.length ≤ 40000) : CallsO Tryz.prog 125 [two2 a b] (oints (a ++ b)) (fun id ver => .ref id ver [] 1 0 (a ++ b).length) := by
  by_cases h : 0 < a.length + b.length
  · exact Concat_spec a b ha hb h
  · have h1 : a = [] := List.eq_nil_of_length_eq_zero (by omega)
    have h2 : b = [] := List.eq_nil_of_length_eq_zero (by omega)
    subst h1 h2
    exact Concat0_spec
end Go.Ab
namespace Go.Ab
open Go.Proofs
set_option maxRecDepth 100000
set_option maxHeartbeats 1000000

theorem setPut5_spec (ws : Nat → Nat) (hw : ∀ o, ws o < 18446744073709551616) (r : Nat) (hr : r < 256) (v nv : Nat) (S : Hp) (hS : Above 2 S) :
    CallsA Tryz.prog 42 [.ptr (1, 5) v [] 0 0, .int .i64 r] ([((1, 5), ⟨v, .obox 4 (setC ws)⟩)] ++ S) nv
      fun x hp' nv' => ∃ L', hp' = L' ++ S ∧ (x = .tup [] ∧ L' = [((1, 5), ⟨v, .obox 4 (setC (setW ws r))⟩)]) := by
  have e1 := wrap64_div (r := r) (by omega)
  have e2 := tmod64 r
  refine callsA_ofS (lv := 2) (by decide) mx Tryz.call42 Tryz.func42 rfl Tryz.ntmps42 Tryz.results42 (by kernel_rfl) (by simp) fun lo => ?_
  repeat' (first | refine vcI ?_ | refine And.intro ?_ ?_ | (intro hq; (try simp at hq); (try (exfalso; omega)); (try (revert hq; intro))))
  · rw [cW, e1]; simp; omega
  · rw [cW]; decide
  · show 0 + (IntKind.i64.wrap ((r : Int).tdiv 64)).toNat * Tryz.prog.cellsOf 66 + 1 ≤ 4
    rw [cW, e1]; simp; omega
  refine Exists.intro (PV.tup []) (Exists.intro _ (And.intro ⟨rfl, rfl⟩ (And.intro (.refl _) (And.intro ⟨⟨rfl, .obox fun o ho => ?_⟩, trivial⟩ (.names rfl)))))
  show NEq (if 0 + (IntKind.i64.wrap ((r : Int).tdiv 64)).toNat * Tryz.prog.cellsOf 66 ≤ o ∧ o < 0 + (IntKind.i64.wrap ((r : Int).tdiv 64)).toNat * Tryz.prog.cellsOf 66 + 1 then List.getD [PV.int .u64 (IntKind.u64.wrap ((BitVec.ofInt IntKind.u64.bits (ws (0 + (IntKind.i64.wrap ((r : Int).tdiv 64)).toNat * Tryz.prog.cellsOf 66) : Int) ||| BitVec.ofInt IntKind.u64.bits (IntKind.u64.wrap (1 * 2 ^ min ((r : Int).tmod 64).toNat IntKind.u64.bits))).toNat : Int))] (o - (0 + (IntKind.i64.wrap ((r : Int).tdiv 64)).toNat * Tryz.prog.cellsOf 66)) .undef else .int .u64 (ws o)) (.int .u64 (setW ws r o))
  rw [cW, e1, e2]
  simp only [Int.toNat_natCast, Nat.zero_add, Nat.mul_one]
  rw [or_at (hw _) (Nat.mod_lt _ (by decide))]
  by_cases c : o = r / 64
  · subst c
    rw [if_pos (by omega), Nat.sub_self]
    simp only [setW, if_true]
    exact .refl _
  · rw [if_neg (by omega)]
    simp only [setW, if_neg c]
    exact .refl _
end Go.Ab
namespace Go.Ab
open Go.Proofs
set_option maxRecDepth 100000
set_option maxHeartbeats 4000000

theorem CallS.ownInts {P : Program} {S : Hp} {id : RId} {ver : Nat} {f : FuncId} {args : List PV} {L : Hp} {nv : Nat} {K : PV → Hp → Nat → Prop} (args' : List PV) (l : List Int) (h : CallsO P f args' (oints l) (fun id ver => .ref id ver [] 1 0 l.length)) (ha : LeL (args.map (view 9 (L ++ S))) args')
    (k : delS L id fun L => fz (.ref id ver [] 1 0 l.length) fun x => K x ((id, ⟨ver, oints l⟩) :: L) nv) : CallS P S id ver f args L nv K :=
  .ownPlain args' 1 l.length (fun i _ => .int .i64 (l.getD i 0)) (fun id ver => .ref id ver [] 1 0 l.length) h ha trivial (fun i o hi => trivial) k
theorem QS.ownInts {P : Program} {S : Hp} {id : RId} {ver : Nat} {f : FuncId} {args : List PV} {L : Hp} {K : PV → Hp → Prop} (args' : List PV) (l : List Int) (h : CallsO P f args' (oints l) (fun id ver => .ref id ver [] 1 0 l.length)) (ha : LeL (args.map (view 9 (L ++ S))) args')
    (k : delS L id fun L => fz (.ref id ver [] 1 0 l.length) fun x => K x ((id, ⟨ver, oints l⟩) :: L)) : QS P S id ver [] f args L K :=
  .ownPlain args' 1 l.length (fun i _ => .int .i64 (l.getD i 0)) (fun id ver => .ref id ver [] 1 0 l.length) rfl h ha trivial (fun i o hi => trivial) k
theorem put_at {P : Program} {f : FuncId} {p : PV} {x : Int} {n : Nat} {L : Hp} {nv : Nat} {R : PV → Hp → Nat → Prop} (e : x = (n : Int)) (h : CallsA P f [p, .int .i64 (n : Int)] L nv R) : CallsA P f [p, .int .i64 x] L nv R := e ▸ h
def setOf (l : List Int) : Nat → Nat := l.foldl (fun ws r => setW ws r.toNat) fun _ => 0
theorem setW_lt {ws : Nat → Nat} (h : ∀ o, ws o < 18446744073709551616) (r : Nat) : ∀ o, setW ws r o < 18446744073709551616 := fun o => by
  unfold setW
  split
  · have hj2 : 2 ^ (r % 64) < 18446744073709551616 := Nat.pow_lt_pow_right (a := 2) (by decide) (show r % 64 < 64 from Nat.mod_lt _ (by decide))
    exact Nat.or_lt_two_pow (n := 64) (h o) hj2
  · exact h o
theorem setOf_lt (l : List Int) : ∀ o, setOf l o < 18446744073709551616 := by
  have key : ∀ (l : List Int) (ws : Nat → Nat), (∀ o, ws o < 18446744073709551616) → ∀ o, l.foldl (fun ws r => setW ws r.toNat) ws o < 18446744073709551616 := by
    intro l
    induction l with
    | nil => intro ws h; exact h
    | cons r l ih => intro ws h; exact ih _ (setW_lt h _)
  exact key l _ fun o => by decide
theorem setOf_take {l : List Int} {k : Nat} (hk : k < l.length) : setOf (l.take (k + 1)) = setW (setOf (l.take k)) (l.getD k 0).toNat := by
  unfold setOf
  rw [take_succD 0 hk, List.foldl_append]; rfl
theorem own_spec (o : DO) (lv : PV) (i : Nat) (hi : i < o.irs.length) (hd : i < o.descs.length) (hf : fewN o ≤ 6000) (hr : o.regs ≤ 250) (hs : ∀ l ∈ o.descs, l.length ≤ 1048576 ∧ ∀ f ∈ l, f.small) (hsh : shapedX o (o.irs.getD i default) (o.descs.getD i []) = true) :
    CallsF Tryz.prog 115 [codeP o lv, .int .i64 i] (aggW (setOf (usedL (o.irs.getD i default) (o.descs.getD i []) ++ usesL (o.descs.getD i [])))) := by
  have hil : o.irs.length ≤ 6000 := by unfold fewN at hf; omega
  have hdl : o.descs.length ≤ 6000 := by unfold fewN at hf; omega
  have ha : (o.irs.getD i default).args.length ≤ 6000 := by
    have := sumL_mem (f := fun x : DI => x.args.length) (getD_mem default hi)
    rw [List.getD_eq_getElem?_getD]
    unfold fewN at hf; omega
  have hfN : frN (o.descs.getD i []) ≤ 6000 := by
    have := sumL_mem (f := frN) (getD_mem [] hd)
    rw [List.getD_eq_getElem?_getD]
    unfold fewN at hf; omega
  simp only [shapedX, Bool.and_eq_true, decide_eq_true_eq, Bool.not_eq_true'] at hsh
  obtain ⟨s1, s2, s3, s4, s5, s6, s7⟩ := hsh
  have hv : ∀ r ∈ usedL (o.irs.getD i default) (o.descs.getD i []) ++ usesL (o.descs.getD i []), 0 ≤ r ∧ r < 250 := fun r hm => by
    have hb : ∀ {l}, badL o l = false → r ∈ l → 0 ≤ r ∧ r < 250 := fun h1 h2 => by
      have h3 := List.any_eq_false.1 h1 r h2
      simp only [regB, Bool.not_eq_true', Bool.not_eq_false, Bool.and_eq_true, decide_eq_true_eq] at h3
      omega
    rcases List.mem_append.1 hm with h | h
    · exact hb s5 h
    · exact hb s7 h
  have hm : (o.irs.getD i default).op = 13 → 0 ≤ (o.irs.getD i default).m ∧ (o.irs.getD i default).m < ((o.descs.getD i []).length : Int) := fun h => by
    have h1 : (!insB (o.descs.getD i []).length (o.irs.getD i default).m || ((o.descs.getD i []).getD (o.irs.getD i default).m.toNat default).act == 0) = false := by
      have h2 := s4
      unfold swB at h2
      rw [h] at h2
      exact h2
    have h3 := (Bool.or_eq_false_iff.1 h1).1
    simpa [insB] using h3
  have hfs := hs _ (getD_mem [] hd)
  obtain ⟨u, hu⟩ : ∃ u, u = usedL (o.irs.getD i default) (o.descs.getD i []) := ⟨_, rfl⟩
  rw [← hu] at hv ⊢
  have hlu : u.length ≤ 6002 := by rw [hu]; exact usedL_len _ _ ha
  have hls : (usesL (o.descs.getD i [])).length ≤ 30000 := by
    rw [← symUses_eq, sortI_len]; exact symKs_len _ hfN
  obtain ⟨l, hl⟩ : ∃ l, l = u ++ usesL (o.descs.getD i []) := ⟨_, rfl⟩
  have hll : l.length ≤ 40000 := by rw [hl, List.length_append]; omega
  rw [← hl] at hv ⊢
  refine callsF_ofS mx Tryz.call115 Tryz.func115 rfl Tryz.ntmps115 Tryz.results115 (by kernel_rfl) (by simp) fun lo => ?_
  repeat' (first | refine vcI ?_ | refine And.intro ?_ ?_ | (intro hq; (try simp at hq); (try (exfalso; omega)); (try (revert hq; intro))))
  · show 0 ≤ (o.irs.getD i default).op; omega
  · show (o.irs.getD i default).op < _; omega
  · rw [cRow]; decide
  · rw [cRow]; show 0 + 12 + (o.irs.getD i default).op.toNat * 4 + 0 ≤ 81; omega
  · show 0 + 12 + (o.irs.getD i default).op.toNat * Tryz.prog.cellsOf 71 + 0 + Tryz.prog.cellsOf 69 ≤ 81
    rw [cRow, show Tryz.prog.cellsOf 69 = 1 by kernel_rfl]; omega
  · rw [show Tryz.prog.cellsOf 69 = 1 by kernel_rfl]; decide
  rw [mk_usesF o lv (op := (o.irs.getD i default).op) ⟨s1, s2⟩ (by rw [cRow]; show 0 + 12 + (o.irs.getD i default).op.toNat * 4 + 0 = _; omega)]
  by_cases h10 : (o.irs.getD i default).op = 10
  · have hcu := uses_ret o lv i hi (by omega) h10
    rw [← hu] at hcu
    rw [show usesF (o.irs.getD i default).op = uRet by rw [h10]; rfl]
    repeat' (first | refine vcI ?_ | refine And.intro ?_ ?_ | (intro hq; (try simp at hq); (try (exfalso; omega)); (try (revert hq; intro))))
    refine QS.frozen (ints u) hcu (plainAll rfl) ?_
    repeat' (first | refine vcI ?_ | refine And.intro ?_ ?_ | (intro hq; (try simp at hq); (try (exfalso; omega)); (try (revert hq; intro))))
    refine QS.frozen (ints (usesL (o.descs.getD i []))) (symUses _ hfs hfN) (plainAll rfl) ?_
    repeat' (first | refine vcI ?_ | refine And.intro ?_ ?_ | (intro hq; (try simp at hq); (try (exfalso; omega)); (try (revert hq; intro))))
    refine QS.ownInts [two2 u (usesL (o.descs.getD i []))] l (by rw [hl]; exact ConcatAll_spec u (usesL (o.descs.getD i [])) (by omega) (by omega)) ?_ ?_
    · refine LeL.cons ?_ LeL.nil
      refine NEq.frzs rfl rfl fun j q hj hq => ?_
      obtain rfl : q = 0 := by omega
      obtain rfl | rfl : j = 0 ∨ j = 1 := by omega
      · exact .refl _
      · exact .refl _
    repeat' (first | refine vcI ?_ | refine And.intro ?_ ?_ | (intro hq; (try simp at hq); (try (exfalso; omega)); (try (revert hq; intro))))
    refine loopS2 mx (by decide) (by kernel_rfl) (fun (k v : Nat) => k ≤ l.length) (fun k v => [(40, .int .i64 k), (39, .int .i64 l.length), (38, .ref (1, 38) v [] 1 0 l.length), (5, .ptr (1, 5) 1 [] 0 0), (4, .ptr (1, 4) 0 [] 0 0)]) (fun k v => [((1, 38), ⟨v, oints l⟩), ((1, 5), ⟨1, .obox 4 (setC (setOf (l.take k)))⟩), ((1, 4), ⟨0, .obox 4 fun _ => .undef⟩)]) (fun k v => l.length - k) 0 _ (by simp) ⟨by ((repeat' apply And.intro) <;> (first | exact True.intro | exact NEq.refl _ | (refine NEq.int ?_; first | exact rfl | omega | (rw [wrapI (by omega)]; first | exact rfl | omega)))), ?_, .nil⟩ ?_
    · refine ⟨⟨rfl, .refl _⟩, ⟨rfl, .obox fun q hq => ?_⟩, ⟨rfl, .obox fun q hq => ?_⟩, trivial⟩
      · rcases (by have : q < 4 := hq; omega : q = 0 ∨ q = 1 ∨ q = 2 ∨ q = 3) with rfl | rfl | rfl | rfl <;> exact .refl _
      · refine .undef ?_
        rcases (by have : q < 4 := hq; omega : q = 0 ∨ q = 1 ∨ q = 2 ∨ q = 3) with rfl | rfl | rfl | rfl <;> rfl
    intro k v nv hk
    repeat' (first | refine vcI ?_ | refine And.intro ?_ ?_ | (intro hq; (try simp at hq); (try (exfalso; omega)); (try (revert hq; intro))))
    · rename_i hlt
      obtain ⟨r0, r1⟩ := hv _ (getD_mem 0 hlt)
      have est := setOf_take hlt
      refine CallS.onA (L0 := [((1, 5), ⟨1, .obox 4 (setC (setOf (l.take k)))⟩)]) (M := [((1, 38), ⟨v, oints l⟩), ((1, 4), ⟨0, .obox 4 fun _ => .undef⟩)]) (put_at (show (l.getD (0 + (k : Int).toNat) 0) = (((l[k]?.getD 0).toNat : Nat) : Int) by rw [Nat.zero_add]; show l[k]?.getD 0 = _; omega) (setPut5_spec (setOf (l.take k)) (setOf_lt _) ((l[k]?.getD 0).toNat) (by omega) 1 _ _ (Above.chk rfl Above.nil))) (fun r => by simp only [lkH, List.cons_append, List.nil_append]; split <;> split <;> simp_all) ?_
      rintro x L' nv' ⟨rfl, rfl⟩
      repeat' (first | refine vcI ?_ | refine And.intro ?_ ?_ | (intro hq; (try simp at hq); (try (exfalso; omega)); (try (revert hq; intro))))
      refine Exists.intro (k + 1, v) ⟨by omega, (by first | omega | (dsimp only; omega)), ⟨⟨(by refine NEq.int ?_; first | exact rfl | omega | (rw [wrapI (by omega)]; first | exact rfl | omega)), .refl _, .refl _, .refl _, .refl _, trivial⟩, ⟨⟨rfl, .refl _⟩, ⟨rfl, ?_⟩, ⟨rfl, .refl _⟩, trivial⟩, .nil⟩⟩
      show NEq _ (.obox 4 (setC (setOf (l.take (k + 1)))))
      rw [est]
      exact .refl _
    · rename_i hlt
      obtain rfl : k = l.length := by omega
      rw [List.take_length]
      refine NEq.aggL ?_
      ((repeat' apply And.intro) <;> (first | exact True.intro | exact NEq.refl _))
  · obtain ⟨fn, hu1, hu2⟩ := uses_of o lv i hi (by omega) hd (by omega) hfs.1 (by omega) ⟨s1, s2⟩ h10
    rw [← hu] at hu2
    have hcu := hu2 hm
    rw [hu1]
    repeat' (first | refine vcI ?_ | refine And.intro ?_ ?_ | (intro hq; (try simp at hq); (try (exfalso; omega)); (try (revert hq; intro))))
    refine QS.frozen (ints u) hcu (plainAll rfl) ?_
    repeat' (first | refine vcI ?_ | refine And.intro ?_ ?_ | (intro hq; (try simp at hq); (try (exfalso; omega)); (try (revert hq; intro))))
    refine QS.frozen (ints (usesL (o.descs.getD i []))) (symUses _ hfs hfN) (plainAll rfl) ?_
    repeat' (first | refine vcI ?_ | refine And.intro ?_ ?_ | (intro hq; (try simp at hq); (try (exfalso; omega)); (try (revert hq; intro))))
    refine QS.ownInts [two2 u (usesL (o.descs.getD i []))] l (by rw [hl]; exact ConcatAll_spec u (usesL (o.descs.getD i [])) (by omega) (by omega)) ?_ ?_
    · refine LeL.cons ?_ LeL.nil
      refine NEq.frzs rfl rfl fun j q hj hq => ?_
      obtain rfl : q = 0 := by omega
      obtain rfl | rfl : j = 0 ∨ j = 1 := by omega
      · exact .refl _
      · exact .refl _
    repeat' (first | refine vcI ?_ | refine And.intro ?_ ?_ | (intro hq; (try simp at hq); (try (exfalso; omega)); (try (revert hq; intro))))
    refine loopS2 mx (by decide) (by kernel_rfl) (fun (k v : Nat) => k ≤ l.length) (fun k v => [(40, .int .i64 k), (39, .int .i64 l.length), (38, .ref (1, 38) v [] 1 0 l.length), (5, .ptr (1, 5) 1 [] 0 0), (4, .ptr (1, 4) 0 [] 0 0)]) (fun k v => [((1, 38), ⟨v, oints l⟩), ((1, 5), ⟨1, .obox 4 (setC (setOf (l.take k)))⟩), ((1, 4), ⟨0, .obox 4 fun _ => .undef⟩)]) (fun k v => l.length - k) 0 _ (by simp) ⟨by ((repeat' apply And.intro) <;> (first | exact True.intro | exact NEq.refl _ | (refine NEq.int ?_; first | exact rfl | omega | (rw [wrapI (by omega)]; first | exact rfl | omega)))), ?_, .nil⟩ ?_
    · refine ⟨⟨rfl, .refl _⟩, ⟨rfl, .obox fun q hq => ?_⟩, ⟨rfl, .obox fun q hq => ?_⟩, trivial⟩
      · rcases (by have : q < 4 := hq; omega : q = 0 ∨ q = 1 ∨ q = 2 ∨ q = 3) with rfl | rfl | rfl | rfl <;> exact .refl _
      · refine .undef ?_
        rcases (by have : q < 4 := hq; omega : q = 0 ∨ q = 1 ∨ q = 2 ∨ q = 3) with rfl | rfl | rfl | rfl <;> rfl
    intro k v nv hk
    repeat' (first | refine vcI ?_ | refine And.intro ?_ ?_ | (intro hq; (try simp at hq); (try (exfalso; omega)); (try (revert hq; intro))))
    · rename_i hlt
      obtain ⟨r0, r1⟩ := hv _ (getD_mem 0 hlt)
      have est := setOf_take hlt
      refine CallS.onA (L0 := [((1, 5), ⟨1, .obox 4 (setC (setOf (l.take k)))⟩)]) (M := [((1, 38), ⟨v, oints l⟩), ((1, 4), ⟨0, .obox 4 fun _ => .undef⟩)]) (put_at (show (l.getD (0 + (k : Int).toNat) 0) = (((l[k]?.getD 0).toNat : Nat) : Int) by rw [Nat.zero_add]; show l[k]?.getD 0 = _; omega) (setPut5_spec (setOf (l.take k)) (setOf_lt _) ((l[k]?.getD 0).toNat) (by omega) 1 _ _ (Above.chk rfl Above.nil))) (fun r => by simp only [lkH, List.cons_append, List.nil_append]; split <;> split <;> simp_all) ?_
      rintro x L' nv' ⟨rfl, rfl⟩
      repeat' (first | refine vcI ?_ | refine And.intro ?_ ?_ | (intro hq; (try simp at hq); (try (exfalso; omega)); (try (revert hq; intro))))
      refine Exists.intro (k + 1, v) ⟨by omega, (by first | omega | (dsimp only; omega)), ⟨⟨(by refine NEq.int ?_; first | exact rfl | omega | (rw [wrapI (by omega)]; first | exact rfl | omega)), .refl _, .refl _, .refl _, .refl _, trivial⟩, ⟨⟨rfl, .refl _⟩, ⟨rfl, ?_⟩, ⟨rfl, .refl _⟩, trivial⟩, .nil⟩⟩
      show NEq _ (.obox 4 (setC (setOf (l.take (k + 1)))))
      rw [est]
      exact .refl _
    · rename_i hlt
      obtain rfl : k = l.length := by omega
      rw [List.take_length]
      refine NEq.aggL ?_
      ((repeat' apply And.intro) <;> (first | exact True.intro | exact NEq.refl _))
end Go.Ab
namespace Go.Ab
open Go.Proofs
set_option maxRecDepth 100000
set_option maxHeartbeats 1000000

theorem bit_setW (ws : Nat → Nat) (r q : Nat) : bitW (setW ws r) q = (bitW ws q || decide (q = r)) := by
  unfold bitW setW
  by_cases h : q / 64 = r / 64
  · rw [if_pos h, Nat.testBit_or, Nat.testBit_two_pow]
    congr 1
    rw [Bool.eq_iff_iff]
    simp only [decide_eq_true_eq]
    omega
  · rw [if_neg h, decide_eq_false (fun e => h (by rw [e])), Bool.or_false]
theorem bit_joinW (ws us : Nat → Nat) {q : Nat} (hq : q < 256) : bitW (joinW ws us 4) q = (bitW ws q || bitW us q) := by
  unfold bitW joinW
  rw [if_pos (by omega), Nat.testBit_or]
theorem bit_setOf {l : List Int} (hl : ∀ r ∈ l, 0 ≤ r) (q : Nat) : bitW (setOf l) q = decide ((q : Int) ∈ l) := by
  have key : ∀ (l : List Int) (ws : Nat → Nat), (∀ r ∈ l, 0 ≤ r) → bitW (l.foldl (fun ws r => setW ws r.toNat) ws) q = (bitW ws q || decide ((q : Int) ∈ l)) := by
    intro l
    induction l with
    | nil => intro ws _; simp
    | cons r l ih =>
      intro ws h
      rw [List.foldl_cons, ih _ fun x hx => h x (List.mem_cons_of_mem _ hx), bit_setW, Bool.or_assoc]
      congr 1
      have hr := h r (by simp)
      rw [Bool.eq_iff_iff]
      simp only [Bool.or_eq_true, decide_eq_true_eq, List.mem_cons]
      constructor
      · rintro (h1 | h1)
        · exact .inl (by omega)
        · exact .inr h1
      · rintro (h1 | h1)
        · exact .inl (by omega)
        · exact .inr h1
  unfold setOf
  rw [key l _ hl]
  simp [bitW]
/-- A register taken out. -/
def clrW (ws : Nat → Nat) (r : Nat) : Nat → Nat := fun o => if o = r / 64 then ws o &&& (18446744073709551615 ^^^ 2 ^ (r % 64)) else ws o

/-- Which registers are live ahead of an instruction. -/
inductive LiveP (o : DO) : Nat → Nat → Prop
  | use {i r : Nat} (hi : i < o.irs.length) (h : (r : Int) ∈ usedL (o.irs.getD i default) (o.descs.getD i []) ++ usesL (o.descs.getD i [])) : LiveP o i r
  | step {i k r : Nat} (hi : i < o.irs.length) (hk : (k : Int) ∈ goesL (o.irs.getD i default) i) (h : LiveP o k r) (hd : ¬ (setsB (o.irs.getD i default).op = true ∧ (o.irs.getD i default).d = (r : Int))) : LiveP o i r

open Classical in
/-- A word, by its bits. -/
noncomputable def wd (p : Nat → Prop) (o : Nat) : Nat → Nat
  | 0 => 0
  | j + 1 => wd p o j ||| (if p (64 * o + j) then 2 ^ j else 0)
theorem wd_lt (p : Nat → Prop) (o : Nat) : ∀ n, wd p o n < 2 ^ n
  | 0 => by simp [wd]
  | n + 1 => by
    unfold wd
    have h := wd_lt p o n
    have h1 : wd p o n < 2 ^ (n + 1) := Nat.lt_of_lt_of_le h (Nat.pow_le_pow_right (by decide) (by omega))
    refine Nat.or_lt_two_pow h1 ?_
    split
    · exact Nat.pow_lt_pow_right (by decide) (by omega)
    · exact Nat.two_pow_pos _
theorem wd_bit (p : Nat → Prop) (o : Nat) : ∀ (n j : Nat), (wd p o n).testBit j = true ↔ j < n ∧ p (64 * o + j)
  | 0, j => by simp [wd]
  | n + 1, j => by
    unfold wd
    rw [Nat.testBit_or, Bool.or_eq_true, wd_bit p o n j]
    split
    · rename_i h
      rw [Nat.testBit_two_pow, decide_eq_true_eq]
      constructor
      · rintro (⟨h1, h2⟩ | rfl)
        · exact ⟨by omega, h2⟩
        · exact ⟨by omega, h⟩
      · rintro ⟨h1, h2⟩
        by_cases e : n = j
        · exact .inr e
        · exact .inl ⟨by omega, h2⟩
    · rename_i h
      constructor
      · rintro (⟨h1, h2⟩ | h1)
        · exact ⟨by omega, h2⟩
        · simp at h1
      · rintro ⟨h1, h2⟩
        by_cases e : n = j
        · subst e; exact absurd h2 h
        · exact .inl ⟨by omega, h2⟩
/-- The words of a set. -/
noncomputable def wordsP (p : Nat → Prop) : Nat → Nat := fun o => wd p o 64
theorem wordsP_lt (p : Nat → Prop) (o : Nat) : wordsP p o < 18446744073709551616 := wd_lt p o 64
theorem bit_wordsP (p : Nat → Prop) (q : Nat) : bitW (wordsP p) q = true ↔ p q := by
  unfold bitW wordsP
  rw [wd_bit]
  have e : 64 * (q / 64) + q % 64 = q := Nat.div_add_mod q 64
  rw [e]
  exact ⟨fun h => h.2, fun h => ⟨Nat.mod_lt _ (by decide), h⟩⟩
theorem words_ext {ws us : Nat → Nat} (hw : ∀ o, ws o < 18446744073709551616) (hu : ∀ o, us o < 18446744073709551616) (h : ∀ q, q < 256 → bitW ws q = bitW us q) {o : Nat} (ho : o < 4) : ws o = us o := by
  apply Nat.eq_of_testBit_eq
  intro j
  by_cases hj : j < 64
  · have := h (64 * o + j) (by omega)
    unfold bitW at this
    rw [show (64 * o + j) / 64 = o by omega, show (64 * o + j) % 64 = j by omega] at this
    exact this
  · rw [Nat.testBit_lt_two_pow (Nat.lt_of_lt_of_le (hw o) (Nat.pow_le_pow_right (n := 2) (by decide) (show 64 ≤ j by omega))), Nat.testBit_lt_two_pow (Nat.lt_of_lt_of_le (hu o) (Nat.pow_le_pow_right (n := 2) (by decide) (show 64 ≤ j by omega)))]
end Go.Ab
namespace Go.Ab
open Go.Proofs
set_option maxRecDepth 100000
set_option maxHeartbeats 1000000

def frW (n : Nat) (W : Nat → Nat → Nat) : PV := .frz 4 n fun i o => .int .u64 (W i o)
def owW (n : Nat) (W : Nat → Nat → Nat) : PV := .own 4 n fun i o => .int .u64 (W i o)
theorem view_row (k : Nat) (hp : Hp) (i : Nat) : ∀ x ∈ rowAt i, view (k + 2) hp x = x := by
  have key : ∀ (u : PV) (s f g : Bool), view (k + 2) hp u = u → ∀ x ∈ rowC u s f g, view (k + 2) hp x = x := by
    intro u s f g hu x hx
    simp only [rowC, List.mem_cons, List.not_mem_nil, or_false] at hx
    rcases hx with rfl | rfl | rfl | rfl
    · exact hu
    · rfl
    · rfl
    · rfl
  unfold rowAt
  split <;> exact key _ _ _ _ rfl
theorem view_rows (k : Nat) (hp : Hp) : ∀ x ∈ rowsL, view (k + 2) hp x = x := fun x hx => by
  obtain ⟨i, _, h⟩ := List.mem_flatMap.1 hx
  exact view_row k hp i x h
theorem view_dol (k : Nat) (hp : Hp) (o : DO) : ∀ x ∈ dol o, view (k + 2) hp x = x := fun x hx => by
  simp only [dol, List.mem_cons, List.not_mem_nil, or_false] at hx
  rcases hx with rfl | rfl | rfl | rfl | rfl | rfl | rfl | rfl | rfl | rfl | rfl | rfl <;> rfl
theorem rowsL_len : rowsL.length = 68 := by decide
theorem view_code {L : Hp} {o : DO} {n vc vl : Nat} {W : Nat → Nat → Nat} (rc rl : RId) (h1 : lkH L rc = some ⟨vc, .obox 81 (codeC o (.ref rl vl [] 4 0 n))⟩) (h2 : lkH L rl = some ⟨vl, owW n W⟩) (k : Nat) : NEq (view (k + 5) L (.ptr rc vc [] 0 0)) (codeP o (frW n W)) := by
  rw [view, h1]
  simp only [if_true, getAt]
  refine NEq.fptr fun j hj => ?_
  unfold codeC codeL
  have hl1 : (dol o).length = 12 := rfl
  have hl2 := rowsL_len
  by_cases c : j < 12
  · have e : ∀ lv, (dol o ++ (rowsL ++ [lv])).getD j .undef = (dol o).getD j .undef := fun lv => by rw [getD_appD, if_pos (by omega)]
    rw [e, e, view_dol (k + 2) L o _ (by rw [List.getD_eq_getElem?_getD]; exact getD_mem _ (by omega))]
    exact .refl _
  · by_cases c2 : j < 80
    · have e : ∀ lv, (dol o ++ (rowsL ++ [lv])).getD j .undef = rowsL.getD (j - 12) .undef := fun lv => by rw [getD_appD, if_neg (by omega), getD_appD, if_pos (by omega), hl1]
      rw [e, e, view_rows (k + 2) L _ (by rw [List.getD_eq_getElem?_getD]; exact getD_mem _ (by omega))]
      exact .refl _
    · obtain rfl : j = 80 := by omega
      have e : ∀ lv, (dol o ++ (rowsL ++ [lv])).getD 80 .undef = lv := fun lv => by rw [getD_appD, if_neg (by omega), getD_appD, if_neg (by omega), hl1, hl2]; rfl
      rw [e, e, view, h2]
      simp only [if_true, getAt, owW]
      exact NEq.frzs rfl (by simp) fun i q _ _ => by rw [Nat.zero_add]; exact .refl _
end Go.Ab
namespace Go.Ab
open Go.Proofs
set_option maxRecDepth 100000
set_option maxHeartbeats 1000000

def scQ (S : Hp) {ι : Type} (l : Nat) (I : ι → Prop) (tmS : ι → Tm) (LS : ι → Hp) (Q : Post) : Post := fun e tm L nv => match e with
  | .goto l' => l' = l ∧ ∃ j, I j ∧ LeS S tm L (tmS j) (LS j)
  | e => Q e tm L nv
theorem scopeS {P : Program} {lv : Nat} {nt : FS} {ro : Option Nat} {S : Hp} {tm : Tm} {L : Hp} {nv : Nat} {Q : Post} {c rest : Code} (hmx : P.follows .mixedOrders = true) (hlv : lv ≠ 0) (hok : okS nt c = true) (hok2 : okS nt rest = true) (l : Nat) (hf : findLabel c l = some rest)
    {ι : Type} (I : ι → Prop) (tmS : ι → Tm) (LS : ι → Hp) (μ : ι → Nat)
    (first : codeR P lv nt ro S c tm L nv (scQ S l I tmS LS Q))
    (pass : ∀ i nv, I i → codeR P lv nt ro S rest (tmS i) (LS i) nv (scQ S l (fun j => I j ∧ μ j < μ i) tmS LS Q)) : Ev P lv nt ro (.scope c) tm (L ++ S) nv (liftQ S Q) := by
  have lift : ∀ {tm1 : Tm} {L1 hp1 : Hp} {nv1 : Nat} {j : ι}, Rep S L1 hp1 → LeS S tm1 L1 (tmS j) (LS j) → Le tm1 hp1 nv1 (tmS j) (LS j ++ S) nv1 := fun h1 h3 => by
    have h5 := h3.le (nv := 0)
    exact ⟨h5.tm, fun r rt hr => by rw [h1.eq]; exact h5.hp r rt hr, Nat.le_refl _⟩
  refine Ev.scope (ι := {i : ι // I i}) l hf (fun i => tmS i.1) (fun i => LS i.1 ++ S) (fun i => μ i.1) ?_ ?_
  · refine (codeR_sound hmx hlv c hok tm L (L ++ S) nv _ (Rep.mk' S L) first).mono fun e tm1 hp1 nv1 hq => ?_
    obtain ⟨L1, h1, h2⟩ := hq
    cases e with
    | goto l' => obtain ⟨e1, j, hj, hle⟩ := h2; exact ⟨e1, ⟨j, hj⟩, lift h1 hle⟩
    | _ => exact ⟨L1, h1, h2⟩
  · rintro ⟨i, hi⟩ nv0
    refine (codeR_sound hmx hlv rest hok2 (tmS i) (LS i) (LS i ++ S) nv0 _ (Rep.mk' S (LS i)) (pass i nv0 hi)).mono fun e tm1 hp1 nv1 hq => ?_
    obtain ⟨L1, h1, h2⟩ := hq
    cases e with
    | goto l' => obtain ⟨e1, j, ⟨hj, hlt⟩, hle⟩ := h2; exact ⟨e1, ⟨j, hj⟩, lift h1 hle, hlt⟩
    | _ => exact ⟨L1, h1, h2⟩

theorem scopeS' {P : Program} {lv : Nat} {nt : FS} {ro : Option Nat} {S : Hp} {tm : Tm} {L : Hp} {nv : Nat} {Q : Post} {c : Code} (hmx : P.follows .mixedOrders = true) (hlv : lv ≠ 0) (hok : okS nt c = true) (l : Nat) (hok2 : okS nt ((findLabel c l).getD .skip) = true) (hf : (findLabel c l).isSome = true)
    {ι : Type} (I : ι → Prop) (tmS : ι → Tm) (LS : ι → Hp) (μ : ι → Nat)
    (first : codeR P lv nt ro S c tm L nv (scQ S l I tmS LS Q))
    (pass : ∀ i nv, I i → codeR P lv nt ro S ((findLabel c l).getD .skip) (tmS i) (LS i) nv (scQ S l (fun j => I j ∧ μ j < μ i) tmS LS Q)) : Ev P lv nt ro (.scope c) tm (L ++ S) nv (liftQ S Q) := by
  obtain ⟨rest, hr⟩ := Option.isSome_iff_exists.1 hf
  rw [hr] at hok2 pass
  exact scopeS hmx hlv hok hok2 l hr I tmS LS μ first pass

theorem setJoin26_spec (ws us : Nat → Nat) (hw : ∀ o, ws o < 18446744073709551616) (hu : ∀ o, us o < 18446744073709551616) (v nv : Nat) (S : Hp) (hS : Above 3 S) :
    CallsA Tryz.prog 88 [.ptr (2, 6) v [] 0 0, aggW us] ([((2, 6), ⟨v, .obox 4 (setC ws)⟩)] ++ S) nv
      fun x hp' nv' => ∃ L', hp' = L' ++ S ∧ (x = .tup [] ∧ L' = [((2, 6), ⟨v, .obox 4 (setC (joinW ws us 4))⟩)]) := by
  refine callsA_ofS (lv := 3) (by decide) mx Tryz.call88 Tryz.func88 rfl Tryz.ntmps88 Tryz.results88 (by kernel_rfl) (by simp) fun lo => ?_
  repeat' (first | refine vcI ?_ | refine And.intro ?_ ?_ | (intro hq; (try simp at hq); (try (exfalso; omega)); (try (revert hq; intro))))
  refine loopS mx (by decide) (by kernel_rfl) (fun k : Nat => k ≤ 4) (fun k => [(5, .int .i64 k), (0, .ptr (2, 6) v [] 0 0), (3, .ptr (3, 3) nv [] 0 0)]) (fun k => [((3, 3), ⟨nv, .obox 4 (setC us)⟩), ((2, 6), ⟨v, .obox 4 (setC (joinW ws us k))⟩)]) (fun k => 4 - k) 0 (by simp) ?_ ?_
  · refine ⟨by ((repeat' apply And.intro) <;> (first | exact True.intro | exact NEq.refl _ | (refine NEq.int ?_; first | exact rfl | omega | (rw [wrapI (by omega)]; first | exact rfl | omega)))), ⟨⟨rfl, .obox fun o ho => ?_⟩, ⟨rfl, ?_⟩, trivial⟩, .chk hS rfl⟩
    · have ho' : o < 4 := ho
      rcases (by omega : o = 0 ∨ o = 1 ∨ o = 2 ∨ o = 3) with rfl | rfl | rfl | rfl <;> exact .refl _
    · rw [joinW_zero]; exact .refl _
  intro k nv hk
  repeat' (first | refine vcI ?_ | refine And.intro ?_ ?_ | (intro hq; (try simp at hq); (try (exfalso; omega)); (try (revert hq; intro))))
  · rw [cW]; show 0 + k * 1 + 1 ≤ 4; omega
  · rw [cW]; decide
  · rw [cW]; show 0 + k * 1 + 1 ≤ 4; omega
  · rw [cW]; decide
  · show 0 + k * Tryz.prog.cellsOf 66 + 1 ≤ 4
    rw [cW]; omega
  · refine Exists.intro (k + 1) ⟨by omega, (by first | omega | (dsimp only; omega)), ⟨⟨(by refine NEq.int ?_; first | exact rfl | omega | (rw [wrapI (by omega)]; first | exact rfl | omega)), .refl _, .refl _, trivial⟩, ⟨⟨rfl, .refl _⟩, ⟨rfl, .obox fun o ho => ?_⟩, trivial⟩, .chk hS rfl⟩⟩
    show NEq (if 0 + k * Tryz.prog.cellsOf 66 ≤ o ∧ o < 0 + k * Tryz.prog.cellsOf 66 + 1 then List.getD [PV.int .u64 (IntKind.u64.wrap ((BitVec.ofInt IntKind.u64.bits (joinW ws us k (0 + k * Tryz.prog.cellsOf 66) : Int) ||| BitVec.ofInt IntKind.u64.bits (us (0 + k * Tryz.prog.cellsOf 66) : Int)).toNat : Int))] (o - (0 + k * Tryz.prog.cellsOf 66)) .undef else .int .u64 (joinW ws us k o)) (.int .u64 (joinW ws us (k + 1) o))
    rw [cW]
    simp only [Nat.zero_add, Nat.mul_one]
    have ek : joinW ws us k k = ws k := by simp [joinW]
    rw [ek, orr_at (hw _) (hu _)]
    by_cases c : o = k
    · subst c
      rw [if_pos (by omega), Nat.sub_self]
      have e5 : joinW ws us (o + 1) o = ws o ||| us o := by simp [joinW]
      rw [e5]
      exact .refl _
    · rw [if_neg (by omega)]
      have e5 : joinW ws us (k + 1) o = joinW ws us k o := by
        unfold joinW
        by_cases c2 : o < k
        · rw [if_pos c2, if_pos (by omega)]
        · rw [if_neg c2, if_neg (by omega)]
      rw [e5]
      exact .refl _
  · obtain rfl : k = 4 := by omega
    exact Exists.intro (PV.tup []) (Exists.intro _ (And.intro ⟨rfl, rfl⟩ (And.intro (.refl _) (And.intro ⟨⟨rfl, .refl _⟩, trivial⟩ (.chk hS rfl)))))
end Go.Ab
namespace Go.Ab
open Go.Proofs
set_option maxRecDepth 100000
set_option maxHeartbeats 1000000

/-- The sets of what instructions and their frames use. -/
def useW (o : DO) (i : Nat) : Nat → Nat := setOf (usedL (o.irs.getD i default) (o.descs.getD i []) ++ usesL (o.descs.getD i []))
/-- Code that may be gone through. -/
structure FlH (o : DO) : Prop where
  hf : fewN o ≤ 6000
  hr : o.regs ≤ 250
  hd : o.descs.length = o.irs.length
  hs : ∀ l ∈ o.descs, l.length ≤ 1048576 ∧ ∀ f ∈ l, f.small
  sh : ∀ i, i < o.irs.length → shapedX o (o.irs.getD i default) (o.descs.getD i []) = true
  ne : 0 < o.irs.length
  go : ∀ i, i < o.irs.length → ∀ k ∈ goesL (o.irs.getD i default) i, 0 ≤ k ∧ k < (o.irs.length : Int)

theorem FlH.use {o : DO} (H : FlH o) {i : Nat} (hi : i < o.irs.length) : ∀ r ∈ usedL (o.irs.getD i default) (o.descs.getD i []) ++ usesL (o.descs.getD i []), 0 ≤ r ∧ r < 250 := fun r hm => by
  have hsh := H.sh i hi
  have hr := H.hr
  simp only [shapedX, Bool.and_eq_true, decide_eq_true_eq, Bool.not_eq_true'] at hsh
  obtain ⟨s1, s2, s3, s4, s5, s6, s7⟩ := hsh
  have hb : ∀ {l}, badL o l = false → r ∈ l → 0 ≤ r ∧ r < 250 := fun h1 h2 => by
    have h3 := List.any_eq_false.1 h1 r h2
    simp only [regB, Bool.not_eq_true', Bool.not_eq_false, Bool.and_eq_true, decide_eq_true_eq] at h3
    omega
  rcases List.mem_append.1 hm with h | h
  · exact hb s5 h
  · exact hb s7 h
theorem FlH.op {o : DO} (H : FlH o) {i : Nat} (hi : i < o.irs.length) : 1 ≤ (o.irs.getD i default).op ∧ (o.irs.getD i default).op ≤ 16 := by
  have hsh := H.sh i hi
  simp only [shapedX, Bool.and_eq_true, decide_eq_true_eq, Bool.not_eq_true'] at hsh
  exact ⟨hsh.1, hsh.2.1⟩
theorem FlH.d {o : DO} (H : FlH o) {i : Nat} (hi : i < o.irs.length) (hs : setsB (o.irs.getD i default).op = true) : 0 ≤ (o.irs.getD i default).d ∧ (o.irs.getD i default).d < 250 := by
  have hsh := H.sh i hi
  have hr := H.hr
  simp only [shapedX, Bool.and_eq_true, decide_eq_true_eq, Bool.not_eq_true'] at hsh
  obtain ⟨s1, s2, s3, s4, s5, s6, s7⟩ := hsh
  rw [hs] at s6
  simp only [Bool.not_true, Bool.false_or, regB, Bool.and_eq_true, decide_eq_true_eq] at s6
  omega
theorem useW_lt (o : DO) (i : Nat) : ∀ q, useW o i q < 18446744073709551616 := setOf_lt _
theorem bit_useW {o : DO} (H : FlH o) {i : Nat} (hi : i < o.irs.length) (q : Nat) : bitW (useW o i) q = true ↔ (q : Int) ∈ usedL (o.irs.getD i default) (o.descs.getD i []) ++ usesL (o.descs.getD i []) := by
  unfold useW
  rw [bit_setOf (fun r h => (H.use hi r h).1), decide_eq_true_eq]

theorem joinW_lt {ws us : Nat → Nat} (hw : ∀ o, ws o < 18446744073709551616) (hu : ∀ o, us o < 18446744073709551616) (k : Nat) : ∀ o, joinW ws us k o < 18446744073709551616 := fun o => by
  unfold joinW
  split
  · exact Nat.or_lt_two_pow (n := 64) (hw o) (hu o)
  · exact hw o
theorem clrW_lt {ws : Nat → Nat} (hw : ∀ o, ws o < 18446744073709551616) (r : Nat) : ∀ o, clrW ws r o < 18446744073709551616 := fun o => by
  unfold clrW
  split
  · exact Nat.lt_of_le_of_lt Nat.and_le_left (hw o)
  · exact hw o
theorem bit_clrW (ws : Nat → Nat) (r q : Nat) : bitW (clrW ws r) q = (bitW ws q && !decide (q = r)) := by
  unfold bitW clrW
  by_cases h : q / 64 = r / 64
  · rw [if_pos h, Nat.testBit_and, Nat.testBit_xor, Nat.testBit_two_pow, show (18446744073709551615 : Nat) = 2 ^ 64 - 1 from rfl, Nat.testBit_two_pow_sub_one, decide_eq_true (show q % 64 < 64 from Nat.mod_lt _ (by decide)), Bool.true_xor]
    congr 2
    rw [Bool.eq_iff_iff]
    simp only [decide_eq_true_eq]
    omega
  · rw [if_neg h, decide_eq_false (fun e => h (by rw [e])), Bool.not_false, Bool.and_true]

/-- All that is behind. -/
def joinL (W : Nat → Nat → Nat) (l : List Int) : Nat → Nat := l.foldl (fun s k => joinW s (W k.toNat) 4) fun _ => 0
theorem joinL_snoc (W : Nat → Nat → Nat) (l : List Int) (k : Int) : joinL W (l ++ [k]) = joinW (joinL W l) (W k.toNat) 4 := by
  unfold joinL; rw [List.foldl_append]; rfl
theorem joinL_lt {W : Nat → Nat → Nat} (hW : ∀ i q, W i q < 18446744073709551616) (l : List Int) : ∀ q, joinL W l q < 18446744073709551616 := by
  have key : ∀ (l : List Int) (ws : Nat → Nat), (∀ o, ws o < 18446744073709551616) → ∀ o, l.foldl (fun s k => joinW s (W k.toNat) 4) ws o < 18446744073709551616 := by
    intro l
    induction l with
    | nil => intro ws h; exact h
    | cons k l ih => intro ws h; exact ih _ (joinW_lt h (hW _) 4)
  exact key l _ fun _ => by decide
theorem bit_joinL (W : Nat → Nat → Nat) {q : Nat} (hq : q < 256) (l : List Int) : bitW (joinL W l) q = true ↔ ∃ k ∈ l, bitW (W k.toNat) q = true := by
  have key : ∀ (l : List Int) (ws : Nat → Nat), bitW (l.foldl (fun s k => joinW s (W k.toNat) 4) ws) q = true ↔ bitW ws q = true ∨ ∃ k ∈ l, bitW (W k.toNat) q = true := by
    intro l
    induction l with
    | nil => intro ws; simp
    | cons k l ih =>
      intro ws
      rw [List.foldl_cons, ih, bit_joinW _ _ hq, Bool.or_eq_true]
      simp only [List.mem_cons, exists_eq_or_imp, or_assoc]
  unfold joinL
  rw [key]
  simp [bitW]

/-- One instruction's step. -/
def stepW (o : DO) (W : Nat → Nat → Nat) (i : Nat) : Nat → Nat := joinW (if setsB (o.irs.getD i default).op = true then clrW (joinL W (goesL (o.irs.getD i default) i)) (o.irs.getD i default).d.toNat else joinL W (goesL (o.irs.getD i default) i)) (useW o i) 4
theorem stepW_lt {o : DO} {W : Nat → Nat → Nat} (hW : ∀ i q, W i q < 18446744073709551616) (i : Nat) : ∀ q, stepW o W i q < 18446744073709551616 := by
  refine joinW_lt ?_ (useW_lt o i) 4
  split
  · exact clrW_lt (joinL_lt hW _) _
  · exact joinL_lt hW _
theorem bit_stepW {o : DO} (H : FlH o) (W : Nat → Nat → Nat) {i : Nat} (hi : i < o.irs.length) {q : Nat} (hq : q < 256) : bitW (stepW o W i) q = true ↔ (q : Int) ∈ usedL (o.irs.getD i default) (o.descs.getD i []) ++ usesL (o.descs.getD i []) ∨ (∃ k ∈ goesL (o.irs.getD i default) i, bitW (W k.toNat) q = true) ∧ ¬ (setsB (o.irs.getD i default).op = true ∧ (o.irs.getD i default).d = (q : Int)) := by
  unfold stepW
  rw [bit_joinW _ _ hq, Bool.or_eq_true, bit_useW H hi, or_comm]
  refine or_congr Iff.rfl ?_
  by_cases hs : setsB (o.irs.getD i default).op = true
  · have hd := H.d hi hs
    rw [if_pos hs, bit_clrW, Bool.and_eq_true, bit_joinL W hq, Bool.not_eq_true', decide_eq_false_iff_not]
    refine and_congr Iff.rfl (not_congr ?_)
    constructor
    · intro e; exact ⟨hs, by omega⟩
    · rintro ⟨_, e⟩; omega
  · rw [if_neg hs, bit_joinL W hq]
    exact ⟨fun h => ⟨h, fun h2 => hs h2.1⟩, fun h => h.1⟩

/-- What holds of the sets all along. -/
structure InvW (o : DO) (W : Nat → Nat → Nat) : Prop where
  lt : ∀ i q, W i q < 18446744073709551616
  inn : ∀ i, i < o.irs.length → ∀ r, r < 256 → bitW (W i) r = true → LiveP o i r
  pre : ∀ i, i < o.irs.length → ∀ r, r < 256 → bitW (W i) r = true → bitW (stepW o W i) r = true
theorem InvW.zero (o : DO) : InvW o fun _ _ => 0 := ⟨fun _ _ => by decide, fun _ _ _ _ h => by simp [bitW] at h, fun _ _ _ _ h => by simp [bitW] at h⟩
def updW (W : Nat → Nat → Nat) (i : Nat) (s : Nat → Nat) : Nat → Nat → Nat := fun j q => if j = i then s q else W j q
theorem bit_updW (W : Nat → Nat → Nat) (i : Nat) (s : Nat → Nat) (j r : Nat) : bitW (updW W i s j) r = if j = i then bitW s r else bitW (W j) r := by
  unfold updW bitW
  split <;> rfl
theorem InvW.upd {o : DO} (H : FlH o) {W : Nat → Nat → Nat} (h : InvW o W) {i : Nat} (hi : i < o.irs.length) : InvW o (updW W i (stepW o W i)) := by
  have up : ∀ j r, j < o.irs.length → r < 256 → bitW (W j) r = true → bitW (updW W i (stepW o W i) j) r = true := fun j r hj hr hb => by
    rw [bit_updW]
    split
    · rename_i e; subst e; exact h.pre j hj r hr hb
    · exact hb
  have mono : ∀ j r, j < o.irs.length → r < 256 → bitW (stepW o W j) r = true → bitW (stepW o (updW W i (stepW o W i)) j) r = true := fun j r hj hr hb => by
    rw [bit_stepW H _ hj hr] at hb ⊢
    rcases hb with hb | ⟨⟨k, hk, hb⟩, hn⟩
    · exact .inl hb
    · have := H.go j hj k hk
      exact .inr ⟨⟨k, hk, up _ _ (by omega) hr hb⟩, hn⟩
  refine ⟨fun j q => ?_, fun j hj r hr hb => ?_, fun j hj r hr hb => ?_⟩
  · unfold updW
    split
    · exact stepW_lt h.lt i q
    · exact h.lt j q
  · rw [bit_updW] at hb
    split at hb
    · rename_i e
      subst e
      rw [bit_stepW H _ hj hr] at hb
      rcases hb with hb | ⟨⟨k, hk, hb⟩, hn⟩
      · exact .use hj hb
      · have hg := H.go j hj k hk
        exact .step hj (k := k.toNat) (by rw [Int.toNat_of_nonneg hg.1]; exact hk) (h.inn _ (by omega) r hr hb) hn
    · exact h.inn j hj r hr hb
  · rw [bit_updW] at hb
    split at hb
    · rename_i e; subst e; exact mono j r hj hr hb
    · exact mono j r hj hr (h.pre j hj r hr hb)

/-- How many bits are not set. -/
def unset (n : Nat) (W : Nat → Nat → Nat) : Nat := ((List.range n).flatMap fun i => (List.range 256).map fun r => (i, r)).countP fun p => !bitW (W p.1) p.2
theorem countP_lt_of {α : Type} {p q : α → Bool} : ∀ {l : List α}, (∀ x ∈ l, p x = true → q x = true) → (∃ x ∈ l, q x = true ∧ p x = false) → l.countP p < l.countP q
  | [], _, ⟨_, h, _⟩ => absurd h (by simp)
  | a :: l, h, ⟨x, hx, h1, h2⟩ => by
    have hle : l.countP p ≤ l.countP q := List.countP_mono_left fun y hy => h y (List.mem_cons_of_mem _ hy)
    rw [List.countP_cons, List.countP_cons]
    rcases List.mem_cons.1 hx with rfl | hx
    · rw [h1, h2]; simp; omega
    · have := countP_lt_of (l := l) (fun y hy => h y (List.mem_cons_of_mem _ hy)) ⟨x, hx, h1, h2⟩
      have ha := h a (by simp)
      cases hpa : p a
      · simp; omega
      · rw [ha hpa]; simp; omega
theorem unset_upd {o : DO} {W : Nat → Nat → Nat} (h : InvW o W) {i : Nat} (hi : i < o.irs.length) (hne : ∃ q, q < 4 ∧ stepW o W i q ≠ W i q) : unset o.irs.length (updW W i (stepW o W i)) < unset o.irs.length W := by
  obtain ⟨q, hq, hne⟩ := hne
  have hd : ∃ r, r < 256 ∧ bitW (stepW o W i) r ≠ bitW (W i) r := by
    refine Classical.byContradiction fun hc => hne (words_ext (stepW_lt h.lt i) (h.lt i) (fun r hr => ?_) hq)
    exact Classical.byContradiction fun h2 => hc ⟨r, hr, h2⟩
  obtain ⟨r, hr, hb⟩ := hd
  have h0 : bitW (W i) r = false := by
    cases hc : bitW (W i) r
    · rfl
    · exact absurd ((h.pre i hi r hr hc).trans hc.symm) hb
  have h1 : bitW (stepW o W i) r = true := by
    rw [h0] at hb
    simpa using hb
  unfold unset
  refine countP_lt_of (fun x hx hp => ?_) ⟨(i, r), ?_, ?_, ?_⟩
  · obtain ⟨j, hj, hx⟩ := List.mem_flatMap.1 hx
    obtain ⟨r', hr', rfl⟩ := List.mem_map.1 hx
    simp only [Bool.not_eq_true'] at hp ⊢
    rw [bit_updW] at hp
    split at hp
    · rename_i e
      subst e
      cases hc : bitW (W j) r'
      · rfl
      · rw [h.pre j hi r' (List.mem_range.1 hr') hc] at hp; cases hp
    · exact hp
  · exact List.mem_flatMap.2 ⟨i, List.mem_range.2 hi, List.mem_map.2 ⟨r, List.mem_range.2 hr, rfl⟩⟩
  · simp [h0]
  · show (!bitW (updW W i (stepW o W i) i) r) = false
    rw [bit_updW, if_pos rfl, h1]; rfl
theorem InvW.done {o : DO} (H : FlH o) {W : Nat → Nat → Nat} (h : InvW o W) (he : ∀ i, i < o.irs.length → ∀ q, q < 4 → stepW o W i q = W i q) {i : Nat} (hi : i < o.irs.length) {q : Nat} (hq : q < 4) : W i q = wordsP (LiveP o i) q := by
  have key : ∀ {i r : Nat}, LiveP o i r → r < 256 → bitW (W i) r = true := by
    intro i r hl
    induction hl with
    | @use i r hi hu =>
      intro hr
      have e : bitW (stepW o W i) r = bitW (W i) r := by unfold bitW; rw [he i hi _ (by omega)]
      rw [← e, bit_stepW H W hi hr]
      exact .inl hu
    | @step i k r hi hk _ hd ih =>
      intro hr
      have e : bitW (stepW o W i) r = bitW (W i) r := by unfold bitW; rw [he i hi _ (by omega)]
      rw [← e, bit_stepW H W hi hr]
      exact .inr ⟨⟨k, hk, ih hr⟩, hd⟩
  refine words_ext (h.lt i) (wordsP_lt _) (fun r hr => ?_) hq
  rw [Bool.eq_iff_iff, bit_wordsP]
  exact ⟨fun hb => h.inn i hi r hr hb, fun hl => key hl hr⟩
end Go.Ab
namespace Go.Ab
open Go.Proofs
set_option maxRecDepth 100000
set_option maxHeartbeats 4000000

theorem Goes_spec (x : DI) (i : Nat) (hi : i ≤ 1048576) : CallsO Tryz.prog 39 [.agg (dil x), .int .i64 i] (oints (goesL x i)) (fun id ver => .ref id ver [] 1 0 (goesL x i).length) := by
  have hw : IntKind.i64.wrap ((i : Int) + 1) = (i : Int) + 1 := wrapI (by omega)
  refine callsO_ofS mx Tryz.call39 Tryz.func39 rfl Tryz.ntmps39 Tryz.results39 (by kernel_rfl) (by simp) fun lo => ?_
  repeat' (first | refine vcI ?_ | refine And.intro ?_ ?_ | (intro hq; (try simp at hq); (try (exfalso; omega)); (try (revert hq; intro))))
  · rw [show goesL x i = [x.n] by simp [goesL, *]]
    refine Exists.intro (oints [x.n]) (And.intro ?_ (And.intro (by first | rfl | exact shape_prs (by simp) | exact shape_ints (by simp) | exact shape_odvs (by simp)) ?_))
    · exact one_ints _ rfl rfl (.refl _)
    exact keepS_ints rfl rfl
  iterate 2
    · rw [show goesL x i = [] by simp [goesL, *]]
      exact keepS_nil
  iterate 2
    · rw [show goesL x i = [(i : Int) + 1] by rename_i h; rw [hw] at h; simp [goesL, *]]
      refine Exists.intro (oints [(i : Int) + 1]) (And.intro ?_ (And.intro (by first | rfl | exact shape_prs (by simp) | exact shape_ints (by simp) | exact shape_odvs (by simp)) ?_))
      · exact one_ints _ rfl rfl (NEq.of_eq (congrArg (PV.int .i64) hw))
      exact keepS_ints rfl rfl
    · rw [show goesL x i = [x.n, (i : Int) + 1] by rename_i h0 h; rw [hw] at h h0; simp [goesL, *]]
      refine Exists.intro (oints [x.n, (i : Int) + 1]) (And.intro ?_ (And.intro (by first | rfl | exact shape_prs (by simp) | exact shape_ints (by simp) | exact shape_odvs (by simp)) ?_))
      · exact two_ints _ _ rfl rfl (.refl _) (NEq.of_eq (congrArg (PV.int .i64) hw))
      exact keepS_ints rfl rfl
    · rw [show goesL x i = [(i : Int) + 1, x.n] by rename_i h0 h; rw [hw] at h h0; simp [goesL, *]]
      refine Exists.intro (oints [(i : Int) + 1, x.n]) (And.intro ?_ (And.intro (by first | rfl | exact shape_prs (by simp) | exact shape_ints (by simp) | exact shape_odvs (by simp)) ?_))
      · exact two_ints _ _ rfl rfl (NEq.of_eq (congrArg (PV.int .i64) hw)) (.refl _)
      exact keepS_ints rfl rfl
  · rw [show goesL x i = [(i : Int) + 1] by simp [goesL, *]]
    refine Exists.intro (oints [(i : Int) + 1]) (And.intro ?_ (And.intro (by first | rfl | exact shape_prs (by simp) | exact shape_ints (by simp) | exact shape_odvs (by simp)) ?_))
    · exact one_ints _ rfl rfl (NEq.of_eq (congrArg (PV.int .i64) hw))
    exact keepS_ints rfl rfl
theorem inside_spec (l : List Int) (n : Int) (hl : l.length ≤ 1048576) : CallsF Tryz.prog 64 [ints l, .int .i64 n] (.bool (l.all fun r => decide (0 ≤ r) && decide (r < n))) := by
  refine callsF_ofS mx Tryz.call64 Tryz.func64 rfl Tryz.ntmps64 Tryz.results64 (by kernel_rfl) (by simp) fun lo => ?_
  refine loopS mx (by decide) (by kernel_rfl) (fun k : Nat => k ≤ l.length ∧ ∀ r ∈ l.take k, 0 ≤ r ∧ r < n) (fun k => [(5, .int .i64 k), (0, ints l), (1, .int .i64 n)]) (fun _ => []) (fun k => l.length - k) 0 (by simp) ⟨by ((repeat' apply And.intro) <;> (first | exact True.intro | exact NEq.refl _ | (refine NEq.int ?_; first | exact rfl | omega | (rw [wrapI (by omega)]; first | exact rfl | omega)))), trivial, .nil⟩ ?_
  rintro k nv ⟨hk, hI⟩
  have hwk : IntKind.i64.wrap ((k : Int) + 1) = ((k + 1 : Nat) : Int) := wrapI (by omega)
  repeat' (first | refine vcI ?_ | refine And.intro ?_ ?_ | (intro hq; (try simp at hq); (try (exfalso; omega)); (try (revert hq; intro))))
  · rename_i hkl hbad
    (refine NEq.of_eq ?_; show PV.bool _ = PV.bool _; congr 1)
    symm
    rw [List.all_eq_false]
    refine ⟨l[k]?.getD 0, getD_mem 0 hkl, ?_⟩
    simp
    omega
  · rename_i hkl hgood
    refine Exists.intro (k + 1) ⟨⟨by omega, fun r hr => ?_⟩, (by first | omega | (dsimp only; omega)), ⟨by ((repeat' apply And.intro) <;> (first | exact True.intro | exact NEq.refl _ | (refine NEq.int ?_; first | exact rfl | omega | (rw [wrapI (by omega)]; first | exact rfl | omega)))), trivial, .nil⟩⟩
    rw [take_succD 0 hkl, List.mem_append, List.mem_singleton] at hr
    rcases hr with hr | rfl
    · exact hI r hr
    · exact hgood
  · obtain rfl : k = l.length := by omega
    rw [List.take_length] at hI
    (refine NEq.of_eq ?_; show PV.bool _ = PV.bool _; congr 1)
    symm
    rw [List.all_eq_true]
    intro r hr
    simpa using hI r hr
def framedB (x : DI) (fs : List DF) : Bool :=
  if x.op = 12 then insB fs.length x.n && (!insB fs.length (fs.getD x.n.toNat default).up || (fs.getD (fs.getD x.n.toNat default).up.toNat default).act != 0)
  else if x.op = 13 then insB fs.length x.m && (fs.getD x.m.toNat default).act != 0
  else true
theorem framed_spec (x : DI) (fs : List DF) (hl : fs.length ≤ 1048576) : CallsF Tryz.prog 79 [.agg (dil x), dfs fs] (.bool (framedB x fs)) := by
  refine callsF_ofS mx Tryz.call79 Tryz.func79 rfl Tryz.ntmps79 Tryz.results79 (by kernel_rfl) (by simp) fun lo => ?_
  repeat' (first | refine vcI ?_ | refine And.intro ?_ ?_ | (intro hq; (try simp at hq); (try (exfalso; omega)); (try (revert hq; intro))))
  all_goals try first | omega | (simp; omega)
  all_goals
    (refine NEq.of_eq ?_; show PV.bool _ = PV.bool _; congr 1)
    unfold framedB insB
    first | rw [if_pos (by assumption)] | rw [if_neg (by assumption), if_pos (by assumption)] | rw [if_neg (by assumption), if_neg (by assumption)]
    try (rw [Bool.eq_iff_iff]; simp only [List.getD_eq_getElem?_getD, Bool.and_eq_true, Bool.or_eq_true, Bool.not_eq_true', decide_eq_true_eq, decide_eq_false_iff_not, bne_iff_ne, ne_eq, Bool.cond_eq_ite, Bool.if_true_left, Bool.if_false_right, iff_true, true_iff, false_iff, Bool.false_eq_true, Bool.true_eq_false])
    try omega
end Go.Ab
namespace Go.Ab
open Go.Proofs
set_option maxRecDepth 100000
set_option maxHeartbeats 1000000

def bbN (n m : Nat) (W : Nat → Nat → Bool) : PV := .own 1 n fun a _ => .own 1 m fun r _ => .bool (W a r)
def setB (W : Nat → Nat → Bool) (i r : Nat) : Nat → Nat → Bool := fun a q => if a = i ∧ q = r then true else W a q
def ownL (o : DO) (i : Nat) : List Int := usedL (o.irs.getD i default) (o.descs.getD i []) ++ usesL (o.descs.getD i [])
structure LvI (o : DO) (W : Nat → Nat → Bool) : Prop where
  own : ∀ i, i < o.irs.length → ∀ r : Nat, (r : Int) ∈ ownL o i → W i r = true
  sound : ∀ i, i < o.irs.length → ∀ r, W i r = true → LiveP o i r
/-- What a round looks at. -/
def ClP (o : DO) (W : Nat → Nat → Bool) (i : Nat) (k : Int) (r : Nat) : Prop := W k.toNat r = true → ¬ (setsB (o.irs.getD i default).op = true ∧ (o.irs.getD i default).d = r) → W i r = true
def unsetB (o : DO) (W : Nat → Nat → Bool) : Nat := ((List.range o.irs.length).flatMap fun i => (List.range o.regs.toNat).map fun r => (i, r)).countP fun p => !W p.1 p.2
theorem unsetB_set {o : DO} {W : Nat → Nat → Bool} {i r : Nat} (hi : i < o.irs.length) (hr : r < o.regs.toNat) (h : W i r = false) : unsetB o (setB W i r) < unsetB o W := by
  refine countP_lt_of (fun x _ hx => ?_) ⟨(i, r), ?_, by simpa using h, by simp [setB]⟩
  · simp only [setB, Bool.not_eq_true'] at hx ⊢
    split at hx
    · cases hx
    · exact hx
  · simp only [List.mem_flatMap, List.mem_range, List.mem_map]
    exact ⟨i, hi, r, hr, rfl⟩
structure RdP (o : DO) (W0 W : Nat → Nat → Bool) (b : Bool) (D : Nat → Int → Nat → Prop) : Prop where
  inv : LvI o W
  no : b = false → W = W0 ∧ ∀ i k r, D i k r → ClP o W0 i k r
  yes : b = true → unsetB o W < unsetB o W0
theorem RdP.less {o : DO} {W0 W : Nat → Nat → Bool} {b : Bool} {D D' : Nat → Int → Nat → Prop} (h : RdP o W0 W b D) (hd : ∀ i k r, D' i k r → D i k r) : RdP o W0 W b D' :=
  ⟨h.inv, fun hb => ⟨(h.no hb).1, fun i k r hD => (h.no hb).2 i k r (hd i k r hD)⟩, h.yes⟩
theorem RdP.put {o : DO} {W0 W : Nat → Nat → Bool} {b : Bool} {D D' : Nat → Int → Nat → Prop} (h : RdP o W0 W b D) {i r : Nat} {k : Int} (hi : i < o.irs.length) (hr : r < o.regs.toNat) (hk : k ∈ goesL (o.irs.getD i default) i) (hk2 : 0 ≤ k ∧ k < (o.irs.length : Int))
    (h1 : W k.toNat r = true) (h2 : W i r = false) (h3 : ¬ (setsB (o.irs.getD i default).op = true ∧ (o.irs.getD i default).d = r)) : RdP o W0 (setB W i r) true D' := by
  refine ⟨⟨fun a ha q hq => ?_, fun a ha q hq => ?_⟩, fun h => (by cases h), fun _ => ?_⟩
  · unfold setB; split
    · rfl
    · exact h.inv.own a ha q hq
  · unfold setB at hq; split at hq
    · rename_i e
      obtain ⟨rfl, rfl⟩ := e
      exact .step hi (k := k.toNat) (by rw [Int.toNat_of_nonneg hk2.1]; exact hk) (h.inv.sound k.toNat (by omega) q h1) h3
    · exact h.inv.sound a ha q hq
  · have h4 := unsetB_set hi hr h2
    cases b
    · have := (h.no rfl).1; subst this; exact h4
    · exact Nat.lt_trans h4 (h.yes rfl)
theorem RdP.skip {o : DO} {W0 W : Nat → Nat → Bool} {b : Bool} {D D' : Nat → Int → Nat → Prop} (h : RdP o W0 W b D) {i r : Nat} {k : Int} (hc : ClP o W i k r) (hD : ∀ a c q, D' a c q → D a c q ∨ (a = i ∧ c = k ∧ q = r)) : RdP o W0 W b D' :=
  ⟨h.inv, fun hb => ⟨(h.no hb).1, fun a c q hd => by
    rcases hD a c q hd with h1 | ⟨rfl, rfl, rfl⟩
    · exact (h.no hb).2 a c q h1
    · have := (h.no hb).1; subst this; exact hc⟩, h.yes⟩
/-- Marks at which a round changes nothing are the live registers. -/
theorem LvI.done {o : DO} (H : FlH o) {W : Nat → Nat → Bool} (h : LvI o W) (hc : ∀ i, i < o.irs.length → ∀ k ∈ goesL (o.irs.getD i default) i, ∀ r, r < o.regs.toNat → ClP o W i k r) (hlt : ∀ i r, LiveP o i r → (r : Int) < o.regs) {i : Nat} (hi : i < o.irs.length) (r : Nat) : W i r = true ↔ LiveP o i r := by
  refine ⟨h.sound i hi r, fun hl => ?_⟩
  induction hl with
  | use hi hu => exact h.own _ hi _ hu
  | @step i k r hi hk hl hs ih =>
    have hgo := H.go i hi _ hk
    have := hlt _ _ hl
    exact hc i hi _ hk r (by omega) (by simpa using ih (by omega)) hs
end Go.Ab
namespace Go.Ab
open Go.Proofs
set_option maxRecDepth 100000
set_option maxHeartbeats 4000000

def mem0 (o : DO) (vc vl : Nat) (W : Nat → Nat → Nat) : Hp := [((1, 45), ⟨vc, .obox 81 (codeC o (.ref (1, 43) vl [] 4 0 o.irs.length))⟩), ((1, 43), ⟨vl, owW o.irs.length W⟩)]
def mem1 (o : DO) (vc vl v : Nat) (W U : Nat → Nat → Nat) : Hp := ((2, 16), ⟨v, owW o.irs.length U⟩) :: mem0 o vc vl W
theorem leafyW (us : Nat → Nat) : leafyL (aggW us) := by
  unfold aggW
  intro x hx
  simp only [List.mem_cons, List.not_mem_nil, or_false] at hx
  rcases hx with rfl | rfl | rfl | rfl <;> trivial
theorem row_at {k a b w w' : Nat} {us : Nat → Nat} (hb : b < 4) (h : w' = if a = k then us b else w) : NEq (if a = 0 + (k : Int).toNat ∧ 0 ≤ b ∧ b < 0 + 4 then List.getD [PV.int .u64 (us 0), PV.int .u64 (us 1), PV.int .u64 (us 2), PV.int .u64 (us 3)] (b - 0) .undef else .int .u64 w) (.int .u64 w') := by
  rw [Int.toNat_natCast, Nat.zero_add]
  by_cases e : a = k
  · rw [if_pos ⟨e, by omega, by omega⟩, h, if_pos e]
    rcases (by omega : b = 0 ∨ b = 1 ∨ b = 2 ∨ b = 3) with rfl | rfl | rfl | rfl <;> exact .refl _
  · rw [if_neg (fun h => e h.1), h, if_neg e]
    exact .refl _
theorem CallS.nexts {S : Hp} {id : RId} {ver : Nat} {args : List PV} {L : Hp} {nv : Nat} {K : PV → Hp → Nat → Prop} (o : DO) (lv : PV) (i : Nat) (hi : i < o.irs.length) (hil : o.irs.length ≤ 6000) (hop : 1 ≤ (o.irs.getD i default).op ∧ (o.irs.getD i default).op ≤ 16) (ha : LeL (args.map (view 9 (L ++ S))) [codeP o lv, .int .i64 i])
    (k : delS L id fun L => fz (.ref id ver [] 1 0 (goesL (o.irs.getD i default) i).length) fun x => K x ((id, ⟨ver, oints (goesL (o.irs.getD i default) i ++ padL (o.irs.getD i default) i)⟩) :: L) nv) : CallS Tryz.prog S id ver 38 args L nv K :=
  .ownPlain _ 1 _ (fun j _ => .int .i64 ((goesL (o.irs.getD i default) i ++ padL (o.irs.getD i default) i).getD j 0)) _ (nexts_spec o lv i hi hil hop) ha trivial (fun i o hi => trivial) k
theorem getD_app0 (a b : List Int) {k : Nat} (hk : k < a.length) : (a ++ b).getD k 0 = a.getD k 0 := by
  rw [List.getD_eq_getElem?_getD, List.getElem?_append_left hk, List.getD_eq_getElem?_getD]
theorem mk_sets {vc : Nat} (o : DO) (lv : PV) (op : Int) {off : Nat} (h : 1 ≤ op ∧ op ≤ 16) (hoff : off = 12 + op.toNat * 4 + 1) : mkV Tryz.prog 4 (fun j => cellV (1, 45) vc [] 0 j (codeC o lv j)) off = .bool (setsB op) := by
  subst hoff
  have key : ∀ n : Nat, 1 ≤ n ∧ n ≤ 16 → mkV Tryz.prog 4 (fun j => cellV (1, 45) vc [] 0 j (codeC o lv j)) (12 + n * 4 + 1) = .bool (setsB (n : Int)) := by
    intro n hn
    rcases (by omega : n = 1 ∨ n = 2 ∨ n = 3 ∨ n = 4 ∨ n = 5 ∨ n = 6 ∨ n = 7 ∨ n = 8 ∨ n = 9 ∨ n = 10 ∨ n = 11 ∨ n = 12 ∨ n = 13 ∨ n = 14 ∨ n = 15 ∨ n = 16) with rfl | rfl | rfl | rfl | rfl | rfl | rfl | rfl | rfl | rfl | rfl | rfl | rfl | rfl | rfl | rfl <;> rfl
  have h2 := key op.toNat (by omega)
  rw [Int.toNat_of_nonneg (by omega)] at h2
  exact h2
theorem wdiv64 {d : Int} (h : 0 ≤ d ∧ d < 250) : IntKind.i64.wrap (d.tdiv 64) = ((d.toNat / 64 : Nat) : Int) := by
  have := wrap64_div (r := d.toNat) (by omega)
  rw [Int.toNat_of_nonneg h.1] at this
  exact this
theorem andNot_at {w j : Nat} (hw : w < 18446744073709551616) (hj : j < 64) : IntKind.u64.wrap ((BitVec.ofInt IntKind.u64.bits (w : Int) &&& ~~~ BitVec.ofInt IntKind.u64.bits (IntKind.u64.wrap (1 * 2 ^ min j IntKind.u64.bits))).toNat : Int) = ((w &&& (18446744073709551615 ^^^ 2 ^ j) : Nat) : Int) := by
  have hb : IntKind.u64.bits = 64 := rfl
  rw [hb, Nat.min_eq_left (by omega), Int.one_mul]
  have hj2 : 2 ^ j < 18446744073709551616 := Nat.pow_lt_pow_right (a := 2) (by decide) hj
  have h1 : (2 : Int) ^ j = ((2 ^ j : Nat) : Int) := by norm_cast
  rw [h1]
  generalize hp : 2 ^ j = p at *
  have h3 : IntKind.u64.wrap (p : Int) = p := wrapU (by omega) (by omega)
  rw [h3, BitVec.ofInt_natCast, BitVec.ofInt_natCast]
  have h4 : (BitVec.ofNat 64 w &&& ~~~BitVec.ofNat 64 p).toNat = w &&& (18446744073709551615 ^^^ p) := by
    apply Nat.eq_of_testBit_eq
    intro i
    rw [BitVec.testBit_toNat, BitVec.getLsbD_and, BitVec.getLsbD_not, Nat.testBit_and, Nat.testBit_xor, show (18446744073709551615 : Nat) = 2 ^ 64 - 1 from rfl, Nat.testBit_two_pow_sub_one, BitVec.getLsbD_ofNat, BitVec.getLsbD_ofNat]
    by_cases hi : i < 64
    · simp only [hi, decide_true, Bool.true_and, Bool.true_xor]
    · rw [Nat.testBit_lt_two_pow (Nat.lt_of_lt_of_le hw (Nat.pow_le_pow_right (n := 2) (by decide) (show 64 ≤ i by omega)))]
      simp only [hi, decide_false, Bool.false_and]
  rw [h4]
  have h5 : w &&& (18446744073709551615 ^^^ p) ≤ w := Nat.and_le_left
  generalize w &&& (18446744073709551615 ^^^ p) = q at *
  exact wrapU (by omega) (by omega)
theorem clr_node {d : Int} (h : 0 ≤ d ∧ d < 250) {J J' : Nat → Nat} (hJ : ∀ o, J o < 18446744073709551616) (e : J = J') (b : Nat) : (if 0 + (IntKind.i64.wrap (d.tdiv 64)).toNat * Tryz.prog.cellsOf 66 ≤ b ∧ b < 0 + (IntKind.i64.wrap (d.tdiv 64)).toNat * Tryz.prog.cellsOf 66 + 1 then List.getD [PV.int .u64 (IntKind.u64.wrap ((BitVec.ofInt IntKind.u64.bits (J (0 + (IntKind.i64.wrap (d.tdiv 64)).toNat * Tryz.prog.cellsOf 66) : Int) &&& ~~~ BitVec.ofInt IntKind.u64.bits (IntKind.u64.wrap (1 * 2 ^ min (d.tmod 64).toNat IntKind.u64.bits))).toNat : Int))] (b - (0 + (IntKind.i64.wrap (d.tdiv 64)).toNat * Tryz.prog.cellsOf 66)) .undef else .int .u64 (J b)) = .int .u64 (clrW J' d.toNat b) := by
  subst e
  have em : (d.tmod 64).toNat = d.toNat % 64 := by
    have := tmod64 d.toNat
    rw [Int.toNat_of_nonneg h.1] at this
    rw [this]; omega
  rw [cW, wdiv64 h, em]
  simp only [Int.toNat_natCast, Nat.zero_add, Nat.mul_one]
  rw [andNot_at (hJ _) (Nat.mod_lt _ (by decide))]
  by_cases c : b = d.toNat / 64
  · subst c
    rw [if_pos (by omega), Nat.sub_self]
    simp only [clrW, if_true]
    rfl
  · rw [if_neg (by omega)]
    simp only [clrW, if_neg c]
theorem ne4 {f g : Nat → Nat} (h : ¬ (f 0 : Int) = (g 0 : Int) ∨ ¬ (f 1 : Int) = (g 1 : Int) ∨ ¬ (f 2 : Int) = (g 2 : Int) ∨ ¬ (f 3 : Int) = (g 3 : Int)) : ∃ q, q < 4 ∧ f q ≠ g q := by
  rcases h with h | h | h | h
  · exact ⟨0, by omega, by omega⟩
  · exact ⟨1, by omega, by omega⟩
  · exact ⟨2, by omega, by omega⟩
  · exact ⟨3, by omega, by omega⟩
theorem eq4 {f g : Nat → Nat} (h : (f 0 : Int) = (g 0 : Int) ∧ (f 1 : Int) = (g 1 : Int) ∧ (f 2 : Int) = (g 2 : Int) ∧ (f 3 : Int) = (g 3 : Int)) (q : Nat) (hq : q < 4) : f q = g q := by
  obtain ⟨h0, h1, h2, h3⟩ := h
  rcases (by omega : q = 0 ∨ q = 1 ∨ q = 2 ∨ q = 3) with rfl | rfl | rfl | rfl <;> omega
theorem CallS.on1e {P : Program} {S L : Hp} {id r : RId} {v : Nat} {node node' : PV} {ver nv n : Nat} {f : FuncId} {args args' : List PV} {K : PV → Hp → Nat → Prop} {R : PV → Hp → Nat → Prop} (hr : lkS L r = some ⟨v, node⟩) (he : node = node') (ha : LeL args args') (hA : Above n (L ++ S))
    (h : ∀ S', Above n S' → CallsA P f args' ([(r, ⟨v, node'⟩)] ++ S') nv fun x hp' nv' => ∃ L', hp' = L' ++ S' ∧ R x L' nv')
    (k : delS L r fun M => ∀ x L' nv', R x L' nv' → fz x fun x => K x (L' ++ M) nv') : CallS P S id ver f args L nv K := by
  subst he
  exact CallS.on1 hr hA (fun S' hS' => (h S' hS').less ha) k
theorem flow_spec (o : DO) (H : FlH o) (vc vl nv : Nat) (S : Hp) (hS : Above 2 S) : CallsA Tryz.prog 78 [.ptr (1, 45) vc [] 0 0] (mem0 o vc vl (fun _ _ => 0) ++ S) nv
    fun x hp' nv' => ∃ L', hp' = L' ++ S ∧ (x = .tup [] ∧ L' = mem0 o vc vl fun i => wordsP (LiveP o i)) := by
  have hil : o.irs.length ≤ 6000 := by have := H.hf; unfold fewN at this; omega
  have hn := H.ne
  refine callsA_ofS (lv := 2) (by decide) mx Tryz.call78 Tryz.func78 rfl Tryz.ntmps78 Tryz.results78 (by kernel_rfl) (by simp) fun lo => ?_
  refine scopeS' mx (by decide) ?hok 0 ?hok2 ?hf (fun p : (Nat → Nat → Nat) × Nat => InvW o p.1) (fun p => [(2, .ref (2, 16) p.2 [] 4 0 o.irs.length), (0, .ptr (1, 45) vc [] 0 0)]) (fun p => mem1 o vc vl p.2 p.1 (useW o)) (fun p => unset o.irs.length p.1) ?first ?pass
  case hf => kernel_rfl
  case hok => kernel_rfl
  case hok2 => kernel_rfl
  case first =>
    repeat' (first | refine vcI ?_ | refine And.intro ?_ ?_ | (intro hq; (try simp at hq); (try (exfalso; omega)); (try (revert hq; intro))))
    · rw [show Tryz.prog.bytesOf 68 = 32 by kernel_rfl]; omega
    · rfl
    refine Exists.intro (owW o.irs.length fun _ _ => 0) (And.intro ?_ (And.intro ?_ ?_))
    · refine NEq.owns rfl (by simp) fun i q hi hq => ?_
      rcases (by have : q < 4 := hq; omega : q = 0 ∨ q = 1 ∨ q = 2 ∨ q = 3) with rfl | rfl | rfl | rfl <;> exact .refl _
    · rfl
    repeat' (first | refine vcI ?_ | refine And.intro ?_ ?_ | (intro hq; (try simp at hq); (try (exfalso; omega)); (try (revert hq; intro))))
    refine loopS2 mx (by decide) (by kernel_rfl) (fun (k v : Nat) => k ≤ o.irs.length) (fun k v => [(23, .int .i64 k), (22, .int .i64 o.irs.length), (2, .ref (2, 16) v [] 4 0 o.irs.length), (0, .ptr (1, 45) vc [] 0 0)]) (fun k v => ((2, 16), ⟨v, owW o.irs.length fun i q => if i < k then useW o i q else 0⟩) :: mem0 o vc vl fun _ _ => 0) (fun k v => o.irs.length - k) 0 _ (by simp) ⟨by ((repeat' apply And.intro) <;> (first | exact True.intro | exact NEq.refl _ | (refine NEq.int ?_; first | exact rfl | omega | (rw [wrapI (by omega)]; first | exact rfl | omega)))), ?_, .chk hS rfl⟩ ?_
    · exact ⟨⟨rfl, .refl _⟩, ⟨rfl, .refl _⟩, ⟨rfl, .refl _⟩, trivial⟩
    intro k v nv hk
    repeat' (first | refine vcI ?_ | refine And.intro ?_ ?_ | (intro hq; (try simp at hq); (try (exfalso; omega)); (try (revert hq; intro))))
    · rename_i hlt
      have hview : NEq (view 9 ((((2, 16), ⟨v, owW o.irs.length fun i q => if i < k then useW o i q else 0⟩) :: mem0 o vc vl fun _ _ => 0) ++ S) (.ptr (1, 45) vc [] 0 0)) (codeP o (frW o.irs.length fun _ _ => 0)) := view_code (1, 45) (1, 43) rfl rfl 4
      refine CallS.plain [codeP o (frW o.irs.length fun _ _ => 0), .int .i64 k] (aggW (useW o k)) (own_spec o _ k hlt (by rw [H.hd]; exact hlt) H.hf H.hr H.hs (H.sh k hlt)) (LeL.cons hview (LeL.cons (.refl _) LeL.nil)) (leafyW _) ?_
      repeat' (first | refine vcI ?_ | refine And.intro ?_ ?_ | (intro hq; (try simp at hq); (try (exfalso; omega)); (try (revert hq; intro))))
      · rfl
      refine Exists.intro (owW o.irs.length fun i q => if i < k + 1 then useW o i q else 0) (And.intro ?_ (And.intro rfl ?_))
      · refine NEq.owns rfl rfl fun a b ha hb => row_at hb ?_
        show (if a < k + 1 then useW o a b else 0) = _
        by_cases e : a = k
        · rw [if_pos e, if_pos (by omega), e]
        · rw [if_neg e]
          exact ite_congr (by rw [eq_iff_iff]; omega) (fun _ => rfl) fun _ => rfl
      have hw : IntKind.i64.wrap ((k : Int) + 1) = ((k + 1 : Nat) : Int) := wrapI (by omega)
      repeat' (first | refine vcI ?_ | refine And.intro ?_ ?_ | (intro hq; (try simp at hq); (try (exfalso; omega)); (try (revert hq; intro))))
      refine Exists.intro (k + 1, v) ⟨by dsimp only; omega, (by first | omega | (dsimp only; omega)), ⟨by ((repeat' apply And.intro) <;> (first | exact True.intro | exact NEq.refl _ | (refine NEq.int ?_; first | exact rfl | omega | (rw [wrapI (by omega)]; first | exact rfl | omega)))), ⟨⟨rfl, .refl _⟩, ⟨rfl, .refl _⟩, ⟨rfl, .refl _⟩, trivial⟩, .chk hS rfl⟩⟩
    · rename_i hge
      obtain rfl : k = o.irs.length := by omega
      have hw : IntKind.i64.wrap ((o.irs.length : Int) - 1) = (o.irs.length : Int) - 1 := by rw [IntKind.wrap_i64]; omega
      repeat' (first | refine vcI ?_ | refine And.intro ?_ ?_ | (intro hq; (try simp at hq); (try (exfalso; omega)); (try (revert hq; intro))))
      refine loopS3 mx (by decide) (by kernel_rfl) (fun (j : Nat) (W' : Nat → Nat → Nat) (b : Bool) => j ≤ o.irs.length ∧ InvW o W' ∧ (b = true → unset o.irs.length W' < unset o.irs.length (fun _ _ => 0)) ∧ (b = false → W' = (fun _ _ => 0) ∧ ∀ m, j ≤ m → m < o.irs.length → ∀ q, q < 4 → stepW o (fun _ _ => 0) m q = (fun _ _ => 0) m q)) (fun j W' b => [(5, .int .i64 ((j : Int) - 1)), (4, .bool b), (2, .ref (2, 16) v [] 4 0 o.irs.length), (0, .ptr (1, 45) vc [] 0 0)]) (fun j W' b => mem1 o vc vl v W' (useW o)) (fun j W' b => j) o.irs.length (fun _ _ => 0) false ⟨Nat.le_refl _, (InvW.zero o), (by simp), fun _ => ⟨rfl, fun m h1 h2 => by omega⟩⟩ ⟨by ((repeat' apply And.intro) <;> (first | exact True.intro | exact NEq.refl _ | (refine NEq.int ?_; first | exact rfl | omega | (rw [wrapI (by omega)]; first | exact rfl | omega)))), ⟨⟨rfl, NEq.owns rfl rfl fun i q hi hq => NEq.of_eq (by dsimp only; rw [if_pos hi])⟩, ⟨rfl, .refl _⟩, ⟨rfl, .refl _⟩, trivial⟩, .chk hS rfl⟩ ?_
      intro j W' b nv ⟨hj, hI, hb1, hb0⟩
      rcases j with _ | i
      · repeat' (first | refine vcI ?_ | refine And.intro ?_ ?_ | (intro hq; (try simp at hq); (try (exfalso; omega)); (try (revert hq; intro))))
        · exact Exists.intro (W', v) ⟨hI, ⟨by ((repeat' apply And.intro) <;> (first | exact True.intro | exact NEq.refl _ | (refine NEq.int ?_; first | exact rfl | omega | (rw [wrapI (by omega)]; first | exact rfl | omega)))), ⟨⟨rfl, .refl _⟩, ⟨rfl, .refl _⟩, ⟨rfl, .refl _⟩, trivial⟩, .chk hS rfl⟩⟩
        · obtain ⟨rfl, hst⟩ := hb0 ‹_›
          refine Exists.intro (PV.tup []) (Exists.intro _ (And.intro ⟨rfl, rfl⟩ (And.intro (.refl _) (And.intro ⟨⟨rfl, .refl _⟩, ⟨rfl, ?_⟩, trivial⟩ (.chk hS rfl)))))
          refine NEq.owns rfl rfl fun i q hi hq => NEq.of_eq ?_
          rw [InvW.done H hI (fun i hi q hq => hst i (Nat.zero_le _) hi q hq) hi hq]
      have hil' : i < o.irs.length := by omega
      have e5 : ((i + 1 : Nat) : Int) - 1 = (i : Int) := by omega
      rw [e5]
      have hw2 : IntKind.i64.wrap ((i : Int) - 1) = (i : Int) - 1 := by rw [IntKind.wrap_i64]; omega
      repeat' (first | refine vcI ?_ | refine And.intro ?_ ?_ | (intro hq; (try simp at hq); (try (exfalso; omega)); (try (revert hq; intro))))
      refine CallS.nexts o (frW o.irs.length W') i hil' hil (H.op hil') (LeL.cons (view_code (1, 45) (1, 43) rfl rfl 4) (LeL.cons (.refl _) LeL.nil)) ?_
      repeat' (first | refine vcI ?_ | refine And.intro ?_ ?_ | (intro hq; (try simp at hq); (try (exfalso; omega)); (try (revert hq; intro))))
      obtain ⟨g, hg⟩ : ∃ g, g = goesL (o.irs.getD i default) i := ⟨_, rfl⟩
      obtain ⟨pd, hpd⟩ : ∃ pd, pd = padL (o.irs.getD i default) i := ⟨_, rfl⟩
      have hgl : g.length ≤ 2 := by rw [hg]; unfold goesL; split <;> (try split) <;> (try split) <;> (try split) <;> (try split) <;> simp
      have hgk : ∀ k, k < g.length → 0 ≤ (g ++ pd).getD k 0 ∧ (g ++ pd).getD k 0 < (o.irs.length : Int) := fun k hk => by
        rw [getD_app0 _ _ hk]
        have hm : g.getD k 0 ∈ goesL (o.irs.getD i default) i := by rw [← hg, List.getD_eq_getElem?_getD]; exact getD_mem _ hk
        exact H.go i hil' _ hm
      rw [← hg, ← hpd]
      refine loopS3 mx (by decide) (by kernel_rfl) (fun (k v6 v46 : Nat) => k ≤ g.length) (fun k v6 v46 => [(48, .int .i64 k), (47, .int .i64 g.length), (46, .ref (2, 46) v46 [] 1 0 g.length), (6, .ptr (2, 6) v6 [] 0 0), (5, .int .i64 i), (4, .bool b), (2, .ref (2, 16) v [] 4 0 o.irs.length), (0, .ptr (1, 45) vc [] 0 0)]) (fun k v6 v46 => ((2, 6), ⟨v6, .obox 4 (setC (joinL W' (g.take k)))⟩) :: ((2, 46), ⟨v46, oints (g ++ pd)⟩) :: mem1 o vc vl v W' (useW o)) (fun k v6 v46 => g.length - k) 0 _ _ (by simp) ⟨by ((repeat' apply And.intro) <;> (first | exact True.intro | exact NEq.refl _ | (refine NEq.int ?_; first | exact rfl | omega | (rw [wrapI (by omega)]; first | exact rfl | omega)))), ?_, .chk hS rfl⟩ ?_
      · refine ⟨⟨rfl, .obox fun q hq => ?_⟩, ⟨rfl, .refl _⟩, ⟨rfl, .refl _⟩, ⟨rfl, .refl _⟩, ⟨rfl, .refl _⟩, trivial⟩
        rcases (by have : q < 4 := hq; omega : q = 0 ∨ q = 1 ∨ q = 2 ∨ q = 3) with rfl | rfl | rfl | rfl <;> exact .refl _
      intro k v6 v46 nv hk
      repeat' (first | refine vcI ?_ | refine And.intro ?_ ?_ | (intro hq; (try simp at hq); (try (exfalso; omega)); (try (revert hq; intro))))
      · have h1 := hgk k (by assumption)
        rw [Int.toNat_natCast, Nat.zero_add]; omega
      · have h1 := hgk k (by assumption)
        rw [Int.toNat_natCast, Nat.zero_add]; omega
      · rename_i hlt
        refine CallS.onA (L0 := [((2, 6), ⟨v6, .obox 4 (setC (joinL W' (g.take k)))⟩)]) (M := ((2, 46), ⟨v46, oints (g ++ pd)⟩) :: mem1 o vc vl v W' (useW o)) ((setJoin26_spec (joinL W' (g.take k)) (W' (0 + ((g ++ pd).getD (0 + (k : Int).toNat) 0).toNat)) (joinL_lt hI.lt _) (hI.lt _) v6 _ _ (Above.chk rfl (hS.mono (by decide)))).less ?_) (fun r => ?_) ?_
        · refine LeL.cons (.refl _) (LeL.cons ?_ LeL.nil)
          show NEq (.agg (List.map _ (List.range (Tryz.prog.cellsOf 68)))) _
          rw [show Tryz.prog.cellsOf 68 = 4 by kernel_rfl]
          exact .refl _
        · rfl
        rintro x L' nv' ⟨rfl, rfl⟩
        have hw : IntKind.i64.wrap ((k : Int) + 1) = ((k + 1 : Nat) : Int) := wrapI (by omega)
        repeat' (first | refine vcI ?_ | refine And.intro ?_ ?_ | (intro hq; (try simp at hq); (try (exfalso; omega)); (try (revert hq; intro))))
        refine Exists.intro (k + 1, v6, v46) ⟨by dsimp only; omega, (by first | omega | (dsimp only; omega)), ⟨by ((repeat' apply And.intro) <;> (first | exact True.intro | exact NEq.refl _ | (refine NEq.int ?_; first | exact rfl | omega | (rw [wrapI (by omega)]; first | exact rfl | omega)))), ⟨⟨rfl, ?_⟩, ⟨rfl, .refl _⟩, ⟨rfl, .refl _⟩, ⟨rfl, .refl _⟩, ⟨rfl, .refl _⟩, trivial⟩, .chk hS rfl⟩⟩
        show NEq _ (.obox 4 (setC (joinL W' (g.take (k + 1)))))
        rw [take_succD 0 hlt, joinL_snoc, Int.toNat_natCast, Nat.zero_add, Nat.zero_add, getD_app0 _ _ hlt]
        exact .refl _
      · show 0 ≤ (o.irs.getD i default).op; have := H.op hil'; omega
      · show (o.irs.getD i default).op < _; have := H.op hil'; omega
      · rw [cRow]; decide
      · rw [cRow]; show 0 + 12 + (o.irs.getD i default).op.toNat * 4 + 1 ≤ 81; have := H.op hil'; omega
      · show 0 + 12 + (o.irs.getD i default).op.toNat * Tryz.prog.cellsOf 71 + 1 + Tryz.prog.cellsOf 4 ≤ 81
        rw [cRow, show Tryz.prog.cellsOf 4 = 1 by kernel_rfl]; have := H.op hil'; omega
      · rw [show Tryz.prog.cellsOf 4 = 1 by kernel_rfl]; decide
      rw [mk_sets o _ _ (H.op hil') (by rw [cRow]; show 0 + 12 + (o.irs.getD i default).op.toNat * 4 + 1 = _; omega)]
      repeat' (first | refine vcI ?_ | refine And.intro ?_ ?_ | (intro hq; (try simp at hq); (try (exfalso; omega)); (try (revert hq; intro))))
      · have hd0 := H.d hil' (by assumption)
        show 0 ≤ IntKind.i64.wrap ((o.irs.getD i default).d.tdiv 64)
        rw [wdiv64 hd0]; omega
      · have hd0 := H.d hil' (by assumption)
        show IntKind.i64.wrap ((o.irs.getD i default).d.tdiv 64) < 4
        rw [wdiv64 hd0]; omega
      · rw [cW]; decide
      · have hd0 := H.d hil' (by assumption)
        show 0 + (IntKind.i64.wrap ((o.irs.getD i default).d.tdiv 64)).toNat * Tryz.prog.cellsOf 66 + Tryz.prog.cellsOf 66 ≤ 4
        rw [cW, wdiv64 hd0]; omega
      · rw [cW]; decide
      · have hd0 := H.d hil' (by assumption)
        show 0 ≤ (o.irs.getD i default).d.tmod 64
        exact Int.tmod_nonneg _ hd0.1
      · have hd0 := H.d hil' (by assumption)
        show 0 ≤ IntKind.i64.wrap ((o.irs.getD i default).d.tdiv 64)
        rw [wdiv64 hd0]; omega
      · have hd0 := H.d hil' (by assumption)
        show IntKind.i64.wrap ((o.irs.getD i default).d.tdiv 64) < 4
        rw [wdiv64 hd0]; omega
      · rw [cW]; decide
      · have hd0 := H.d hil' (by assumption)
        show 0 + (IntKind.i64.wrap ((o.irs.getD i default).d.tdiv 64)).toNat * Tryz.prog.cellsOf 66 + 1 ≤ 4
        rw [cW, wdiv64 hd0]; omega
      · have hkg : k = g.length := by omega
        have hsb : setsB (o.irs.getD i default).op = true := by assumption
        refine CallS.on1e (r := (2, 6)) (v := v6) (node' := .obox 4 (setC (clrW (joinL W' g) (o.irs.getD i default).d.toNat))) (n := 3) rfl ?_ ?_ (Above.chk rfl (hS.mono (by decide))) (fun S' hS' => setJoin26_spec (clrW (joinL W' g) (o.irs.getD i default).d.toNat) (useW o (0 + (i : Int).toNat)) (clrW_lt (joinL_lt hI.lt _) _) (useW_lt o _) v6 _ S' hS') ?_
        · exact congrArg (PV.obox 4) (funext fun b => clr_node (H.d hil' (by assumption)) (joinL_lt hI.lt (g.take k)) (by rw [hkg, List.take_length]) b)
        · refine LeL.cons (.refl _) (LeL.cons ?_ LeL.nil)
          show NEq (.agg (List.map _ (List.range (Tryz.prog.cellsOf 68)))) _
          rw [show Tryz.prog.cellsOf 68 = 4 by kernel_rfl]
          exact .refl _
        rintro x L' nv' ⟨rfl, rfl⟩
        have ei : 0 + (i : Int).toNat = i := by omega
        have es : stepW o W' i = joinW (clrW (joinL W' g) (o.irs.getD i default).d.toNat) (useW o i) 4 := (by unfold stepW; rw [if_pos hsb, ← hg])
        rw [ei]
        rw [← es]
        repeat' (first | refine vcI ?_ | refine And.intro ?_ ?_ | (intro hq; (try simp at hq); (try (exfalso; omega)); (try (revert hq; intro))))
        · rfl
        · have hne : ∃ q, q < 4 ∧ stepW o W' i q ≠ W' i q := ne4 (by assumption)
          refine Exists.intro (owW o.irs.length (updW W' i (stepW o W' i))) (And.intro ?_ (And.intro rfl ?_))
          · rw [show Tryz.prog.cellsOf 68 = 4 by kernel_rfl]
            refine NEq.owns rfl rfl fun a b ha hb => row_at (us := stepW o W' i) hb ?_
            rfl
          repeat' (first | refine vcI ?_ | refine And.intro ?_ ?_ | (intro hq; (try simp at hq); (try (exfalso; omega)); (try (revert hq; intro))))
          have hlt := unset_upd hI hil' hne
          refine Exists.intro (i, updW W' i (stepW o W' i), true) ⟨⟨by dsimp only; omega, hI.upd H hil', fun _ => ?_, by simp⟩, (by first | omega | (dsimp only; omega)), ⟨by ((repeat' apply And.intro) <;> (first | exact True.intro | exact NEq.refl _ | (refine NEq.int ?_; first | exact rfl | omega | (rw [wrapI (by omega)]; first | exact rfl | omega)))), ⟨⟨rfl, .refl _⟩, ⟨rfl, .refl _⟩, ⟨rfl, .refl _⟩, trivial⟩, .chk hS rfl⟩⟩
          cases hbb : b
          · rw [(hb0 hbb).1] at hlt ⊢; exact hlt
          · exact Nat.lt_trans hlt (hb1 hbb)
        · have heq : ∀ q, q < 4 → stepW o W' i q = W' i q := eq4 (by assumption)
          refine Exists.intro (i, W', b) ⟨⟨by dsimp only; omega, hI, hb1, fun hbb => ⟨(hb0 hbb).1, fun m h1 h2 => ?_⟩⟩, (by first | omega | (dsimp only; omega)), ⟨by ((repeat' apply And.intro) <;> (first | exact True.intro | exact NEq.refl _ | (refine NEq.int ?_; first | exact rfl | omega | (rw [wrapI (by omega)]; first | exact rfl | omega)))), ⟨⟨rfl, .refl _⟩, ⟨rfl, .refl _⟩, ⟨rfl, .refl _⟩, trivial⟩, .chk hS rfl⟩⟩
          by_cases e : m = i
          · subst e; rw [← (hb0 hbb).1]; exact heq
          · exact (hb0 hbb).2 m (by omega) h2
      · have hkg : k = g.length := by omega
        have hsf : setsB (o.irs.getD i default).op = false := by assumption
        have hsb : ¬ setsB (o.irs.getD i default).op = true := by rw [hsf]; simp
        repeat' (first | refine vcI ?_ | refine And.intro ?_ ?_ | (intro hq; (try simp at hq); (try (exfalso; omega)); (try (revert hq; intro))))
        refine CallS.on1e (r := (2, 6)) (v := v6) (node' := .obox 4 (setC (joinL W' g))) (n := 3) rfl ?_ ?_ (Above.chk rfl (hS.mono (by decide))) (fun S' hS' => setJoin26_spec (joinL W' g) (useW o (0 + (i : Int).toNat)) (joinL_lt hI.lt _) (useW_lt o _) v6 _ S' hS') ?_
        · rw [hkg, List.take_length]
        · refine LeL.cons (.refl _) (LeL.cons ?_ LeL.nil)
          show NEq (.agg (List.map _ (List.range (Tryz.prog.cellsOf 68)))) _
          rw [show Tryz.prog.cellsOf 68 = 4 by kernel_rfl]
          exact .refl _
        rintro x L' nv' ⟨rfl, rfl⟩
        have ei : 0 + (i : Int).toNat = i := by omega
        have es : stepW o W' i = joinW (joinL W' g) (useW o i) 4 := (by unfold stepW; rw [if_neg hsb, ← hg])
        rw [ei]
        rw [← es]
        repeat' (first | refine vcI ?_ | refine And.intro ?_ ?_ | (intro hq; (try simp at hq); (try (exfalso; omega)); (try (revert hq; intro))))
        · rfl
        · have hne : ∃ q, q < 4 ∧ stepW o W' i q ≠ W' i q := ne4 (by assumption)
          refine Exists.intro (owW o.irs.length (updW W' i (stepW o W' i))) (And.intro ?_ (And.intro rfl ?_))
          · rw [show Tryz.prog.cellsOf 68 = 4 by kernel_rfl]
            refine NEq.owns rfl rfl fun a b ha hb => row_at (us := stepW o W' i) hb ?_
            rfl
          repeat' (first | refine vcI ?_ | refine And.intro ?_ ?_ | (intro hq; (try simp at hq); (try (exfalso; omega)); (try (revert hq; intro))))
          have hlt := unset_upd hI hil' hne
          refine Exists.intro (i, updW W' i (stepW o W' i), true) ⟨⟨by dsimp only; omega, hI.upd H hil', fun _ => ?_, by simp⟩, (by first | omega | (dsimp only; omega)), ⟨by ((repeat' apply And.intro) <;> (first | exact True.intro | exact NEq.refl _ | (refine NEq.int ?_; first | exact rfl | omega | (rw [wrapI (by omega)]; first | exact rfl | omega)))), ⟨⟨rfl, .refl _⟩, ⟨rfl, .refl _⟩, ⟨rfl, .refl _⟩, trivial⟩, .chk hS rfl⟩⟩
          cases hbb : b
          · rw [(hb0 hbb).1] at hlt ⊢; exact hlt
          · exact Nat.lt_trans hlt (hb1 hbb)
        · have heq : ∀ q, q < 4 → stepW o W' i q = W' i q := eq4 (by assumption)
          refine Exists.intro (i, W', b) ⟨⟨by dsimp only; omega, hI, hb1, fun hbb => ⟨(hb0 hbb).1, fun m h1 h2 => ?_⟩⟩, (by first | omega | (dsimp only; omega)), ⟨by ((repeat' apply And.intro) <;> (first | exact True.intro | exact NEq.refl _ | (refine NEq.int ?_; first | exact rfl | omega | (rw [wrapI (by omega)]; first | exact rfl | omega)))), ⟨⟨rfl, .refl _⟩, ⟨rfl, .refl _⟩, ⟨rfl, .refl _⟩, trivial⟩, .chk hS rfl⟩⟩
          by_cases e : m = i
          · subst e; rw [← (hb0 hbb).1]; exact heq
          · exact (hb0 hbb).2 m (by omega) h2
  case pass =>
    rintro ⟨W, v⟩ nv hW
    have hw : IntKind.i64.wrap ((o.irs.length : Int) - 1) = (o.irs.length : Int) - 1 := by rw [IntKind.wrap_i64]; omega
    repeat' (first | refine vcI ?_ | refine And.intro ?_ ?_ | (intro hq; (try simp at hq); (try (exfalso; omega)); (try (revert hq; intro))))
    refine loopS3 mx (by decide) (by kernel_rfl) (fun (j : Nat) (W' : Nat → Nat → Nat) (b : Bool) => j ≤ o.irs.length ∧ InvW o W' ∧ (b = true → unset o.irs.length W' < unset o.irs.length W) ∧ (b = false → W' = W ∧ ∀ m, j ≤ m → m < o.irs.length → ∀ q, q < 4 → stepW o W m q = W m q)) (fun j W' b => [(5, .int .i64 ((j : Int) - 1)), (4, .bool b), (2, .ref (2, 16) v [] 4 0 o.irs.length), (0, .ptr (1, 45) vc [] 0 0)]) (fun j W' b => mem1 o vc vl v W' (useW o)) (fun j W' b => j) o.irs.length W false ⟨Nat.le_refl _, hW, (by simp), fun _ => ⟨rfl, fun m h1 h2 => by omega⟩⟩ ⟨by ((repeat' apply And.intro) <;> (first | exact True.intro | exact NEq.refl _ | (refine NEq.int ?_; first | exact rfl | omega | (rw [wrapI (by omega)]; first | exact rfl | omega)))), ⟨⟨rfl, .refl _⟩, ⟨rfl, .refl _⟩, ⟨rfl, .refl _⟩, trivial⟩, .chk hS rfl⟩ ?_
    intro j W' b nv ⟨hj, hI, hb1, hb0⟩
    rcases j with _ | i
    · repeat' (first | refine vcI ?_ | refine And.intro ?_ ?_ | (intro hq; (try simp at hq); (try (exfalso; omega)); (try (revert hq; intro))))
      · exact Exists.intro (W', v) ⟨⟨hI, hb1 (by assumption)⟩, ⟨by ((repeat' apply And.intro) <;> (first | exact True.intro | exact NEq.refl _ | (refine NEq.int ?_; first | exact rfl | omega | (rw [wrapI (by omega)]; first | exact rfl | omega)))), ⟨⟨rfl, .refl _⟩, ⟨rfl, .refl _⟩, ⟨rfl, .refl _⟩, trivial⟩, .chk hS rfl⟩⟩
      · obtain ⟨rfl, hst⟩ := hb0 ‹_›
        refine Exists.intro (PV.tup []) (Exists.intro _ (And.intro ⟨rfl, rfl⟩ (And.intro (.refl _) (And.intro ⟨⟨rfl, .refl _⟩, ⟨rfl, ?_⟩, trivial⟩ (.chk hS rfl)))))
        refine NEq.owns rfl rfl fun i q hi hq => NEq.of_eq ?_
        rw [InvW.done H hI (fun i hi q hq => hst i (Nat.zero_le _) hi q hq) hi hq]
    have hil' : i < o.irs.length := by omega
    have e5 : ((i + 1 : Nat) : Int) - 1 = (i : Int) := by omega
    rw [e5]
    have hw2 : IntKind.i64.wrap ((i : Int) - 1) = (i : Int) - 1 := by rw [IntKind.wrap_i64]; omega
    repeat' (first | refine vcI ?_ | refine And.intro ?_ ?_ | (intro hq; (try simp at hq); (try (exfalso; omega)); (try (revert hq; intro))))
    refine CallS.nexts o (frW o.irs.length W') i hil' hil (H.op hil') (LeL.cons (view_code (1, 45) (1, 43) rfl rfl 4) (LeL.cons (.refl _) LeL.nil)) ?_
    repeat' (first | refine vcI ?_ | refine And.intro ?_ ?_ | (intro hq; (try simp at hq); (try (exfalso; omega)); (try (revert hq; intro))))
    obtain ⟨g, hg⟩ : ∃ g, g = goesL (o.irs.getD i default) i := ⟨_, rfl⟩
    obtain ⟨pd, hpd⟩ : ∃ pd, pd = padL (o.irs.getD i default) i := ⟨_, rfl⟩
    have hgl : g.length ≤ 2 := by rw [hg]; unfold goesL; split <;> (try split) <;> (try split) <;> (try split) <;> (try split) <;> simp
    have hgk : ∀ k, k < g.length → 0 ≤ (g ++ pd).getD k 0 ∧ (g ++ pd).getD k 0 < (o.irs.length : Int) := fun k hk => by
      rw [getD_app0 _ _ hk]
      have hm : g.getD k 0 ∈ goesL (o.irs.getD i default) i := by rw [← hg, List.getD_eq_getElem?_getD]; exact getD_mem _ hk
      exact H.go i hil' _ hm
    rw [← hg, ← hpd]
    refine loopS3 mx (by decide) (by kernel_rfl) (fun (k v6 v46 : Nat) => k ≤ g.length) (fun k v6 v46 => [(48, .int .i64 k), (47, .int .i64 g.length), (46, .ref (2, 46) v46 [] 1 0 g.length), (6, .ptr (2, 6) v6 [] 0 0), (5, .int .i64 i), (4, .bool b), (2, .ref (2, 16) v [] 4 0 o.irs.length), (0, .ptr (1, 45) vc [] 0 0)]) (fun k v6 v46 => ((2, 6), ⟨v6, .obox 4 (setC (joinL W' (g.take k)))⟩) :: ((2, 46), ⟨v46, oints (g ++ pd)⟩) :: mem1 o vc vl v W' (useW o)) (fun k v6 v46 => g.length - k) 0 _ _ (by simp) ⟨by ((repeat' apply And.intro) <;> (first | exact True.intro | exact NEq.refl _ | (refine NEq.int ?_; first | exact rfl | omega | (rw [wrapI (by omega)]; first | exact rfl | omega)))), ?_, .chk hS rfl⟩ ?_
    · refine ⟨⟨rfl, .obox fun q hq => ?_⟩, ⟨rfl, .refl _⟩, ⟨rfl, .refl _⟩, ⟨rfl, .refl _⟩, ⟨rfl, .refl _⟩, trivial⟩
      rcases (by have : q < 4 := hq; omega : q = 0 ∨ q = 1 ∨ q = 2 ∨ q = 3) with rfl | rfl | rfl | rfl <;> exact .refl _
    intro k v6 v46 nv hk
    repeat' (first | refine vcI ?_ | refine And.intro ?_ ?_ | (intro hq; (try simp at hq); (try (exfalso; omega)); (try (revert hq; intro))))
    · have h1 := hgk k (by assumption)
      rw [Int.toNat_natCast, Nat.zero_add]; omega
    · have h1 := hgk k (by assumption)
      rw [Int.toNat_natCast, Nat.zero_add]; omega
    · rename_i hlt
      refine CallS.onA (L0 := [((2, 6), ⟨v6, .obox 4 (setC (joinL W' (g.take k)))⟩)]) (M := ((2, 46), ⟨v46, oints (g ++ pd)⟩) :: mem1 o vc vl v W' (useW o)) ((setJoin26_spec (joinL W' (g.take k)) (W' (0 + ((g ++ pd).getD (0 + (k : Int).toNat) 0).toNat)) (joinL_lt hI.lt _) (hI.lt _) v6 _ _ (Above.chk rfl (hS.mono (by decide)))).less ?_) (fun r => ?_) ?_
      · refine LeL.cons (.refl _) (LeL.cons ?_ LeL.nil)
        show NEq (.agg (List.map _ (List.range (Tryz.prog.cellsOf 68)))) _
        rw [show Tryz.prog.cellsOf 68 = 4 by kernel_rfl]
        exact .refl _
      · rfl
      rintro x L' nv' ⟨rfl, rfl⟩
      have hw : IntKind.i64.wrap ((k : Int) + 1) = ((k + 1 : Nat) : Int) := wrapI (by omega)
      repeat' (first | refine vcI ?_ | refine And.intro ?_ ?_ | (intro hq; (try simp at hq); (try (exfalso; omega)); (try (revert hq; intro))))
      refine Exists.intro (k + 1, v6, v46) ⟨by dsimp only; omega, (by first | omega | (dsimp only; omega)), ⟨by ((repeat' apply And.intro) <;> (first | exact True.intro | exact NEq.refl _ | (refine NEq.int ?_; first | exact rfl | omega | (rw [wrapI (by omega)]; first | exact rfl | omega)))), ⟨⟨rfl, ?_⟩, ⟨rfl, .refl _⟩, ⟨rfl, .refl _⟩, ⟨rfl, .refl _⟩, ⟨rfl, .refl _⟩, trivial⟩, .chk hS rfl⟩⟩
      show NEq _ (.obox 4 (setC (joinL W' (g.take (k + 1)))))
      rw [take_succD 0 hlt, joinL_snoc, Int.toNat_natCast, Nat.zero_add, Nat.zero_add, getD_app0 _ _ hlt]
      exact .refl _
    · show 0 ≤ (o.irs.getD i default).op; have := H.op hil'; omega
    · show (o.irs.getD i default).op < _; have := H.op hil'; omega
    · rw [cRow]; decide
    · rw [cRow]; show 0 + 12 + (o.irs.getD i default).op.toNat * 4 + 1 ≤ 81; have := H.op hil'; omega
    · show 0 + 12 + (o.irs.getD i default).op.toNat * Tryz.prog.cellsOf 71 + 1 + Tryz.prog.cellsOf 4 ≤ 81
      rw [cRow, show Tryz.prog.cellsOf 4 = 1 by kernel_rfl]; have := H.op hil'; omega
    · rw [show Tryz.prog.cellsOf 4 = 1 by kernel_rfl]; decide
    rw [mk_sets o _ _ (H.op hil') (by rw [cRow]; show 0 + 12 + (o.irs.getD i default).op.toNat * 4 + 1 = _; omega)]
    repeat' (first | refine vcI ?_ | refine And.intro ?_ ?_ | (intro hq; (try simp at hq); (try (exfalso; omega)); (try (revert hq; intro))))
    · have hd0 := H.d hil' (by assumption)
      show 0 ≤ IntKind.i64.wrap ((o.irs.getD i default).d.tdiv 64)
      rw [wdiv64 hd0]; omega
    · have hd0 := H.d hil' (by assumption)
      show IntKind.i64.wrap ((o.irs.getD i default).d.tdiv 64) < 4
      rw [wdiv64 hd0]; omega
    · rw [cW]; decide
    · have hd0 := H.d hil' (by assumption)
      show 0 + (IntKind.i64.wrap ((o.irs.getD i default).d.tdiv 64)).toNat * Tryz.prog.cellsOf 66 + Tryz.prog.cellsOf 66 ≤ 4
      rw [cW, wdiv64 hd0]; omega
    · rw [cW]; decide
    · have hd0 := H.d hil' (by assumption)
      show 0 ≤ (o.irs.getD i default).d.tmod 64
      exact Int.tmod_nonneg _ hd0.1
    · have hd0 := H.d hil' (by assumption)
      show 0 ≤ IntKind.i64.wrap ((o.irs.getD i default).d.tdiv 64)
      rw [wdiv64 hd0]; omega
    · have hd0 := H.d hil' (by assumption)
      show IntKind.i64.wrap ((o.irs.getD i default).d.tdiv 64) < 4
      rw [wdiv64 hd0]; omega
    · rw [cW]; decide
    · have hd0 := H.d hil' (by assumption)
      show 0 + (IntKind.i64.wrap ((o.irs.getD i default).d.tdiv 64)).toNat * Tryz.prog.cellsOf 66 + 1 ≤ 4
      rw [cW, wdiv64 hd0]; omega
    · have hkg : k = g.length := by omega
      have hsb : setsB (o.irs.getD i default).op = true := by assumption
      refine CallS.on1e (r := (2, 6)) (v := v6) (node' := .obox 4 (setC (clrW (joinL W' g) (o.irs.getD i default).d.toNat))) (n := 3) rfl ?_ ?_ (Above.chk rfl (hS.mono (by decide))) (fun S' hS' => setJoin26_spec (clrW (joinL W' g) (o.irs.getD i default).d.toNat) (useW o (0 + (i : Int).toNat)) (clrW_lt (joinL_lt hI.lt _) _) (useW_lt o _) v6 _ S' hS') ?_
      · exact congrArg (PV.obox 4) (funext fun b => clr_node (H.d hil' (by assumption)) (joinL_lt hI.lt (g.take k)) (by rw [hkg, List.take_length]) b)
      · refine LeL.cons (.refl _) (LeL.cons ?_ LeL.nil)
        show NEq (.agg (List.map _ (List.range (Tryz.prog.cellsOf 68)))) _
        rw [show Tryz.prog.cellsOf 68 = 4 by kernel_rfl]
        exact .refl _
      rintro x L' nv' ⟨rfl, rfl⟩
      have ei : 0 + (i : Int).toNat = i := by omega
      have es : stepW o W' i = joinW (clrW (joinL W' g) (o.irs.getD i default).d.toNat) (useW o i) 4 := (by unfold stepW; rw [if_pos hsb, ← hg])
      rw [ei]
      rw [← es]
      repeat' (first | refine vcI ?_ | refine And.intro ?_ ?_ | (intro hq; (try simp at hq); (try (exfalso; omega)); (try (revert hq; intro))))
      · rfl
      · have hne : ∃ q, q < 4 ∧ stepW o W' i q ≠ W' i q := ne4 (by assumption)
        refine Exists.intro (owW o.irs.length (updW W' i (stepW o W' i))) (And.intro ?_ (And.intro rfl ?_))
        · rw [show Tryz.prog.cellsOf 68 = 4 by kernel_rfl]
          refine NEq.owns rfl rfl fun a b ha hb => row_at (us := stepW o W' i) hb ?_
          rfl
        repeat' (first | refine vcI ?_ | refine And.intro ?_ ?_ | (intro hq; (try simp at hq); (try (exfalso; omega)); (try (revert hq; intro))))
        have hlt := unset_upd hI hil' hne
        refine Exists.intro (i, updW W' i (stepW o W' i), true) ⟨⟨by dsimp only; omega, hI.upd H hil', fun _ => ?_, by simp⟩, (by first | omega | (dsimp only; omega)), ⟨by ((repeat' apply And.intro) <;> (first | exact True.intro | exact NEq.refl _ | (refine NEq.int ?_; first | exact rfl | omega | (rw [wrapI (by omega)]; first | exact rfl | omega)))), ⟨⟨rfl, .refl _⟩, ⟨rfl, .refl _⟩, ⟨rfl, .refl _⟩, trivial⟩, .chk hS rfl⟩⟩
        cases hbb : b
        · rw [(hb0 hbb).1] at hlt ⊢; exact hlt
        · exact Nat.lt_trans hlt (hb1 hbb)
      · have heq : ∀ q, q < 4 → stepW o W' i q = W' i q := eq4 (by assumption)
        refine Exists.intro (i, W', b) ⟨⟨by dsimp only; omega, hI, hb1, fun hbb => ⟨(hb0 hbb).1, fun m h1 h2 => ?_⟩⟩, (by first | omega | (dsimp only; omega)), ⟨by ((repeat' apply And.intro) <;> (first | exact True.intro | exact NEq.refl _ | (refine NEq.int ?_; first | exact rfl | omega | (rw [wrapI (by omega)]; first | exact rfl | omega)))), ⟨⟨rfl, .refl _⟩, ⟨rfl, .refl _⟩, ⟨rfl, .refl _⟩, trivial⟩, .chk hS rfl⟩⟩
        by_cases e : m = i
        · subst e; rw [← (hb0 hbb).1]; exact heq
        · exact (hb0 hbb).2 m (by omega) h2
    · have hkg : k = g.length := by omega
      have hsf : setsB (o.irs.getD i default).op = false := by assumption
      have hsb : ¬ setsB (o.irs.getD i default).op = true := by rw [hsf]; simp
      repeat' (first | refine vcI ?_ | refine And.intro ?_ ?_ | (intro hq; (try simp at hq); (try (exfalso; omega)); (try (revert hq; intro))))
      refine CallS.on1e (r := (2, 6)) (v := v6) (node' := .obox 4 (setC (joinL W' g))) (n := 3) rfl ?_ ?_ (Above.chk rfl (hS.mono (by decide))) (fun S' hS' => setJoin26_spec (joinL W' g) (useW o (0 + (i : Int).toNat)) (joinL_lt hI.lt _) (useW_lt o _) v6 _ S' hS') ?_
      · rw [hkg, List.take_length]
      · refine LeL.cons (.refl _) (LeL.cons ?_ LeL.nil)
        show NEq (.agg (List.map _ (List.range (Tryz.prog.cellsOf 68)))) _
        rw [show Tryz.prog.cellsOf 68 = 4 by kernel_rfl]
        exact .refl _
      rintro x L' nv' ⟨rfl, rfl⟩
      have ei : 0 + (i : Int).toNat = i := by omega
      have es : stepW o W' i = joinW (joinL W' g) (useW o i) 4 := (by unfold stepW; rw [if_neg hsb, ← hg])
      rw [ei]
      rw [← es]
      repeat' (first | refine vcI ?_ | refine And.intro ?_ ?_ | (intro hq; (try simp at hq); (try (exfalso; omega)); (try (revert hq; intro))))
      · rfl
      · have hne : ∃ q, q < 4 ∧ stepW o W' i q ≠ W' i q := ne4 (by assumption)
        refine Exists.intro (owW o.irs.length (updW W' i (stepW o W' i))) (And.intro ?_ (And.intro rfl ?_))
        · rw [show Tryz.prog.cellsOf 68 = 4 by kernel_rfl]
          refine NEq.owns rfl rfl fun a b ha hb => row_at (us := stepW o W' i) hb ?_
          rfl
        repeat' (first | refine vcI ?_ | refine And.intro ?_ ?_ | (intro hq; (try simp at hq); (try (exfalso; omega)); (try (revert hq; intro))))
        have hlt := unset_upd hI hil' hne
        refine Exists.intro (i, updW W' i (stepW o W' i), true) ⟨⟨by dsimp only; omega, hI.upd H hil', fun _ => ?_, by simp⟩, (by first | omega | (dsimp only; omega)), ⟨by ((repeat' apply And.intro) <;> (first | exact True.intro | exact NEq.refl _ | (refine NEq.int ?_; first | exact rfl | omega | (rw [wrapI (by omega)]; first | exact rfl | omega)))), ⟨⟨rfl, .refl _⟩, ⟨rfl, .refl _⟩, ⟨rfl, .refl _⟩, trivial⟩, .chk hS rfl⟩⟩
        cases hbb : b
        · rw [(hb0 hbb).1] at hlt ⊢; exact hlt
        · exact Nat.lt_trans hlt (hb1 hbb)
      · have heq : ∀ q, q < 4 → stepW o W' i q = W' i q := eq4 (by assumption)
        refine Exists.intro (i, W', b) ⟨⟨by dsimp only; omega, hI, hb1, fun hbb => ⟨(hb0 hbb).1, fun m h1 h2 => ?_⟩⟩, (by first | omega | (dsimp only; omega)), ⟨by ((repeat' apply And.intro) <;> (first | exact True.intro | exact NEq.refl _ | (refine NEq.int ?_; first | exact rfl | omega | (rw [wrapI (by omega)]; first | exact rfl | omega)))), ⟨⟨rfl, .refl _⟩, ⟨rfl, .refl _⟩, ⟨rfl, .refl _⟩, trivial⟩, .chk hS rfl⟩⟩
        by_cases e : m = i
        · subst e; rw [← (hb0 hbb).1]; exact heq
        · exact (hb0 hbb).2 m (by omega) h2
end Go.Ab
namespace Go.Ab
open Go.Proofs
set_option maxRecDepth 100000
set_option maxHeartbeats 4000000

/-- What shaped code is. -/
structure OpenP (o : DO) : Prop where
  ne : 0 < o.irs.length
  le : o.irs.length ≤ 600
  hd : o.descs.length = o.irs.length
  ht : o.types.length = o.irs.length
  r1 : 1 ≤ o.regs
  r2 : o.regs ≤ 250
  ty : ∀ i, i < o.irs.length → (((o.types.getD i []).length : Nat) : Int) = o.regs
  sh : ∀ i, i < o.irs.length → shapedX o (o.irs.getD i default) (o.descs.getD i []) = true
  la : fallsB (o.irs.getD (o.irs.length - 1) default).op = false

theorem OpenP.fl {o : DO} (H : OpenP o) (hf : fewN o ≤ 6000) (hs : ∀ l ∈ o.descs, l.length ≤ 1048576 ∧ ∀ f ∈ l, f.small) : FlH o := by
  refine ⟨hf, H.r2, H.hd, hs, H.sh, H.ne, fun i hi k hk => ?_⟩
  have hsh := H.sh i hi
  simp only [shapedX, Bool.and_eq_true, decide_eq_true_eq, Bool.not_eq_true'] at hsh
  obtain ⟨s1, s2, s3, s4, s5, s6, s7⟩ := hsh
  have hn : goesB (o.irs.getD i default).op = true → 0 ≤ (o.irs.getD i default).n ∧ (o.irs.getD i default).n < (o.irs.length : Int) := fun hg => by
    unfold swB at s4
    rw [hg] at s4
    cases hb : insB o.irs.length (o.irs.getD i default).n
    · rw [hb] at s4; simp at s4
    · simpa [insB] using hb
  have hf1 : fallsB (o.irs.getD i default).op = true → (i : Int) + 1 < (o.irs.length : Int) := fun h1 => by
    have : i ≠ o.irs.length - 1 := fun e => by rw [e, H.la] at h1; cases h1
    have := H.ne
    omega
  unfold goesL at hk
  unfold goesB at hn
  unfold fallsB at hf1
  generalize (o.irs.getD i default).op = op at *
  split at hk
  · rename_i e; subst e
    simp only [List.mem_singleton] at hk
    subst hk
    exact hn rfl
  · split at hk
    · simp at hk
    · rename_i e1 e2
      have hf2 := hf1 (by simp; omega)
      split at hk
      · rename_i e3
        have hn2 := hn (by rcases e3 with rfl | rfl <;> rfl)
        split at hk
        · simp only [List.mem_singleton] at hk; subst hk; omega
        · split at hk
          · simp only [List.mem_cons, List.not_mem_nil, or_false] at hk
            rcases hk with rfl | rfl <;> omega
          · simp only [List.mem_cons, List.not_mem_nil, or_false] at hk
            rcases hk with rfl | rfl <;> omega
      · simp only [List.mem_singleton] at hk; subst hk; omega

open Classical in
noncomputable def openR (o : DO) : PV := if OpenP o then .tup [codeP o (frW o.irs.length fun i => wordsP (LiveP o i)), .int .i64 0] else .tup [.nilp, .int .i64 210]
theorem openR_ok {o : DO} (H : OpenP o) : openR o = .tup [codeP o (frW o.irs.length fun i => wordsP (LiveP o i)), .int .i64 0] := if_pos H
theorem openR_bad {o : DO} (H : ¬ OpenP o) : openR o = .tup [.nilp, .int .i64 210] := if_neg H

theorem mk_falls {vc : Nat} (o : DO) (lv : PV) (op : Int) {off : Nat} (h : 1 ≤ op ∧ op ≤ 16) (hoff : off = 12 + op.toNat * 4 + 2) : mkV Tryz.prog 4 (fun j => cellV (1, 45) vc [] 0 j (codeC o lv j)) off = .bool (fallsB op) := by
  subst hoff
  have key : ∀ n : Nat, 1 ≤ n ∧ n ≤ 16 → mkV Tryz.prog 4 (fun j => cellV (1, 45) vc [] 0 j (codeC o lv j)) (12 + n * 4 + 2) = .bool (fallsB (n : Int)) := by
    intro n hn
    rcases (by omega : n = 1 ∨ n = 2 ∨ n = 3 ∨ n = 4 ∨ n = 5 ∨ n = 6 ∨ n = 7 ∨ n = 8 ∨ n = 9 ∨ n = 10 ∨ n = 11 ∨ n = 12 ∨ n = 13 ∨ n = 14 ∨ n = 15 ∨ n = 16) with rfl | rfl | rfl | rfl | rfl | rfl | rfl | rfl | rfl | rfl | rfl | rfl | rfl | rfl | rfl | rfl <;> rfl
  have h2 := key op.toNat (by omega)
  rw [Int.toNat_of_nonneg (by omega)] at h2
  exact h2
def mem46 (o : DO) (vc vl : Nat) : Hp := [((1, 45), ⟨vc, .obox 81 (codeC o (.ref (1, 43) vl [] 4 0 o.irs.length))⟩), ((1, 43), ⟨vl, owW o.irs.length fun _ _ => 0⟩), ((1, 1), ⟨0, .obox 12 (rowL (dol o))⟩)]
theorem open_spec (o : DO) (hf : fewN o ≤ 6000) (hs : ∀ l ∈ o.descs, l.length ≤ 1048576 ∧ ∀ f ∈ l, f.small) : CallsF Tryz.prog 30 [.agg (dol o)] (openR o) := by
  have hil : o.irs.length ≤ 6000 := by unfold fewN at hf; omega
  have hdl : o.descs.length ≤ 6000 := by unfold fewN at hf; omega
  have htl : o.types.length ≤ 6000 := by unfold fewN at hf; omega
  refine callsF_ofS mx Tryz.call30 Tryz.func30 rfl Tryz.ntmps30 Tryz.results30 (by kernel_rfl) (by simp) fun lo => ?_
  repeat' (first | refine vcI ?_ | refine And.intro ?_ ?_ | (intro hq; (try simp at hq); (try (exfalso; omega)); (try (revert hq; intro))))
  · simp; omega
  · simp; omega
  · rw [openR_bad fun H => by have h1 := H.ne; have h2 := H.le; have h3 := H.hd; have h4 := H.ht; have h5 := H.r1; have h6 := H.r2; omega]; exact .refl _
  · refine QS.frozen (.agg rowsL) table_spec (plainAll rfl) ?_
    repeat' (first | refine vcI ?_ | refine And.intro ?_ ?_ | (intro hq; (try simp at hq); (try (exfalso; omega)); (try (revert hq; intro))))
    · rw [show Tryz.prog.bytesOf 68 = 32 by kernel_rfl]; omega
    · rfl
    · kernel_rfl
    rw [show Tryz.prog.cellsOf 32 = 12 by kernel_rfl]
    repeat' (first | refine vcI ?_ | refine And.intro ?_ ?_ | (intro hq; (try simp at hq); (try (exfalso; omega)); (try (revert hq; intro))))
    have hcon : 0 < o.irs.length ∧ o.irs.length ≤ 600 ∧ o.descs.length = o.irs.length ∧ o.types.length = o.irs.length ∧ 1 ≤ o.regs ∧ o.regs ≤ 250 := by omega
    obtain ⟨c1, c2, c3, c4, c5, c6⟩ := hcon
    refine loopS3 mx (by decide) (by kernel_rfl) (fun (k vc vl : Nat) => k ≤ o.irs.length ∧ ∀ i, i < k → (((o.types.getD i []).length : Nat) : Int) = o.regs ∧ shapedX o (o.irs.getD i default) (o.descs.getD i []) = true) (fun k vc vl => [(47, .int .i64 k), (46, .int .i64 o.irs.length), (5, .ptr (1, 45) vc [] 0 0), (4, .int .i64 o.irs.length), (1, .ptr (1, 1) 0 [] 0 0)]) (fun k vc vl => mem46 o vc vl) (fun k vc vl => o.irs.length - k) 0 _ _ ⟨by simp, fun i hi => by omega⟩ ⟨by ((repeat' apply And.intro) <;> (first | exact True.intro | exact NEq.refl _ | (refine NEq.int ?_; first | exact rfl | omega | (rw [wrapI (by omega)]; first | exact rfl | omega)))), ⟨⟨rfl, .obox ?_⟩, ⟨rfl, NEq.owns rfl (by simp) ?_⟩, ⟨rfl, .refl _⟩, trivial⟩, .nil⟩ ?_
    · intro q hq
      exact NEq.of_eq (congrArg (fun l => rowL l q) (by rfl : _ = codeL o (.ref (1, 43) _ [] 4 0 o.irs.length)))
    · intro i q hi hq
      rcases (by have : q < 4 := hq; omega : q = 0 ∨ q = 1 ∨ q = 2 ∨ q = 3) with rfl | rfl | rfl | rfl <;> exact .refl _
    rintro k vc vl nv ⟨hk, hI⟩
    repeat' (first | refine vcI ?_ | refine And.intro ?_ ?_ | (intro hq; (try simp at hq); (try (exfalso; omega)); (try (revert hq; intro))))
    · rename_i hlt hty
      have hview : NEq (view 9 (mem46 o vc vl ++ []) (.ptr (1, 45) vc [] 0 0)) (codeP o (frW o.irs.length fun _ _ => 0)) := view_code (1, 45) (1, 43) rfl rfl 4
      have hk2 : k < o.irs.length := by omega
      have hty2 : (((o.types.getD (k : Int).toNat []).length : Nat) : Int) = o.regs := by first | exact hty | exact hlt
      have hbt : ((((o.types.getD (k : Int).toNat []).length : Nat) : Int) != o.regs) = false := by rw [hty2]; simp
      rw [hbt]
      have hspec := shaped_spec o (frW o.irs.length fun _ _ => 0) k hk2 (by omega) hf hs
      rcases hsx : shapedX o (o.irs.getD k default) (o.descs.getD k []) with _ | _
      · rw [hsx] at hspec
        refine CallS.plain [codeP o (frW o.irs.length fun _ _ => 0), .int .i64 k] (.bool false) hspec ?_ trivial ?_
        · exact LeL.cons hview (LeL.cons (.refl _) LeL.nil)
        repeat' (first | refine vcI ?_ | refine And.intro ?_ ?_ | (intro hq; (try simp at hq); (try (exfalso; omega)); (try (revert hq; intro))))
        rw [openR_bad fun H => by have h1 := H.sh k hk2; rw [hsx] at h1; cases h1]
        exact .refl _
      · rw [hsx] at hspec
        refine CallS.plain [codeP o (frW o.irs.length fun _ _ => 0), .int .i64 k] (.bool true) hspec ?_ trivial ?_
        · exact LeL.cons hview (LeL.cons (.refl _) LeL.nil)
        have hw : IntKind.i64.wrap ((k : Int) + 1) = ((k + 1 : Nat) : Int) := wrapI (by omega)
        repeat' (first | refine vcI ?_ | refine And.intro ?_ ?_ | (intro hq; (try simp at hq); (try (exfalso; omega)); (try (revert hq; intro))))
        refine Exists.intro (k + 1, vc, vl) ⟨⟨by dsimp only; omega, fun i hi => ?_⟩, (by first | omega | (dsimp only; omega)), ⟨by ((repeat' apply And.intro) <;> (first | exact True.intro | exact NEq.refl _ | (refine NEq.int ?_; first | exact rfl | omega | (rw [wrapI (by omega)]; first | exact rfl | omega)))), ⟨⟨rfl, .refl _⟩, ⟨rfl, .refl _⟩, ⟨rfl, .refl _⟩, trivial⟩, .nil⟩⟩
        by_cases e : i = k
        · subst e; exact ⟨hty2, hsx⟩
        · exact hI i (by omega)
    · rw [openR_bad fun H => absurd (H.ty k (by omega)) (by assumption)]
      exact .refl _
    all_goals
      obtain rfl : k = o.irs.length := by omega
      have hwn : IntKind.i64.wrap ((o.irs.length : Int) - 1) = ((o.irs.length - 1 : Nat) : Int) := by rw [IntKind.wrap_i64]; omega
      obtain ⟨hty, hsx⟩ := hI (o.irs.length - 1) (by omega)
      have hop : 1 ≤ (o.irs.getD (o.irs.length - 1) default).op ∧ (o.irs.getD (o.irs.length - 1) default).op ≤ 16 := by
        simp only [shapedX, Bool.and_eq_true, decide_eq_true_eq, Bool.not_eq_true'] at hsx
        exact ⟨hsx.1, hsx.2.1⟩
      try rw [hwn]
      try rw [Int.toNat_natCast]
      try rw [cRow]
      try rw [show Tryz.prog.cellsOf 4 = 1 by kernel_rfl]
    · omega
    · omega
    · omega
    · show _ < (17 : Int); omega
    · decide
    · show 0 + 12 + (o.irs.getD (o.irs.length - 1) default).op.toNat * 4 + 2 ≤ 81; omega
    · show 0 + 12 + (o.irs.getD (o.irs.length - 1) default).op.toNat * 4 + 2 + 1 ≤ 81; omega
    · decide
    rw [mk_falls o _ _ hop (by show 0 + 12 + (o.irs.getD (o.irs.length - 1) default).op.toNat * 4 + 2 = _; omega)]
    repeat' (first | refine vcI ?_ | refine And.intro ?_ ?_ | (intro hq; (try simp at hq); (try (exfalso; omega)); (try (revert hq; intro))))
    · rw [openR_bad fun H => by have h1 := H.la; simp_all]
      exact .refl _
    · have HO : OpenP o := ⟨c1, c2, c3, c4, c5, c6, fun i hi => (hI i hi).1, fun i hi => (hI i hi).2, by assumption⟩
      refine CallS.onA (L0 := mem0 o vc vl fun _ _ => 0) (M := [((1, 1), ⟨0, .obox 12 (rowL (dol o))⟩)]) (flow_spec o (HO.fl hf hs) vc vl _ _ (Above.chk rfl Above.nil)) (fun r => rfl) ?_
      rintro x L' nv' ⟨rfl, rfl⟩
      repeat' (first | refine vcI ?_ | refine And.intro ?_ ?_ | (intro hq; (try simp at hq); (try (exfalso; omega)); (try (revert hq; intro))))
      rw [openR_ok HO]
      exact NEq.tup2 (view_code (1, 45) (1, 43) rfl rfl 3) (.refl _)
  · rw [openR_bad fun H => by have h1 := H.ne; have h2 := H.le; have h3 := H.hd; have h4 := H.ht; have h5 := H.r1; have h6 := H.r2; omega]; exact .refl _
  · rw [openR_bad fun H => by have h1 := H.ne; have h2 := H.le; have h3 := H.hd; have h4 := H.ht; have h5 := H.r1; have h6 := H.r2; omega]; exact .refl _
end Go.Ab
namespace Go.Ab
open Go.Proofs
set_option maxRecDepth 100000
set_option maxHeartbeats 4000000

noncomputable def liveL (o : DO) (i : Nat) : List Int := listW (wordsP (LiveP o i)) 250
open Classical in
noncomputable def liveE (o : DO) (i : Int) : List Int × Int := if OpenP o then (if 0 ≤ i ∧ i < (o.irs.length : Int) then (liveL o i.toNat, 0) else ([], 3)) else ([], 210)
open Classical in
noncomputable def nextE (o : DO) (i : Int) : List Int × Int := if OpenP o then (if 0 ≤ i ∧ i < (o.irs.length : Int) then (goesL (o.irs.getD i.toNat default) i.toNat, 0) else ([], 3)) else ([], 210)
def ansE (x : List Int × Int) : PV := .tup [ints x.1, .int .i64 x.2]

theorem ans_nils (e : Int) : NEq (.tup [.nils, .int .i64 e]) (ansE ([], e)) := NEq.tup2 .nils (.refl _)
theorem insB_yes {n : Nat} {i : Int} (h : 0 ≤ i ∧ i < (n : Int)) : insB n i = true := by simp [insB, h]
theorem insB_no {n : Nat} {i : Int} (h : ¬ (0 ≤ i ∧ i < (n : Int))) : insB n i = false := by simp only [insB, h, decide_false]

theorem cOpt : Tryz.prog.cellsOf 32 = 12 := by kernel_rfl
theorem mk_opt (o : DO) (r : RId) (v : Nat) : mkV Tryz.prog 32 (fun j => cellV r v [] 0 j (rowL (dol o) j)) 0 = .agg (dol o) := by
  show PV.agg (List.map _ (List.range (Tryz.prog.cellsOf 32))) = _
  rw [cOpt]; rfl
theorem Live_spec (o : DO) (i : Int) (hf : fewN o ≤ 6000) (hs : ∀ l ∈ o.descs, l.length ≤ 1048576 ∧ ∀ f ∈ l, f.small) : CallsF Tryz.prog 8 [.agg (dol o), .int .i64 i] (ansE (liveE o i)) := by
  have ho := open_spec o hf hs
  refine callsF_ofS mx Tryz.call8 Tryz.func8 rfl Tryz.ntmps8 Tryz.results8 (by kernel_rfl) (by simp) fun lo => ?_
  repeat' (first | refine vcI ?_ | refine And.intro ?_ ?_ | (intro hq; (try simp at hq); (try (exfalso; omega)); (try (revert hq; intro))))
  rw [mk_opt]
  by_cases HO : OpenP o
  · rw [openR_ok HO] at ho
    refine CallS.frozen (.tup [codeP o (frW o.irs.length fun i => wordsP (LiveP o i)), .int .i64 0]) ho (plainAll rfl) ?_
    repeat' (first | refine vcI ?_ | refine And.intro ?_ ?_ | (intro hq; (try simp at hq); (try (exfalso; omega)); (try (revert hq; intro))))
    by_cases hi : 0 ≤ i ∧ i < (o.irs.length : Int)
    · refine CallS.frozen (.bool true) (insIr_spec o.irs (insB_yes hi)) (plainAll rfl) ?_
      repeat' (first | refine vcI ?_ | refine And.intro ?_ ?_ | (intro hq; (try simp at hq); (try (exfalso; omega)); (try (revert hq; intro))))
      refine CallS.own (oints (listW (wordsP (LiveP o i.toNat)) 250)) (fun id ver => .ref id ver [] 1 0 (listW (wordsP (LiveP o i.toNat)) 250).length) (setList_spec _ (wordsP_lt _)) (plainAll rfl) ?_
      repeat' (first | refine vcI ?_ | refine And.intro ?_ ?_ | (intro hq; (try simp at hq); (try (exfalso; omega)); (try (revert hq; intro))))
      rw [show liveE o i = (liveL o i.toNat, 0) by unfold liveE; rw [if_pos HO, if_pos hi]]
      exact NEq.tup2 (NEq.frzs rfl (by simp; rfl) fun a b ha hb => by show NEq (.int .i64 ((listW (wordsP (LiveP o i.toNat)) 250).getD (0 + a) 0)) _; rw [Nat.zero_add]; exact .refl _) (.refl _)
    · refine CallS.frozen (.bool false) (insIr_spec o.irs (insB_no hi)) (plainAll rfl) ?_
      repeat' (first | refine vcI ?_ | refine And.intro ?_ ?_ | (intro hq; (try simp at hq); (try (exfalso; omega)); (try (revert hq; intro))))
      rw [show liveE o i = ([], 3) by unfold liveE; rw [if_pos HO, if_neg hi]]
      exact ans_nils 3
  · rw [openR_bad HO] at ho
    refine CallS.frozen (.tup [.nilp, .int .i64 210]) ho (plainAll rfl) ?_
    repeat' (first | refine vcI ?_ | refine And.intro ?_ ?_ | (intro hq; (try simp at hq); (try (exfalso; omega)); (try (revert hq; intro))))
    rw [show liveE o i = ([], 210) by unfold liveE; rw [if_neg HO]]
    exact ans_nils 210
theorem mem_listW {ws : Nat → Nat} {n : Nat} {r : Int} : r ∈ listW ws n ↔ ∃ q : Nat, q < n ∧ bitW ws q = true ∧ r = q := by
  induction n with
  | zero => simp [listW]
  | succ n ih =>
    cases h : bitW ws n
    · rw [listW_no h, ih]
      constructor
      · rintro ⟨q, h1, h2⟩; exact ⟨q, by omega, h2⟩
      · rintro ⟨q, h1, h2, h3⟩
        by_cases e : q = n
        · subst e; rw [h] at h2; cases h2
        · exact ⟨q, by omega, h2, h3⟩
    · rw [listW_yes h, List.mem_append, ih]
      constructor
      · rintro (⟨q, h1, h2⟩ | h1)
        · exact ⟨q, by omega, h2⟩
        · rw [List.mem_singleton] at h1; exact ⟨n, by omega, h, h1⟩
      · rintro ⟨q, h1, h2, h3⟩
        by_cases e : q = n
        · subst e; exact .inr (by rw [h3]; simp)
        · exact .inl ⟨q, by omega, h2, h3⟩
theorem goesL_len (x : DI) (i : Nat) : (goesL x i).length ≤ 2 := by
  unfold goesL; split <;> (try split) <;> (try split) <;> (try split) <;> (try split) <;> simp
theorem Next_spec (o : DO) (i : Int) (hf : fewN o ≤ 6000) (hs : ∀ l ∈ o.descs, l.length ≤ 1048576 ∧ ∀ f ∈ l, f.small) : CallsF Tryz.prog 12 [.agg (dol o), .int .i64 i] (ansE (nextE o i)) := by
  have ho := open_spec o hf hs
  refine callsF_ofS mx Tryz.call12 Tryz.func12 rfl Tryz.ntmps12 Tryz.results12 (by kernel_rfl) (by simp) fun lo => ?_
  repeat' (first | refine vcI ?_ | refine And.intro ?_ ?_ | (intro hq; (try simp at hq); (try (exfalso; omega)); (try (revert hq; intro))))
  rw [mk_opt]
  by_cases HO : OpenP o
  · rw [openR_ok HO] at ho
    refine CallS.frozen (.tup [codeP o (frW o.irs.length fun i => wordsP (LiveP o i)), .int .i64 0]) ho (plainAll rfl) ?_
    repeat' (first | refine vcI ?_ | refine And.intro ?_ ?_ | (intro hq; (try simp at hq); (try (exfalso; omega)); (try (revert hq; intro))))
    by_cases hi : 0 ≤ i ∧ i < (o.irs.length : Int)
    · refine CallS.frozen (.bool true) (insIr_spec o.irs (insB_yes hi)) (plainAll rfl) ?_
      repeat' (first | refine vcI ?_ | refine And.intro ?_ ?_ | (intro hq; (try simp at hq); (try (exfalso; omega)); (try (revert hq; intro))))
      obtain ⟨k, rfl⟩ := Int.eq_ofNat_of_zero_le hi.1
      refine CallS.own (oints (goesL (o.irs.getD k default) k ++ padL (o.irs.getD k default) k)) (fun id ver => .ref id ver [] 1 0 (goesL (o.irs.getD k default) k).length) (nexts_spec o _ k (by omega) (by have := HO.le; omega) ((HO.fl hf hs).op (by omega))) (plainAll rfl) ?_
      repeat' (first | refine vcI ?_ | refine And.intro ?_ ?_ | (intro hq; (try simp at hq); (try (exfalso; omega)); (try (revert hq; intro))))
      rw [show nextE o k = (goesL (o.irs.getD k default) k, 0) by unfold nextE; rw [if_pos HO, if_pos hi]; rfl]
      exact NEq.tup2 (NEq.frzs rfl (by simp) fun a b ha hb => by show NEq (.int .i64 ((goesL (o.irs.getD k default) k ++ padL (o.irs.getD k default) k).getD (0 + a) 0)) _; rw [Nat.zero_add, getD_app0 _ _ ha]; exact .refl _) (.refl _)
    · refine CallS.frozen (.bool false) (insIr_spec o.irs (insB_no hi)) (plainAll rfl) ?_
      repeat' (first | refine vcI ?_ | refine And.intro ?_ ?_ | (intro hq; (try simp at hq); (try (exfalso; omega)); (try (revert hq; intro))))
      rw [show nextE o i = ([], 3) by unfold nextE; rw [if_pos HO, if_neg hi]]
      exact ans_nils 3
  · rw [openR_bad HO] at ho
    refine CallS.frozen (.tup [.nilp, .int .i64 210]) ho (plainAll rfl) ?_
    repeat' (first | refine vcI ?_ | refine And.intro ?_ ?_ | (intro hq; (try simp at hq); (try (exfalso; omega)); (try (revert hq; intro))))
    rw [show nextE o i = ([], 210) by unfold nextE; rw [if_neg HO]]
    exact ans_nils 210
end Go.Ab
namespace Go.Ab
open Go.Proofs
set_option maxRecDepth 100000
set_option maxHeartbeats 1000000

theorem joinAt_spec (n i : Nat) (hi : i < n) (W : Nat → Nat → Nat) (us : Nat → Nat) (hw : ∀ a o, W a o < 18446744073709551616) (hu : ∀ o, us o < 18446744073709551616) (v nv : Nat) (S : Hp) (hS : Above 3 S) :
    CallsA Tryz.prog 88 [.ptr (1, 14) v [] i 0, aggW us] ([((1, 14), ⟨v, owW n W⟩)] ++ S) nv
      fun x hp' nv' => ∃ L', hp' = L' ++ S ∧ (x = .tup [] ∧ L' = [((1, 14), ⟨v, owW n (updW W i (joinW (W i) us 4))⟩)]) := by
  refine callsA_ofS (lv := 3) (by decide) mx Tryz.call88 Tryz.func88 rfl Tryz.ntmps88 Tryz.results88 (by kernel_rfl) (by simp) fun lo => ?_
  repeat' (first | refine vcI ?_ | refine And.intro ?_ ?_ | (intro hq; (try simp at hq); (try (exfalso; omega)); (try (revert hq; intro))))
  refine loopS mx (by decide) (by kernel_rfl) (fun k : Nat => k ≤ 4) (fun k => [(5, .int .i64 k), (0, .ptr (1, 14) v [] i 0), (3, .ptr (3, 3) nv [] 0 0)]) (fun k => [((3, 3), ⟨nv, .obox 4 (setC us)⟩), ((1, 14), ⟨v, owW n (updW W i (joinW (W i) us k))⟩)]) (fun k => 4 - k) 0 (by simp) ?_ ?_
  · refine ⟨by ((repeat' apply And.intro) <;> (first | exact True.intro | exact NEq.refl _ | (refine NEq.int ?_; first | exact rfl | omega | (rw [wrapI (by omega)]; first | exact rfl | omega)))), ⟨⟨rfl, .obox fun o ho => ?_⟩, ⟨rfl, NEq.owns rfl rfl fun a o ha ho => NEq.of_eq ?_⟩, trivial⟩, .chk hS rfl⟩
    · have ho' : o < 4 := ho
      rcases (by omega : o = 0 ∨ o = 1 ∨ o = 2 ∨ o = 3) with rfl | rfl | rfl | rfl <;> exact .refl _
    · unfold updW
      split
      · rename_i e; subst e; simp [joinW]
      · rfl
  intro k nv hk
  repeat' (first | refine vcI ?_ | refine And.intro ?_ ?_ | (intro hq; (try simp at hq); (try (exfalso; omega)); (try (revert hq; intro))))
  · rw [cW]; omega
  · rw [cW]; decide
  · rw [cW]; omega
  · rw [cW]; decide
  · show 0 + (k : Int).toNat * Tryz.prog.cellsOf 66 + 1 ≤ 4
    rw [cW]; omega
  · rfl
  · refine Exists.intro (owW n (updW W i (joinW (W i) us (k + 1)))) (And.intro (NEq.owns rfl rfl fun a b ha hb => NEq.of_eq ?_) (And.intro rfl ?_))
    · show (if a = i ∧ 0 + (k : Int).toNat * Tryz.prog.cellsOf 66 ≤ b ∧ b < 0 + (k : Int).toNat * Tryz.prog.cellsOf 66 + 1 then List.getD [PV.int .u64 (IntKind.u64.wrap ((BitVec.ofInt IntKind.u64.bits (updW W i (joinW (W i) us k) i (0 + (k : Int).toNat * Tryz.prog.cellsOf 66) : Int) ||| BitVec.ofInt IntKind.u64.bits (us (0 + (k : Int).toNat * Tryz.prog.cellsOf 66) : Int)).toNat : Int))] (b - (0 + (k : Int).toNat * Tryz.prog.cellsOf 66)) .undef else .int .u64 (updW W i (joinW (W i) us k) a b)) = .int .u64 (updW W i (joinW (W i) us (k + 1)) a b)
      rw [cW]
      simp only [Int.toNat_natCast, Nat.zero_add, Nat.mul_one]
      have ek : updW W i (joinW (W i) us k) i k = W i k := by simp [updW, joinW]
      rw [ek, orr_at (hw _ _) (hu _)]
      by_cases c : a = i ∧ b = k
      · obtain ⟨rfl, rfl⟩ := c
        rw [if_pos (by omega), Nat.sub_self]
        simp [updW, joinW]
      · rw [if_neg (by omega)]
        unfold updW
        by_cases e : a = i
        · rw [if_pos e, if_pos e]
          have hbk : b ≠ k := fun h => c ⟨e, h⟩
          unfold joinW
          by_cases c2 : b < k
          · rw [if_pos c2, if_pos (by omega)]
          · rw [if_neg c2, if_neg (by omega)]
        · rw [if_neg e, if_neg e]
    have hw1 : IntKind.i64.wrap ((k : Int) + 1) = ((k + 1 : Nat) : Int) := wrapI (by omega)
    repeat' (first | refine vcI ?_ | refine And.intro ?_ ?_ | (intro hq; (try simp at hq); (try (exfalso; omega)); (try (revert hq; intro))))
    exact Exists.intro (k + 1) ⟨by dsimp only; omega, (by first | omega | (dsimp only; omega)), ⟨by ((repeat' apply And.intro) <;> (first | exact True.intro | exact NEq.refl _ | (refine NEq.int ?_; first | exact rfl | omega | (rw [wrapI (by omega)]; first | exact rfl | omega)))), ⟨⟨rfl, .refl _⟩, ⟨rfl, .refl _⟩, trivial⟩, .chk hS rfl⟩⟩
  · obtain rfl : k = 4 := by omega
    exact Exists.intro (PV.tup []) (Exists.intro _ (And.intro ⟨rfl, rfl⟩ (And.intro (.refl _) (And.intro ⟨⟨rfl, .refl _⟩, trivial⟩ (.chk hS rfl)))))
theorem putAt_spec (n i : Nat) (hi : i < n) (W : Nat → Nat → Nat) (hw : ∀ a o, W a o < 18446744073709551616) (r : Nat) (hr : r < 256) (v nv : Nat) (S : Hp) (hS : Above 3 S) :
    CallsA Tryz.prog 42 [.ptr (1, 14) v [] i 0, .int .i64 r] ([((1, 14), ⟨v, owW n W⟩)] ++ S) nv
      fun x hp' nv' => ∃ L', hp' = L' ++ S ∧ (x = .tup [] ∧ L' = [((1, 14), ⟨v, owW n (updW W i (setW (W i) r))⟩)]) := by
  have e1 := wrap64_div (r := r) (by omega)
  have e2 := tmod64 r
  refine callsA_ofS (lv := 3) (by decide) mx Tryz.call42 Tryz.func42 rfl Tryz.ntmps42 Tryz.results42 (by kernel_rfl) (by simp) fun lo => ?_
  repeat' (first | refine vcI ?_ | refine And.intro ?_ ?_ | (intro hq; (try simp at hq); (try (exfalso; omega)); (try (revert hq; intro))))
  · rw [cW, e1]; omega
  · rw [cW]; decide
  · show 0 + (IntKind.i64.wrap ((r : Int).tdiv 64)).toNat * Tryz.prog.cellsOf 66 + 1 ≤ 4
    rw [cW, e1]; omega
  · rfl
  refine Exists.intro (owW n (updW W i (setW (W i) r))) (And.intro (NEq.owns rfl rfl fun a b ha hb => NEq.of_eq ?_) (And.intro rfl ?_))
  · show (if a = i ∧ 0 + (IntKind.i64.wrap ((r : Int).tdiv 64)).toNat * Tryz.prog.cellsOf 66 ≤ b ∧ b < 0 + (IntKind.i64.wrap ((r : Int).tdiv 64)).toNat * Tryz.prog.cellsOf 66 + 1 then List.getD [PV.int .u64 (IntKind.u64.wrap ((BitVec.ofInt IntKind.u64.bits (W i (0 + (IntKind.i64.wrap ((r : Int).tdiv 64)).toNat * Tryz.prog.cellsOf 66) : Int) ||| BitVec.ofInt IntKind.u64.bits (IntKind.u64.wrap (1 * 2 ^ min ((r : Int).tmod 64).toNat IntKind.u64.bits))).toNat : Int))] (b - (0 + (IntKind.i64.wrap ((r : Int).tdiv 64)).toNat * Tryz.prog.cellsOf 66)) .undef else .int .u64 (W a b)) = .int .u64 (updW W i (setW (W i) r) a b)
    rw [cW, e1, e2]
    simp only [Int.toNat_natCast, Nat.zero_add, Nat.mul_one]
    rw [or_at (hw _ _) (Nat.mod_lt _ (by decide))]
    by_cases c : a = i ∧ b = r / 64
    · obtain ⟨rfl, rfl⟩ := c
      rw [if_pos (by omega), Nat.sub_self]
      simp [updW, setW]
    · rw [if_neg (by omega)]
      unfold updW
      by_cases e : a = i
      · rw [if_pos e, e]
        have hbk : b ≠ r / 64 := fun h => c ⟨e, h⟩
        unfold setW
        rw [if_neg hbk]
      · rw [if_neg e]
  repeat' (first | refine vcI ?_ | refine And.intro ?_ ?_ | (intro hq; (try simp at hq); (try (exfalso; omega)); (try (revert hq; intro))))
  exact Exists.intro (PV.tup []) (Exists.intro _ (And.intro ⟨rfl, rfl⟩ (And.intro (.refl _) (And.intro ⟨⟨rfl, .refl _⟩, trivial⟩ (.chk hS rfl)))))
end Go.Ab
namespace Go.Ab
open Go.Proofs
set_option maxRecDepth 100000
set_option maxHeartbeats 4000000

def putsW (W : Nat → Nat → Nat) (r : Nat) (l : List Int) : Nat → Nat → Nat := l.foldl (fun W k => updW W k.toNat (setW (W k.toNat) r)) W
def meetW (W : Nat → Nat → Nat) (s : Nat → Nat) (l : List Int) : Nat → Nat → Nat := l.foldl (fun W r => putsW (updW W r.toNat (joinW (W r.toNat) s 4)) r.toNat (listW s 250)) W
theorem putsW_snoc (W : Nat → Nat → Nat) (r : Nat) (l : List Int) (k : Int) : putsW W r (l ++ [k]) = updW (putsW W r l) k.toNat (setW (putsW W r l k.toNat) r) := by
  unfold putsW; rw [List.foldl_append]; rfl
theorem meetW_snoc (W : Nat → Nat → Nat) (s : Nat → Nat) (l : List Int) (r : Int) : meetW W s (l ++ [r]) = putsW (updW (meetW W s l) r.toNat (joinW (meetW W s l r.toNat) s 4)) r.toNat (listW s 250) := by
  unfold meetW; rw [List.foldl_append]; rfl
theorem updW_lt {W : Nat → Nat → Nat} {i : Nat} {s : Nat → Nat} (h : ∀ a o, W a o < 18446744073709551616) (hs : ∀ o, s o < 18446744073709551616) : ∀ a o, updW W i s a o < 18446744073709551616 := fun a o => by
  unfold updW; split
  · exact hs o
  · exact h a o
theorem putsW_lt {W : Nat → Nat → Nat} (r : Nat) (h : ∀ a o, W a o < 18446744073709551616) (l : List Int) : ∀ a o, putsW W r l a o < 18446744073709551616 := by
  unfold putsW
  induction l generalizing W with
  | nil => exact h
  | cons k l ih => exact ih (updW_lt h (setW_lt (h _) r))
theorem meetW_lt {W : Nat → Nat → Nat} {s : Nat → Nat} (h : ∀ a o, W a o < 18446744073709551616) (hs : ∀ o, s o < 18446744073709551616) (l : List Int) : ∀ a o, meetW W s l a o < 18446744073709551616 := by
  unfold meetW
  induction l generalizing W with
  | nil => exact h
  | cons k l ih => exact ih (putsW_lt _ (updW_lt h (joinW_lt (h _) hs 4)) _)
theorem bit_putsW (W : Nat → Nat → Nat) (r : Nat) {a b : Nat} (l : List Int) (hl : ∀ k ∈ l, 0 ≤ k) : bitW (putsW W r l a) b = true ↔ bitW (W a) b = true ∨ (b = r ∧ (a : Int) ∈ l) := by
  unfold putsW
  induction l generalizing W with
  | nil => simp
  | cons k l ih =>
    have hk := hl k (by simp)
    rw [List.foldl_cons, ih _ fun x hx => hl x (List.mem_cons_of_mem _ hx), bit_updW]
    by_cases e : a = k.toNat
    · subst e
      rw [if_pos rfl, bit_setW, Bool.or_eq_true, decide_eq_true_eq]
      have : ((k.toNat : Nat) : Int) = k := Int.toNat_of_nonneg hk
      simp only [this, List.mem_cons, true_or, and_true]
      constructor
      · rintro ((h | h) | h)
        · exact .inl h
        · exact .inr h
        · exact .inr h.1
      · rintro (h | h)
        · exact .inl (.inl h)
        · exact .inl (.inr h)
    · rw [if_neg e]
      have : ¬ (a : Int) = k := by omega
      simp only [List.mem_cons, this, false_or]
theorem mem_listS {s : Nat → Nat} {a : Nat} (ha : a < 250) : (a : Int) ∈ listW s 250 ↔ bitW s a = true := by
  rw [mem_listW]
  constructor
  · rintro ⟨q, _, h2, h3⟩; obtain rfl : a = q := by omega
    exact h2
  · intro h; exact ⟨a, ha, h, rfl⟩
theorem listW_nn {s : Nat → Nat} {n : Nat} : ∀ k ∈ listW s n, 0 ≤ k ∧ k < (n : Int) := fun k hk => by
  obtain ⟨q, h1, _, rfl⟩ := mem_listW.1 hk
  omega
theorem bit_meetW (W : Nat → Nat → Nat) (s : Nat → Nat) {a b : Nat} (ha : a < 250) (hb : b < 256) (l : List Int) (hl : ∀ k ∈ l, 0 ≤ k) : bitW (meetW W s l a) b = true ↔ bitW (W a) b = true ∨ ((a : Int) ∈ l ∧ bitW s b = true) ∨ (bitW s a = true ∧ (b : Int) ∈ l) := by
  unfold meetW
  induction l generalizing W with
  | nil => simp
  | cons k l ih =>
    have hk := hl k (by simp)
    rw [List.foldl_cons, ih _ fun x hx => hl x (List.mem_cons_of_mem _ hx), bit_putsW _ _ _ fun x hx => (listW_nn x hx).1, bit_updW, mem_listS ha]
    have hkn : ((k.toNat : Nat) : Int) = k := Int.toNat_of_nonneg hk
    have eb : b = k.toNat ↔ (b : Int) = k := by omega
    have ea : a = k.toNat ↔ (a : Int) = k := by omega
    rw [eb]
    simp only [List.mem_cons]
    by_cases e : a = k.toNat
    · have e2 := ea.1 e
      rw [if_pos e, bit_joinW _ _ hb, Bool.or_eq_true, ← e]
      simp only [e2, true_or, true_and]
      constructor
      · rintro (((h | h) | ⟨h1, h2⟩) | ⟨h1, h2⟩ | ⟨h1, h2⟩)
        · exact .inl h
        · exact .inr (.inl h)
        · exact .inr (.inr ⟨h2, .inl h1⟩)
        · exact .inr (.inl h2)
        · exact .inr (.inr ⟨h1, .inr h2⟩)
      · rintro (h | h | ⟨h1, h2 | h2⟩)
        · exact .inl (.inl (.inl h))
        · exact .inl (.inl (.inr h))
        · exact .inl (.inr ⟨h2, h1⟩)
        · exact .inr (.inr ⟨h1, h2⟩)
    · have e2 : ¬ (a : Int) = k := fun h => e (ea.2 h)
      rw [if_neg e]
      simp only [e2, false_or]
      constructor
      · rintro ((h | ⟨h1, h2⟩) | ⟨h1, h2⟩ | ⟨h1, h2⟩)
        · exact .inl h
        · exact .inr (.inr ⟨h2, .inl h1⟩)
        · exact .inr (.inl ⟨h1, h2⟩)
        · exact .inr (.inr ⟨h1, .inr h2⟩)
      · rintro (h | ⟨h1, h2⟩ | ⟨h1, h2 | h2⟩)
        · exact .inl (.inl h)
        · exact .inr (.inl ⟨h1, h2⟩)
        · exact .inl (.inr ⟨h2, h1⟩)
        · exact .inr (.inr ⟨h1, h2⟩)

theorem mk_set (s : Nat → Nat) (r : RId) (v i : Nat) : mkV Tryz.prog 68 (fun j => cellV r v [] i j (setC s j)) 0 = aggW s := by
  show PV.agg (List.map _ (List.range (Tryz.prog.cellsOf 68))) = _
  rw [show Tryz.prog.cellsOf 68 = 4 by kernel_rfl]; rfl
theorem view_set {hp : Hp} {r : RId} {v k : Nat} {s : Nat → Nat} (h : lkH hp r = some ⟨v, .obox 4 (setC s)⟩) : NEq (view (k + 2) hp (.ptr r v [] 0 0)) (.fptr 4 (setC s) 0) := by
  rw [view, h]
  simp only [if_true, getAt]
  exact NEq.fptr fun o ho => .refl _
def mem50 (n v vo : Nat) (W : Nat → Nat → Nat) : Hp := [((1, 14), ⟨v, owW n W⟩), ((1, 3), ⟨vo, .obox 1 fun _ => .ref (1, 14) v [] 4 0 n⟩)]
theorem meet_spec (n : Nat) (hn : n ≤ 250) (W : Nat → Nat → Nat) (s : Nat → Nat) (hW : ∀ a o, W a o < 18446744073709551616) (hs : ∀ o, s o < 18446744073709551616) (l : List Int) (hll : l.length ≤ 1048576) (hl : ∀ r ∈ l, 0 ≤ r ∧ r < (n : Int)) (hsn : ∀ r ∈ listW s 250, r < (n : Int)) (v vo nv : Nat) (S : Hp) (hS : Above 2 S) :
    CallsA Tryz.prog 87 [ints l, aggW s, .ptr (1, 3) vo [] 0 0] (mem50 n v vo W ++ S) nv
      fun x hp' nv' => ∃ L', hp' = L' ++ S ∧ (x = .tup [] ∧ L' = mem50 n v vo (meetW W s l)) := by
  refine callsA_ofS (lv := 2) (by decide) mx Tryz.call87 Tryz.func87 rfl Tryz.ntmps87 Tryz.results87 (by kernel_rfl) (by simp) fun lo => ?_
  repeat' (first | refine vcI ?_ | refine And.intro ?_ ?_ | (intro hq; (try simp at hq); (try (exfalso; omega)); (try (revert hq; intro))))
  refine loopS2 mx (by decide) (by kernel_rfl) (fun (k v4 : Nat) => k ≤ l.length) (fun k v4 => [(11, .int .i64 k), (10, .int .i64 l.length), (9, ints l), (4, .ptr (2, 4) v4 [] 0 0), (2, .ptr (1, 3) vo [] 0 0)]) (fun k v4 => ((2, 4), ⟨v4, .obox 4 (setC s)⟩) :: mem50 n v vo (meetW W s (l.take k))) (fun k v4 => l.length - k) 0 _ (by simp) ⟨by ((repeat' apply And.intro) <;> (first | exact True.intro | exact NEq.refl _ | (refine NEq.int ?_; first | exact rfl | omega | (rw [wrapI (by omega)]; first | exact rfl | omega)))), ⟨⟨rfl, .obox ?_⟩, ⟨rfl, .refl _⟩, ⟨rfl, .refl _⟩, trivial⟩, .chk hS rfl⟩ ?_
  · intro o ho
    rcases (by have : o < 4 := ho; omega : o = 0 ∨ o = 1 ∨ o = 2 ∨ o = 3) with rfl | rfl | rfl | rfl <;> exact .refl _
  intro k v4 nv hk
  repeat' (first | refine vcI ?_ | refine And.intro ?_ ?_ | (intro hq; (try simp at hq); (try (exfalso; omega)); (try (revert hq; intro))))
  · have h1 := hl _ (getD_mem 0 (by omega : k < l.length)); exact h1.1
  · have h1 := hl _ (getD_mem 0 (by omega : k < l.length)); show l[k]?.getD 0 < _; omega
  · have hlt : k < l.length := by assumption
    obtain ⟨r0, r1⟩ := hl _ (getD_mem 0 hlt)
    obtain ⟨r, hr⟩ : ∃ r : Nat, l.getD (k : Int).toNat 0 = (r : Int) := ⟨_, (Int.toNat_of_nonneg r0).symm⟩
    have hrn : r < n := by have : l[k]?.getD 0 = (r : Int) := hr; omega
    have esn : l.take (k + 1) = l.take k ++ [(r : Int)] := by rw [take_succD 0 hlt]; congr 2
    obtain ⟨Wk, hWk⟩ : ∃ Wk, Wk = meetW W s (l.take k) := ⟨_, rfl⟩
    have hWl : ∀ a o, Wk a o < 18446744073709551616 := by rw [hWk]; exact meetW_lt hW hs _
    rw [mk_set, hr, ← hWk]
    refine CallS.on1e (r := (1, 14)) (v := v) (node' := owW n Wk) (n := 3) rfl rfl (LeL.refl _) (Above.chk rfl (hS.mono (by decide))) (fun S' hS' => joinAt_spec n (0 + (r : Int).toNat) (by omega) Wk s hWl hs v _ S' hS') ?_
    rintro x L' nv' ⟨rfl, rfl⟩
    repeat' (first | refine vcI ?_ | refine And.intro ?_ ?_ | (intro hq; (try simp at hq); (try (exfalso; omega)); (try (revert hq; intro))))
    refine CallS.ownInts [.fptr 4 (setC s) 0] (listW s 250) (setList_spec s hs) ?_ ?_
    · exact LeL.cons (view_set (k := 7) rfl) LeL.nil
    repeat' (first | refine vcI ?_ | refine And.intro ?_ ?_ | (intro hq; (try simp at hq); (try (exfalso; omega)); (try (revert hq; intro))))
    have hlen := listW_len s 250
    refine loopS3 mx (by decide) (by kernel_rfl) (fun (j v20 v4 : Nat) => j ≤ (listW s 250).length) (fun j v20 v4 => [(22, .int .i64 j), (21, .int .i64 (listW s 250).length), (20, .ref (2, 20) v20 [] 1 0 (listW s 250).length), (6, .int .i64 r), (11, .int .i64 k), (10, .int .i64 l.length), (9, ints l), (4, .ptr (2, 4) v4 [] 0 0), (2, .ptr (1, 3) vo [] 0 0)]) (fun j v20 v4 => ((2, 20), ⟨v20, oints (listW s 250)⟩) :: ((2, 4), ⟨v4, .obox 4 (setC s)⟩) :: mem50 n v vo (putsW (updW Wk (0 + (r : Int).toNat) (joinW (Wk (0 + (r : Int).toNat)) s 4)) r ((listW s 250).take j))) (fun j v20 v4 => (listW s 250).length - j) 0 _ v4 (by simp) ⟨by ((repeat' apply And.intro) <;> (first | exact True.intro | exact NEq.refl _ | (refine NEq.int ?_; first | exact rfl | omega | (rw [wrapI (by omega)]; first | exact rfl | omega)))), ⟨⟨rfl, .refl _⟩, ⟨rfl, .refl _⟩, ⟨rfl, .refl _⟩, ⟨rfl, .refl _⟩, trivial⟩, .chk hS rfl⟩ ?_
    intro j v20 v4 nv hj
    repeat' (first | refine vcI ?_ | refine And.intro ?_ ?_ | (intro hq; (try simp at hq); (try (exfalso; omega)); (try (revert hq; intro))))
    · have h1 := listW_nn (s := s) (n := 250) _ (getD_mem 0 (by omega : 0 + (j : Int).toNat < (listW s 250).length)); exact h1.1
    · have h1 := hsn _ (getD_mem 0 (by omega : 0 + (j : Int).toNat < (listW s 250).length)); show (listW s 250)[0 + (j : Int).toNat]?.getD 0 < _; omega
    · have hjl : j < (listW s 250).length := by assumption
      have ejj : 0 + (j : Int).toNat = j := by omega
      obtain ⟨q0, q1⟩ := listW_nn (s := s) (n := 250) _ (getD_mem 0 hjl)
      have q2 := hsn _ (getD_mem 0 hjl)
      obtain ⟨q, hq⟩ : ∃ q : Nat, (listW s 250).getD j 0 = (q : Int) := ⟨_, (Int.toNat_of_nonneg q0).symm⟩
      have hqn : q < n := by have : (listW s 250)[j]?.getD 0 = (q : Int) := hq; omega
      have esj : (listW s 250).take (j + 1) = (listW s 250).take j ++ [(q : Int)] := by rw [take_succD 0 hjl]; congr 2
      obtain ⟨Wj, hWj⟩ : ∃ Wj, Wj = putsW (updW Wk (0 + (r : Int).toNat) (joinW (Wk (0 + (r : Int).toNat)) s 4)) r ((listW s 250).take j) := ⟨_, rfl⟩
      have hWjl : ∀ a o, Wj a o < 18446744073709551616 := by rw [hWj]; exact putsW_lt _ (updW_lt hWl (joinW_lt (hWl _) hs 4)) _
      rw [ejj, hq, ← hWj]
      refine CallS.on1e (r := (1, 14)) (v := v) (node' := owW n Wj) (n := 3) rfl rfl (LeL.refl _) (Above.chk rfl (hS.mono (by decide))) (fun S' hS' => putAt_spec n (0 + (q : Int).toNat) (by omega) Wj hWjl r (by omega) v _ S' hS') ?_
      rintro x L' nv' ⟨rfl, rfl⟩
      have hw1 : IntKind.i64.wrap ((j : Int) + 1) = ((j + 1 : Nat) : Int) := wrapI (by omega)
      repeat' (first | refine vcI ?_ | refine And.intro ?_ ?_ | (intro hq; (try simp at hq); (try (exfalso; omega)); (try (revert hq; intro))))
      refine Exists.intro (j + 1, v20, v4) ⟨by dsimp only; omega, (by first | omega | (dsimp only; omega)), ⟨by ((repeat' apply And.intro) <;> (first | exact True.intro | exact NEq.refl _ | (refine NEq.int ?_; first | exact rfl | omega | (rw [wrapI (by omega)]; first | exact rfl | omega)))), ⟨⟨rfl, .refl _⟩, ⟨rfl, .refl _⟩, ⟨rfl, ?_⟩, ⟨rfl, .refl _⟩, trivial⟩, .chk hS rfl⟩⟩
      show NEq _ (owW n (putsW (updW Wk (0 + (r : Int).toNat) (joinW (Wk (0 + (r : Int).toNat)) s 4)) r ((listW s 250).take (j + 1))))
      rw [esj, putsW_snoc, ← hWj, Int.toNat_natCast, Nat.zero_add]
      exact .refl _
    · have hw1 : IntKind.i64.wrap ((k : Int) + 1) = ((k + 1 : Nat) : Int) := wrapI (by omega)
      obtain rfl : j = (listW s 250).length := by omega
      repeat' (first | refine vcI ?_ | refine And.intro ?_ ?_ | (intro hq; (try simp at hq); (try (exfalso; omega)); (try (revert hq; intro))))
      refine Exists.intro (k + 1, v4) ⟨by dsimp only; omega, (by first | omega | (dsimp only; omega)), ⟨by ((repeat' apply And.intro) <;> (first | exact True.intro | exact NEq.refl _ | (refine NEq.int ?_; first | exact rfl | omega | (rw [wrapI (by omega)]; first | exact rfl | omega)))), ⟨⟨rfl, .refl _⟩, ⟨rfl, ?_⟩, ⟨rfl, .refl _⟩, trivial⟩, .chk hS rfl⟩⟩
      show NEq _ (owW n (meetW W s (l.take (k + 1))))
      rw [esn, meetW_snoc, ← hWk, List.take_length, Int.toNat_natCast, Nat.zero_add]
      exact .refl _
  · obtain rfl : k = l.length := by omega
    refine Exists.intro (PV.tup []) (Exists.intro _ (And.intro ⟨rfl, rfl⟩ (And.intro (.refl _) (And.intro ⟨⟨rfl, ?_⟩, ⟨rfl, .refl _⟩, trivial⟩ (.chk hS rfl)))))
    rw [List.take_length]
    exact .refl _
end Go.Ab
namespace Go.Ab
open Go.Proofs
set_option maxRecDepth 100000
set_option maxHeartbeats 4000000

noncomputable def lvW (o : DO) (i : Nat) : Nat → Nat := wordsP (LiveP o i)
theorem lvW_lt (o : DO) (i : Nat) : ∀ q, lvW o i q < 18446744073709551616 := wordsP_lt _
noncomputable def meets (o : DO) (d : Int) (W : Nat → Nat → Nat) (l : List Int) : Nat → Nat → Nat := l.foldl (fun W k => meetW W (lvW o k.toNat) [d]) W
noncomputable def togI (o : DO) (i : Nat) (W : Nat → Nat → Nat) : Nat → Nat → Nat :=
  if setsB (o.irs.getD i default).op = true then meets o (o.irs.getD i default).d (meetW (meetW W (lvW o i) (listW (lvW o i) 250)) (lvW o i) [(o.irs.getD i default).d]) (goesL (o.irs.getD i default) i)
  else meetW W (lvW o i) (listW (lvW o i) 250)
noncomputable def togW (o : DO) : Nat → Nat → Nat → Nat
  | 0 => fun _ _ => 0
  | k + 1 => togI o k (togW o k)
theorem meets_snoc (o : DO) (d : Int) (W : Nat → Nat → Nat) (l : List Int) (k : Int) : meets o d W (l ++ [k]) = meetW (meets o d W l) (lvW o k.toNat) [d] := by
  unfold meets; rw [List.foldl_append]; rfl
theorem meets_lt (o : DO) (d : Int) {W : Nat → Nat → Nat} (h : ∀ a q, W a q < 18446744073709551616) (l : List Int) : ∀ a q, meets o d W l a q < 18446744073709551616 := by
  unfold meets
  induction l generalizing W with
  | nil => exact h
  | cons k l ih => exact ih (meetW_lt h (lvW_lt o _) _)
theorem togW_lt (o : DO) : ∀ k a q, togW o k a q < 18446744073709551616
  | 0 => fun _ _ => by show 0 < _; decide
  | k + 1 => by
    unfold togW togI
    split
    · exact meets_lt o _ (meetW_lt (meetW_lt (togW_lt o k) (lvW_lt o _) _) (lvW_lt o _) _) _
    · exact meetW_lt (togW_lt o k) (lvW_lt o _) _
theorem FlH.useR {o : DO} (H : FlH o) {i : Nat} (hi : i < o.irs.length) : ∀ r ∈ usedL (o.irs.getD i default) (o.descs.getD i []) ++ usesL (o.descs.getD i []), r < o.regs := fun r hm => by
  have hsh := H.sh i hi
  simp only [shapedX, Bool.and_eq_true, decide_eq_true_eq, Bool.not_eq_true'] at hsh
  obtain ⟨s1, s2, s3, s4, s5, s6, s7⟩ := hsh
  have hb : ∀ {l}, badL o l = false → r ∈ l → r < o.regs := fun h1 h2 => by
    have h3 := List.any_eq_false.1 h1 r h2
    simp only [regB, Bool.not_eq_true', Bool.not_eq_false, Bool.and_eq_true, decide_eq_true_eq] at h3
    omega
  rcases List.mem_append.1 hm with h | h
  · exact hb s5 h
  · exact hb s7 h
theorem FlH.dR {o : DO} (H : FlH o) {i : Nat} (hi : i < o.irs.length) (hs : setsB (o.irs.getD i default).op = true) : 0 ≤ (o.irs.getD i default).d ∧ (o.irs.getD i default).d < o.regs := by
  have hsh := H.sh i hi
  simp only [shapedX, Bool.and_eq_true, decide_eq_true_eq, Bool.not_eq_true'] at hsh
  obtain ⟨s1, s2, s3, s4, s5, s6, s7⟩ := hsh
  rw [hs] at s6
  simp only [Bool.not_true, Bool.false_or, regB, Bool.and_eq_true, decide_eq_true_eq] at s6
  omega
theorem LiveP.lt {o : DO} (H : FlH o) {i r : Nat} (h : LiveP o i r) : (r : Int) < o.regs ∧ i < o.irs.length := by
  induction h with
  | use hi hu => exact ⟨H.useR hi _ hu, hi⟩
  | step hi _ _ _ ih => exact ⟨ih.1, hi⟩
theorem list_lt {o : DO} (H : FlH o) (i : Nat) : ∀ r ∈ listW (lvW o i) 250, 0 ≤ r ∧ r < ((o.regs.toNat : Nat) : Int) := fun r hr => by
  obtain ⟨q, h1, h2, rfl⟩ := mem_listW.1 hr
  have := ((bit_wordsP _ _).1 h2 : LiveP o i q).lt H
  omega

theorem mk_setF (s : Nat → Nat) : mkV Tryz.prog 68 (fun j => .int .u64 (s j)) 0 = aggW s := by
  show PV.agg (List.map _ (List.range (Tryz.prog.cellsOf 68))) = _
  rw [show Tryz.prog.cellsOf 68 = 4 by kernel_rfl]; rfl
theorem mk_setsF (o : DO) (lv : PV) (op : Int) {off : Nat} (h : 1 ≤ op ∧ op ≤ 16) (hoff : off = 12 + op.toNat * 4 + 1) : mkV Tryz.prog 4 (codeC o lv) off = .bool (setsB op) := by
  subst hoff
  have key : ∀ n : Nat, 1 ≤ n ∧ n ≤ 16 → mkV Tryz.prog 4 (codeC o lv) (12 + n * 4 + 1) = .bool (setsB (n : Int)) := by
    intro n hn
    rcases (by omega : n = 1 ∨ n = 2 ∨ n = 3 ∨ n = 4 ∨ n = 5 ∨ n = 6 ∨ n = 7 ∨ n = 8 ∨ n = 9 ∨ n = 10 ∨ n = 11 ∨ n = 12 ∨ n = 13 ∨ n = 14 ∨ n = 15 ∨ n = 16) with rfl | rfl | rfl | rfl | rfl | rfl | rfl | rfl | rfl | rfl | rfl | rfl | rfl | rfl | rfl | rfl <;> rfl
  have h2 := key op.toNat (by omega)
  rw [Int.toNat_of_nonneg (by omega)] at h2
  exact h2
theorem one_view {hp : Hp} {r : RId} {v k : Nat} {f : Nat → Nat → PV} {x : Int} (h : lkH hp r = some ⟨v, .own 1 1 f⟩) (e : view k hp (f 0 0) = f 0 0) (hx : NEq (f 0 0) (.int .i64 x)) : NEq (view (k + 1) hp (.ref r v [] 1 0 1)) (ints [x]) := by
  rw [view, h]
  simp only [if_true, getAt]
  refine NEq.frzs rfl rfl fun i q hi hq => ?_
  obtain rfl : i = 0 := by simp at hi; omega
  obtain rfl : q = 0 := by omega
  rw [Nat.zero_add, e]
  exact hx
theorem KpR_owW {hs : Hp} {r id : RId} {v ver n : Nat} {W : Nat → Nat → Nat} : KpR none hs r v id ver (owW n W) (owW n W) :=
  .own fun i o hi ho => .leaf rfl rfl (.view (.refl _))
theorem keepS_own {L : Hp} {r : RId} {v n : Nat} {W : Nat → Nat → Nat} (h : lkH L r = some ⟨v, owW n W⟩) : keepS (fun id ver => .ref id ver [] 4 0 n) (owW n W) (.ref r v [] 4 0 n) L :=
  .inl ⟨r, v, _, h, setH L r none, fun j => lookH_setH L r j none, fun id ver => ⟨.refs rfl rfl rfl, KpR_owW⟩⟩
theorem together_spec (o : DO) (H : FlH o) (hr1 : 1 ≤ o.regs) : CallsO Tryz.prog 41 [codeP o (frW o.irs.length fun i => wordsP (LiveP o i))] (owW o.regs.toNat (togW o o.irs.length)) (fun id ver => .ref id ver [] 4 0 o.regs.toNat) := by
  have hil : o.irs.length ≤ 6000 := by have := H.hf; unfold fewN at this; omega
  have hrr := H.hr
  obtain ⟨n, hn⟩ : ∃ n : Nat, o.regs = (n : Int) := ⟨o.regs.toNat, (Int.toNat_of_nonneg (by omega)).symm⟩
  have hnt : o.regs.toNat = n := by omega
  rw [hnt]
  have hlw : ∀ i, ∀ r ∈ listW (lvW o i) 250, 0 ≤ r ∧ r < (n : Int) := fun i r hr => by have := list_lt H i r hr; omega
  refine callsO_ofS mx Tryz.call41 Tryz.func41 rfl Tryz.ntmps41 Tryz.results41 (by kernel_rfl) (by simp) fun lo => ?_
  repeat' (first | refine vcI ?_ | refine And.intro ?_ ?_ | (intro hq; (try simp at hq); (try (exfalso; omega)); (try (revert hq; intro))))
  · rw [show Tryz.prog.bytesOf 68 = 32 by kernel_rfl, hn]; omega
  · rfl
  rw [hn]
  refine Exists.intro (owW n fun _ _ => 0) (And.intro ?_ (And.intro rfl ?_))
  · refine NEq.owns rfl (by simp) fun i q hi hq => ?_
    rcases (by have : q < 4 := hq; omega : q = 0 ∨ q = 1 ∨ q = 2 ∨ q = 3) with rfl | rfl | rfl | rfl <;> exact .refl _
  repeat' (first | refine vcI ?_ | refine And.intro ?_ ?_ | (intro hq; (try simp at hq); (try (exfalso; omega)); (try (revert hq; intro))))
  obtain ⟨cl, hcl⟩ : ∃ cl : Nat → PV, cl = fun vo => .func (.func 87) [] [.ptr (1, 3) vo [] 0 0] := ⟨_, rfl⟩
  refine loopS3 mx (by decide) (by kernel_rfl) (fun (k v vo : Nat) => k ≤ o.irs.length) (fun k v vo => [(22, .int .i64 k), (21, .int .i64 o.irs.length), (20, dis o.irs), (4, .func (.func 87) [] [.ptr (1, 3) vo [] 0 0]), (3, .ptr (1, 3) vo [] 0 0), (0, codeP o (frW o.irs.length fun i => wordsP (LiveP o i)))]) (fun k v vo => mem50 n v vo (togW o k)) (fun k v vo => o.irs.length - k) 0 _ _ (by simp) ⟨by ((repeat' apply And.intro) <;> (first | exact True.intro | exact NEq.refl _ | (refine NEq.int ?_; first | exact rfl | omega | (rw [wrapI (by omega)]; first | exact rfl | omega)))), ⟨⟨rfl, .refl _⟩, ⟨rfl, .obox ?_⟩, trivial⟩, .nil⟩ ?_
  · intro q hq
    obtain rfl : q = 0 := by have : q < 1 := hq; omega
    exact NEq.refs rfl rfl rfl
  intro k v vo nv hk
  repeat' (first | refine vcI ?_ | refine And.intro ?_ ?_ | (intro hq; (try simp at hq); (try (exfalso; omega)); (try (revert hq; intro))))
  · have hkl : k < o.irs.length := by assumption
    rw [show Tryz.prog.cellsOf 58 = 16 by kernel_rfl]
    refine QS.ownInts [.fptr 4 (setC (lvW o k)) 0] (listW (lvW o k) 250) (setList_spec _ (lvW_lt o k)) (LeL.cons (.refl _) LeL.nil) ?_
    repeat' (first | refine vcI ?_ | refine And.intro ?_ ?_ | (intro hq; (try simp at hq); (try (exfalso; omega)); (try (revert hq; intro))))
    refine CallS.onD (L0 := mem50 n v vo (togW o k)) (M1 := [((1, 34), ⟨_, oints (listW (lvW o k) 250)⟩)]) (n := 2) (m := 1) ⟨rfl, rfl, trivial⟩ ⟨rfl, trivial⟩ (Above.chk rfl Above.nil) Above.nil rfl rfl (seenL.cons (.view (view_ints (k := 7) rfl rfl)) (seenL.cons (.same (NEq.of_eq (mk_setF (lvW o k)))) (seenL.cons (.same (.refl _)) seenL.nil)))
      (fun S' hS' => meet_spec n (by omega) (togW o k) (lvW o k) (togW_lt o k) (lvW_lt o k) (listW (lvW o k) 250) (by have := listW_len (lvW o k) 250; omega) (hlw k) (fun r hr => (hlw k r hr).2) v vo _ S' hS') ?_
    rintro x L' nv' ⟨rfl, rfl⟩
    have hop := H.op hkl
    repeat' (first | refine vcI ?_ | refine And.intro ?_ ?_ | (intro hq; (try simp at hq); (try (exfalso; omega)); (try (revert hq; intro))))
    · show 0 ≤ (o.irs.getD k default).op; omega
    · show (o.irs.getD k default).op < _; omega
    · rw [cRow]; decide
    · rw [cRow]; show 0 + 12 + (o.irs.getD k default).op.toNat * 4 + 1 ≤ 81; omega
    · show 0 + 12 + (o.irs.getD k default).op.toNat * Tryz.prog.cellsOf 71 + 1 + Tryz.prog.cellsOf 4 ≤ 81
      rw [cRow, show Tryz.prog.cellsOf 4 = 1 by kernel_rfl]; omega
    · rw [show Tryz.prog.cellsOf 4 = 1 by kernel_rfl]; decide
    rw [mk_setsF o _ (o.irs.getD k default).op hop (by rw [cRow]; show 0 + 12 + (o.irs.getD k default).op.toNat * 4 + 1 = _; omega)]
    have hwk : IntKind.i64.wrap ((k : Int) + 1) = ((k + 1 : Nat) : Int) := wrapI (by omega)
    repeat' (first | refine vcI ?_ | refine And.intro ?_ ?_ | (intro hq; (try simp at hq); (try (exfalso; omega)); (try (revert hq; intro))))
    · have hsf : setsB (o.irs.getD k default).op = false := by assumption
      refine Exists.intro (k + 1, v, vo) ⟨by dsimp only; omega, (by first | omega | (dsimp only; omega)), ⟨by ((repeat' apply And.intro) <;> (first | exact True.intro | exact NEq.refl _ | (refine NEq.int ?_; first | exact rfl | omega | (rw [wrapI (by omega)]; first | exact rfl | omega)))), ⟨⟨rfl, ?_⟩, ⟨rfl, .refl _⟩, trivial⟩, .nil⟩⟩
      show NEq _ (owW n (togI o k (togW o k)))
      unfold togI
      rw [hsf, if_neg (by simp)]
      exact .refl _
    · have hst : setsB (o.irs.getD k default).op = true := by assumption
      have hd := H.dR hkl hst
      have hd1 : ∀ r ∈ [(o.irs.getD k default).d], 0 ≤ r ∧ r < (n : Int) := fun r hr => by rw [List.mem_singleton] at hr; subst hr; omega
      obtain ⟨W1, hW1⟩ : ∃ W1, W1 = meetW (togW o k) (lvW o k) (listW (lvW o k) 250) := ⟨_, rfl⟩
      have hW1l : ∀ a q, W1 a q < 18446744073709551616 := by rw [hW1]; exact meetW_lt (togW_lt o k) (lvW_lt o k) _
      rw [← hW1]
      refine CallS.onD (L0 := mem50 n v vo W1) (M1 := [((1, 55), ⟨_, _⟩)]) (n := 2) (m := 1) ⟨rfl, rfl, trivial⟩ ⟨rfl, trivial⟩ (Above.chk rfl Above.nil) Above.nil rfl rfl (seenL.cons (.view (one_view rfl rfl (.refl _))) (seenL.cons (.same (NEq.of_eq (mk_setF (lvW o k)))) (seenL.cons (.same (.refl _)) seenL.nil)))
        (fun S' hS' => meet_spec n (by omega) W1 (lvW o k) hW1l (lvW_lt o k) [(o.irs.getD k default).d] (by simp) hd1 (fun r hr => (hlw k r hr).2) v vo _ S' hS') ?_
      rintro x L' nv' ⟨rfl, rfl⟩
      repeat' (first | refine vcI ?_ | refine And.intro ?_ ?_ | (intro hq; (try simp at hq); (try (exfalso; omega)); (try (revert hq; intro))))
      refine CallS.nexts o (frW o.irs.length fun i => wordsP (LiveP o i)) k hkl hil hop (LeL.cons (.refl _) (LeL.cons (.refl _) LeL.nil)) ?_
      repeat' (first | refine vcI ?_ | refine And.intro ?_ ?_ | (intro hq; (try simp at hq); (try (exfalso; omega)); (try (revert hq; intro))))
      obtain ⟨g, hg⟩ : ∃ g, g = goesL (o.irs.getD k default) k := ⟨_, rfl⟩
      obtain ⟨pd, hpd⟩ : ∃ pd, pd = padL (o.irs.getD k default) k := ⟨_, rfl⟩
      have hgl : g.length ≤ 2 := by rw [hg]; exact goesL_len _ _
      have hgk : ∀ j, j < g.length → 0 ≤ (g ++ pd).getD j 0 ∧ (g ++ pd).getD j 0 < (o.irs.length : Int) := fun j hj => by
        rw [getD_app0 _ _ hj]
        have hm : g.getD j 0 ∈ goesL (o.irs.getD k default) k := by rw [← hg, List.getD_eq_getElem?_getD]; exact getD_mem _ hj
        exact H.go k hkl _ hm
      obtain ⟨W2, hW2⟩ : ∃ W2, W2 = meetW W1 (lvW o k) [(o.irs.getD k default).d] := ⟨_, rfl⟩
      have hW2l : ∀ a q, W2 a q < 18446744073709551616 := by rw [hW2]; exact meetW_lt hW1l (lvW_lt o k) _
      rw [← hg, ← hpd, ← hW2]
      refine loopS3 mx (by decide) (by kernel_rfl) (fun (j v6 v66 : Nat) => j ≤ g.length) (fun j v6 v66 => [(68, .int .i64 j), (67, .int .i64 g.length), (66, .ref (1, 66) v66 [] 1 0 g.length), (6, .ptr (1, 6) v6 [] 0 0), (22, .int .i64 k), (21, .int .i64 o.irs.length), (20, dis o.irs), (4, .func (.func 87) [] [.ptr (1, 3) vo [] 0 0]), (3, .ptr (1, 3) vo [] 0 0), (0, codeP o (frW o.irs.length fun i => wordsP (LiveP o i)))]) (fun j v6 v66 => ((1, 66), ⟨v66, oints (g ++ pd)⟩) :: ((1, 6), ⟨v6, .obox 16 (rowL (dil (o.irs.getD k default)))⟩) :: mem50 n v vo (meets o (o.irs.getD k default).d W2 (g.take j))) (fun j v6 v66 => g.length - j) 0 _ _ (by simp) ⟨by ((repeat' apply And.intro) <;> (first | exact True.intro | exact NEq.refl _ | (refine NEq.int ?_; first | exact rfl | omega | (rw [wrapI (by omega)]; first | exact rfl | omega)))), ⟨⟨rfl, .refl _⟩, ⟨rfl, .obox ?_⟩, ⟨rfl, .refl _⟩, ⟨rfl, .refl _⟩, trivial⟩, .nil⟩ ?_
      · intro q hq
        have hq' : q < 16 := hq
        rcases (by omega : q = 0 ∨ q = 1 ∨ q = 2 ∨ q = 3 ∨ q = 4 ∨ q = 5 ∨ q = 6 ∨ q = 7 ∨ q = 8 ∨ q = 9 ∨ q = 10 ∨ q = 11 ∨ q = 12 ∨ q = 13 ∨ q = 14 ∨ q = 15) with rfl | rfl | rfl | rfl | rfl | rfl | rfl | rfl | rfl | rfl | rfl | rfl | rfl | rfl | rfl | rfl <;> exact .refl _
      intro j v6 v66 nv hj
      have hwj : IntKind.i64.wrap ((j : Int) + 1) = ((j + 1 : Nat) : Int) := wrapI (by omega)
      repeat' (first | refine vcI ?_ | refine And.intro ?_ ?_ | (intro hq; (try simp at hq); (try (exfalso; omega)); (try (revert hq; intro))))
      · have h1 := hgk j (by assumption); rw [show 0 + (j : Int).toNat = j by omega]; exact h1.1
      · have h1 := hgk j (by assumption); rw [show 0 + (j : Int).toNat = j by omega]; exact h1.2
      · have hjl : j < g.length := by assumption
        obtain ⟨W3, hW3⟩ : ∃ W3, W3 = meets o (o.irs.getD k default).d W2 (g.take j) := ⟨_, rfl⟩
        have hW3l : ∀ a q, W3 a q < 18446744073709551616 := by rw [hW3]; exact meets_lt o _ hW2l _
        rw [← hW3]
        refine CallS.onD (L0 := mem50 n v vo W3) (M1 := [((1, 75), ⟨_, _⟩)]) (n := 2) (m := 1) ⟨rfl, rfl, trivial⟩ ⟨rfl, trivial⟩ (Above.chk rfl Above.nil) Above.nil rfl rfl (seenL.cons (.view (one_view rfl rfl (.refl _))) (seenL.cons (.same (NEq.of_eq (mk_setF (lvW o ((g ++ pd).getD (0 + (j : Int).toNat) 0).toNat)))) (seenL.cons (.same (.refl _)) seenL.nil)))
          (fun S' hS' => meet_spec n (by omega) W3 (lvW o ((g ++ pd).getD (0 + (j : Int).toNat) 0).toNat) hW3l (lvW_lt o _) [(o.irs.getD k default).d] (by simp) hd1 (fun r hr => (hlw _ r hr).2) v vo _ S' hS') ?_
        rintro x L' nv' ⟨rfl, rfl⟩
        repeat' (first | refine vcI ?_ | refine And.intro ?_ ?_ | (intro hq; (try simp at hq); (try (exfalso; omega)); (try (revert hq; intro))))
        refine Exists.intro (j + 1, v6, v66) ⟨by dsimp only; omega, (by first | omega | (dsimp only; omega)), ⟨by ((repeat' apply And.intro) <;> (first | exact True.intro | exact NEq.refl _ | (refine NEq.int ?_; first | exact rfl | omega | (rw [wrapI (by omega)]; first | exact rfl | omega)))), ⟨⟨rfl, .refl _⟩, ⟨rfl, .refl _⟩, ⟨rfl, ?_⟩, ⟨rfl, .refl _⟩, trivial⟩, .nil⟩⟩
        show NEq _ (owW n (meets o (o.irs.getD k default).d W2 (g.take (j + 1))))
        rw [take_succD 0 hjl, meets_snoc, ← hW3, show 0 + (j : Int).toNat = j by omega, getD_app0 _ _ hjl]
        exact .refl _
      · obtain rfl : j = g.length := by omega
        repeat' (first | refine vcI ?_ | refine And.intro ?_ ?_ | (intro hq; (try simp at hq); (try (exfalso; omega)); (try (revert hq; intro))))
        refine Exists.intro (k + 1, v, vo) ⟨by dsimp only; omega, (by first | omega | (dsimp only; omega)), ⟨by ((repeat' apply And.intro) <;> (first | exact True.intro | exact NEq.refl _ | (refine NEq.int ?_; first | exact rfl | omega | (rw [wrapI (by omega)]; first | exact rfl | omega)))), ⟨⟨rfl, ?_⟩, ⟨rfl, .refl _⟩, trivial⟩, .nil⟩⟩
        show NEq _ (owW n (togI o k (togW o k)))
        unfold togI
        rw [if_pos hst, List.take_length, ← hW1, ← hW2, ← hg]
        exact .refl _
  · obtain rfl : k = o.irs.length := by omega
    exact keepS_own rfl
end Go.Ab
namespace Go.Ab
open Go.Proofs
set_option maxRecDepth 100000
set_option maxHeartbeats 4000000

def pairF (r : Nat) (l : List Int) : List (Int × Int) := (l.filter fun q => decide ((r : Int) < q)).map fun q => ((r : Int), q)
noncomputable def colT (o : DO) : Nat → Nat → Nat := togW o o.irs.length
noncomputable def collK (o : DO) (k : Nat) : List (Int × Int) := (List.range k).flatMap fun r => pairF r (listW (colT o r) 250)
noncomputable def collL (o : DO) : List (Int × Int) := collK o o.regs.toNat
theorem collK_succ (o : DO) (k : Nat) : collK o (k + 1) = collK o k ++ pairF k (listW (colT o k) 250) := by
  unfold collK; rw [List.range_succ, List.flatMap_append]; simp
theorem pairF_snoc (r : Nat) (l : List Int) (q : Int) : pairF r (l ++ [q]) = pairF r l ++ (if (r : Int) < q then [((r : Int), q)] else []) := by
  unfold pairF
  rw [List.filter_append, List.map_append]
  congr 1
  by_cases h : (r : Int) < q <;> simp [h]
theorem collK_len (o : DO) : ∀ k, (collK o k).length ≤ 250 * k
  | 0 => by simp [collK]
  | k + 1 => by
    have ih := collK_len o k
    have h1 := listW_len (colT o k) 250
    have h2 : (pairF k (listW (colT o k) 250)).length ≤ (listW (colT o k) 250).length := by unfold pairF; rw [List.length_map]; exact List.length_filter_le _ _
    rw [collK_succ, List.length_append]
    omega
theorem mem_pairF {r : Nat} {l : List Int} {p : Int × Int} : p ∈ pairF r l ↔ p.1 = r ∧ p.2 ∈ l ∧ p.1 < p.2 := by
  obtain ⟨a, b⟩ := p
  simp only [pairF, List.mem_map, List.mem_filter, decide_eq_true_eq, Prod.mk.injEq]
  constructor
  · rintro ⟨q, ⟨h1, h2⟩, rfl, rfl⟩; exact ⟨rfl, h1, h2⟩
  · rintro ⟨rfl, h1, h2⟩; exact ⟨b, ⟨h1, h2⟩, rfl, rfl⟩
theorem mem_collK {o : DO} {k : Nat} {p : Int × Int} : p ∈ collK o k ↔ ∃ r : Nat, r < k ∧ p.1 = r ∧ p.2 ∈ listW (colT o r) 250 ∧ p.1 < p.2 := by
  unfold collK
  simp only [List.mem_flatMap, List.mem_range, mem_pairF]

theorem pairs_spec (o : DO) (lv : PV) : CallsF Tryz.prog 36 [codeP o lv] (.func (.func 83) [] [.fptr 1 (fun _ => codeP o lv) 0]) := by
  refine callsF_ofS mx Tryz.call36 Tryz.func36 rfl Tryz.ntmps36 Tryz.results36 (by kernel_rfl) (by simp) fun lo => ?_
  repeat' (first | refine vcI ?_ | refine And.intro ?_ ?_ | (intro hq; (try simp at hq); (try (exfalso; omega)); (try (revert hq; intro))))
  refine NEq.clos (NEq.fptr fun q hq => ?_)
  obtain rfl : q = 0 := by omega
  exact .refl _

theorem pairs1_spec (o : DO) (H : FlH o) (hr1 : 1 ≤ o.regs) (id : RId) (v nv0 : Nat) (L0 S : Hp) (hS : Above 2 S) (Inv Brk : List (Int × Int) → Hp → Prop) (h0 : Inv [] L0) (hnd : ∀ p L, Inv p L ∨ Brk p L → (L.map (·.1)).Nodup ∧ Above 2 L)
    (hst : ∀ S' pre L nv a b, Inv pre L → (a, b) ∈ collL o → pre.length ≤ 100000 → YieldS Tryz.prog S' id v [.agg [.int .i64 a, .int .i64 b]] L nv fun y L' _ => (y = .bool true ∧ Inv (pre ++ [(a, b)]) L') ∨ (y = .bool false ∧ Brk (pre ++ [(a, b)]) L')) :
    CallsA Tryz.prog 83 [.sref .loop id v, .fptr 1 (fun _ => codeP o (frW o.irs.length fun i => wordsP (LiveP o i))) 0] (L0 ++ S) nv0 fun _ hp' _ => ∃ L', hp' = L' ++ S ∧ (Inv (collL o) L' ∨ ∃ pre, Brk pre L') := by
  have hrr := H.hr
  obtain ⟨n, hn⟩ : ∃ n : Nat, o.regs = (n : Int) := ⟨o.regs.toNat, (Int.toNat_of_nonneg (by omega)).symm⟩
  have hnt : o.regs.toNat = n := by omega
  have htg := together_spec o H hr1
  rw [hnt] at htg
  refine callsA_ofS (lv := 2) (by decide) mx Tryz.call83 Tryz.func83 rfl Tryz.ntmps83 Tryz.results83 (by kernel_rfl) (by simp) fun lo => ?_
  repeat' (first | refine vcI ?_ | refine And.intro ?_ ?_ | (intro hq; (try simp at hq); (try (exfalso; omega)); (try (revert hq; intro))))
  refine CallS.own (owW n (colT o)) (fun id ver => .ref id ver [] 4 0 n) htg (plainAll rfl) ?_
  have hd0 := hnd [] L0 (.inl h0)
  rw [delS_id (hd0.2 2 8 (Nat.le_refl _))]
  repeat' (first | refine vcI ?_ | refine And.intro ?_ ?_ | (intro hq; (try simp at hq); (try (exfalso; omega)); (try (revert hq; intro))))
  refine loopS3 mx (by decide) (by kernel_rfl) (fun (k : Nat) (L : Hp) (v8 : Nat) => k ≤ n ∧ Inv (collK o k) L) (fun k L v8 => [(10, .int .i64 k), (9, .int .i64 n), (8, .ref (2, 8) v8 [] 4 0 n), (0, .sref .loop id v)]) (fun k L v8 => ((2, 8), ⟨v8, owW n (colT o)⟩) :: L) (fun k L v8 => n - k) 0 L0 _ ⟨by simp, by simpa [collK] using h0⟩ ⟨by ((repeat' apply And.intro) <;> (first | exact True.intro | exact NEq.refl _ | (refine NEq.int ?_; first | exact rfl | omega | (rw [wrapI (by omega)]; first | exact rfl | omega)))), ⟨⟨rfl, .refl _⟩, .tail (own := [_]) hd0.1 hd0.2 rfl⟩, .tail (own := [_]) (own' := [_]) hS rfl⟩ ?_
  rintro k L v8 nv ⟨hk, hI⟩
  have hd := hnd _ _ (.inl hI)
  have no : ∀ d, lkH L (2, d) = none := fun d => hd.2 2 d (Nat.le_refl _)
  have hwk : IntKind.i64.wrap ((k : Int) + 1) = ((k + 1 : Nat) : Int) := wrapI (by omega)
  repeat' (first | refine vcI ?_ | refine And.intro ?_ ?_ | (intro hq; (try simp at hq); (try (exfalso; omega)); (try (revert hq; intro))))
  · have hkn : k < n := by assumption
    refine wrB ?_
    rw [delS_id (lkH_tl (no 4) rfl)]
    repeat' (first | refine vcI ?_ | refine And.intro ?_ ?_ | (intro hq; (try simp at hq); (try (exfalso; omega)); (try (revert hq; intro))))
    refine wrB ?_
    rw [delS_hd, delS_id (lkH_tl (no 4) rfl)]
    repeat' (first | refine vcI ?_ | refine And.intro ?_ ?_ | (intro hq; (try simp at hq); (try (exfalso; omega)); (try (revert hq; intro))))
    have hcl : ∀ q, colT o k q < 18446744073709551616 := togW_lt o _ k
    have ek : 0 + (k : Int).toNat = k := by omega
    refine CallS.ownInts [.fptr 4 (setC (colT o (0 + (k : Int).toNat))) 0] (listW (colT o (0 + (k : Int).toNat)) 250) (setList_spec _ (togW_lt o _ _)) (LeL.cons (view_box (k := 8) rfl ?_) LeL.nil) ?_
    · intro q hq
      rcases (by have : q < 4 := hq; omega : q = 0 ∨ q = 1 ∨ q = 2 ∨ q = 3) with rfl | rfl | rfl | rfl <;> exact .refl _
    rw [ek]
    rw [delS_id (lkH_tl (lkH_tl (no 15) rfl) rfl)]
    repeat' (first | refine vcI ?_ | refine And.intro ?_ ?_ | (intro hq; (try simp at hq); (try (exfalso; omega)); (try (revert hq; intro))))
    obtain ⟨l, hl⟩ : ∃ l, l = listW (colT o k) 250 := ⟨_, rfl⟩
    have hlen : l.length ≤ 250 := by rw [hl]; exact listW_len _ _
    rw [← hl]
    refine loopS4 mx (by decide) (by kernel_rfl) (fun (j : Nat) (L : Hp) (v15 v8 : Nat) => j ≤ l.length ∧ Inv (collK o k ++ pairF k (l.take j)) L) (fun j L v15 v8 => [(17, .int .i64 j), (16, .int .i64 l.length), (15, .ref (2, 15) v15 [] 1 0 l.length), (3, .int .i64 k), (10, .int .i64 k), (9, .int .i64 n), (8, .ref (2, 8) v8 [] 4 0 n), (0, .sref .loop id v)]) (fun j L v15 v8 => ((2, 15), ⟨v15, oints l⟩) :: ((2, 8), ⟨v8, owW n (colT o)⟩) :: L) (fun j L v15 v8 => l.length - j) 0 L _ v8 ⟨by simp, by simpa [pairF] using hI⟩ ⟨by ((repeat' apply And.intro) <;> (first | exact True.intro | exact NEq.refl _ | (refine NEq.int ?_; first | exact rfl | omega | (rw [wrapI (by omega)]; first | exact rfl | omega)))), ⟨⟨rfl, .refl _⟩, ⟨rfl, .refl _⟩, .tail (own := [_, _, _]) hd.1 hd.2 rfl⟩, .tail (own := [_, _, _]) (own' := [_, _]) hS rfl⟩ ?_
    rintro j L v15 v8 nv ⟨hj, hI⟩
    have hd := hnd _ _ (.inl hI)
    have no : ∀ d, lkH L (2, d) = none := fun d => hd.2 2 d (Nat.le_refl _)
    have hwj : IntKind.i64.wrap ((j : Int) + 1) = ((j + 1 : Nat) : Int) := wrapI (by omega)
    repeat' (first | refine vcI ?_ | refine And.intro ?_ ?_ | (intro hq; (try simp at hq); (try (exfalso; omega)); (try (revert hq; intro))))
    · have hjl : j < l.length := by assumption
      have ej : 0 + (j : Int).toNat = j := by omega
      have hlt : (k : Int) < l.getD (0 + (j : Int).toNat) 0 := by rw [ej]; assumption
      have hgt : decide (l.getD (0 + (j : Int).toNat) 0 > (k : Int)) = true := decide_eq_true hlt
      have hmem : ((k : Int), l.getD (0 + (j : Int).toNat) 0) ∈ collL o := mem_collK.2 ⟨k, by omega, rfl, by rw [ej, List.getD_eq_getElem?_getD, ← hl]; exact getD_mem _ hjl, hlt⟩
      have esn : pairF k (l.take (j + 1)) = pairF k (l.take j) ++ [((k : Int), l.getD (0 + (j : Int).toNat) 0)] := by
        rw [take_succD 0 hjl, pairF_snoc, ej, if_pos (by rw [← ej]; exact hlt)]
      have hpl : (collK o k ++ pairF k (l.take j)).length ≤ 100000 := by
        have h1 := collK_len o k
        have h2 : (pairF k (l.take j)).length ≤ (l.take j).length := by unfold pairF; rw [List.length_map]; exact List.length_filter_le _ _
        rw [List.length_append]
        rw [List.length_take] at h2
        omega
      rw [hgt]
      refine YieldS.frame (own := [((2, 15), _), ((2, 8), _)]) hd.2 rfl (hst _ _ _ _ (k : Int) (l.getD (0 + (j : Int).toNat) 0) hI hmem hpl) ?_
      rintro y L1 nv1 (⟨rfl, hI1⟩ | ⟨rfl, hB1⟩)
      · have hd1 := hnd _ _ (.inl hI1)
        refine ⟨hd1.2, ?_⟩
        repeat' (first | refine vcI ?_ | refine And.intro ?_ ?_ | (intro hq; (try simp at hq); (try (exfalso; omega)); (try (revert hq; intro))))
        exact Exists.intro (j + 1, L1, v15, v8) ⟨⟨by dsimp only; omega, by dsimp only; rw [esn, ← List.append_assoc]; exact hI1⟩, (by first | omega | (dsimp only; omega)), ⟨by ((repeat' apply And.intro) <;> (first | exact True.intro | exact NEq.refl _ | (refine NEq.int ?_; first | exact rfl | omega | (rw [wrapI (by omega)]; first | exact rfl | omega)))), ⟨⟨rfl, .refl _⟩, ⟨rfl, .refl _⟩, .tail (own := [_, _]) hd1.1 hd1.2 rfl⟩, .tail (own := [_, _]) (own' := [_, _]) hS rfl⟩⟩
      · have hd1 := hnd _ _ (.inr hB1)
        refine ⟨hd1.2, ?_⟩
        repeat' (first | refine vcI ?_ | refine And.intro ?_ ?_ | (intro hq; (try simp at hq); (try (exfalso; omega)); (try (revert hq; intro))))
        exact Exists.intro (PV.tup []) (Exists.intro L1 (And.intro (.inr ⟨_, hB1⟩) (And.intro (.refl _) (And.intro (.tail (own := [_, _]) hd1.1 hd1.2 rfl) (.tail (own := [_, _]) (own' := []) hS rfl)))))
    · have hjl : j < l.length := by assumption
      have hle : ¬ (k : Int) < l.getD j 0 := by
        have h9 : l[j]?.getD 0 ≤ (k : Int) := by assumption
        show ¬ (k : Int) < l[j]?.getD 0
        omega
      have esn : pairF k (l.take (j + 1)) = pairF k (l.take j) := by
        rw [take_succD 0 hjl, pairF_snoc, if_neg hle, List.append_nil]
      repeat' (first | refine vcI ?_ | refine And.intro ?_ ?_ | (intro hq; (try simp at hq); (try (exfalso; omega)); (try (revert hq; intro))))
      exact Exists.intro (j + 1, L, v15, v8) ⟨⟨by dsimp only; omega, by dsimp only; rw [esn]; exact hI⟩, (by first | omega | (dsimp only; omega)), ⟨by ((repeat' apply And.intro) <;> (first | exact True.intro | exact NEq.refl _ | (refine NEq.int ?_; first | exact rfl | omega | (rw [wrapI (by omega)]; first | exact rfl | omega)))), ⟨⟨rfl, .refl _⟩, ⟨rfl, .refl _⟩, .tail (own := [_, _]) hd.1 hd.2 rfl⟩, .tail (own := [_, _]) (own' := [_, _]) hS rfl⟩⟩
    · obtain rfl : j = l.length := by omega
      repeat' (first | refine vcI ?_ | refine And.intro ?_ ?_ | (intro hq; (try simp at hq); (try (exfalso; omega)); (try (revert hq; intro))))
      exact Exists.intro (k + 1, L, v8) ⟨⟨by dsimp only; omega, by dsimp only; rw [collK_succ, ← hl]; rw [List.take_length] at hI; exact hI⟩, (by first | omega | (dsimp only; omega)), ⟨by ((repeat' apply And.intro) <;> (first | exact True.intro | exact NEq.refl _ | (refine NEq.int ?_; first | exact rfl | omega | (rw [wrapI (by omega)]; first | exact rfl | omega)))), ⟨⟨rfl, .refl _⟩, .tail (own := [_, _]) hd.1 hd.2 rfl⟩, .tail (own := [_, _]) (own' := [_]) hS rfl⟩⟩
  · obtain rfl : k = n := by omega
    exact Exists.intro (PV.tup []) (Exists.intro L (And.intro (.inl (by unfold collL; rw [hnt]; exact hI)) (And.intro (.refl _) (And.intro (.tail (own := [_]) hd.1 hd.2 rfl) (.tail (own := [_]) (own' := []) hS rfl)))))
end Go.Ab
namespace Go.Ab
open Go.Proofs
set_option maxRecDepth 100000
set_option maxHeartbeats 1000000

/-- Two registers collide at an instruction. -/
def ColI (o : DO) (i a b : Nat) : Prop := (LiveP o i a ∧ LiveP o i b) ∨ (setsB (o.irs.getD i default).op = true ∧
  (((a : Int) = (o.irs.getD i default).d ∧ (LiveP o i b ∨ ∃ k ∈ goesL (o.irs.getD i default) i, LiveP o k.toNat b)) ∨ ((b : Int) = (o.irs.getD i default).d ∧ (LiveP o i a ∨ ∃ k ∈ goesL (o.irs.getD i default) i, LiveP o k.toNat a))))
theorem bit_lvW (o : DO) (i q : Nat) : bitW (lvW o i) q = true ↔ LiveP o i q := bit_wordsP _ _
theorem bit_meets {o : DO} {d : Int} (hd : 0 ≤ d) (W : Nat → Nat → Nat) {a b : Nat} (ha : a < 250) (hb : b < 250) (l : List Int) : bitW (meets o d W l a) b = true ↔ bitW (W a) b = true ∨ ∃ k ∈ l, ((a : Int) = d ∧ LiveP o k.toNat b) ∨ (LiveP o k.toNat a ∧ (b : Int) = d) := by
  unfold meets
  induction l generalizing W with
  | nil => simp
  | cons k l ih =>
    rw [List.foldl_cons, ih, bit_meetW _ _ ha (by omega) [d] (by simpa using hd), bit_lvW, bit_lvW]
    simp only [List.mem_cons, List.not_mem_nil, or_false, exists_eq_or_imp]
    constructor
    · rintro ((h | h | h) | h)
      · exact .inl h
      · exact .inr (.inl (.inl h))
      · exact .inr (.inl (.inr h))
      · exact .inr (.inr h)
    · rintro (h | (h | h) | h)
      · exact .inl (.inl h)
      · exact .inl (.inr (.inl h))
      · exact .inl (.inr (.inr h))
      · exact .inr h
theorem bit_togI {o : DO} (H : FlH o) {i : Nat} (hi : i < o.irs.length) (W : Nat → Nat → Nat) {a b : Nat} (ha : a < 250) (hb : b < 250) : bitW (togI o i W a) b = true ↔ bitW (W a) b = true ∨ ColI o i a b := by
  have h1 : bitW (meetW W (lvW o i) (listW (lvW o i) 250) a) b = true ↔ bitW (W a) b = true ∨ (LiveP o i a ∧ LiveP o i b) := by
    rw [bit_meetW _ _ ha (by omega) _ (fun k hk => (listW_nn k hk).1), mem_listS ha, mem_listS hb, bit_lvW, bit_lvW]
    simp only [or_self]
  unfold togI ColI
  by_cases hs : setsB (o.irs.getD i default).op = true
  · have hd := H.d hi hs
    rw [if_pos hs, bit_meets hd.1 _ ha hb, bit_meetW _ _ ha (by omega) _ (by simpa using hd.1), h1, bit_lvW, bit_lvW]
    simp only [List.mem_singleton, hs, true_and]
    constructor
    · rintro ((( h | h) | ⟨h, k⟩ | ⟨h, k⟩) | ⟨x, x1, ⟨h, k⟩ | ⟨h, k⟩⟩)
      · exact .inl h
      · exact .inr (.inl h)
      · exact .inr (.inr (.inl ⟨h, .inl k⟩))
      · exact .inr (.inr (.inr ⟨k, .inl h⟩))
      · exact .inr (.inr (.inl ⟨h, .inr ⟨x, x1, k⟩⟩))
      · exact .inr (.inr (.inr ⟨k, .inr ⟨x, x1, h⟩⟩))
    · rintro (h | h | ⟨h, k | ⟨x, x1, k⟩⟩ | ⟨h, k | ⟨x, x1, k⟩⟩)
      · exact .inl (.inl (.inl h))
      · exact .inl (.inl (.inr h))
      · exact .inl (.inr (.inl ⟨h, k⟩))
      · exact .inr ⟨x, x1, .inl ⟨h, k⟩⟩
      · exact .inl (.inr (.inr ⟨k, h⟩))
      · exact .inr ⟨x, x1, .inr ⟨k, h⟩⟩
  · rw [if_neg hs, h1]
    simp only [hs, false_and, or_false, Bool.false_eq_true]
theorem bit_togW {o : DO} (H : FlH o) {a b : Nat} (ha : a < 250) (hb : b < 250) : ∀ k, k ≤ o.irs.length → (bitW (togW o k a) b = true ↔ ∃ i, i < k ∧ ColI o i a b)
  | 0, _ => by simp [togW, bitW]
  | k + 1, hk => by
    unfold togW
    rw [bit_togI H (by omega) _ ha hb, bit_togW H ha hb k (by omega)]
    constructor
    · rintro (⟨i, h1, h2⟩ | h)
      · exact ⟨i, by omega, h2⟩
      · exact ⟨k, by omega, h⟩
    · rintro ⟨i, h1, h2⟩
      by_cases e : i = k
      · subst e; exact .inr h2
      · exact .inl ⟨i, by omega, h2⟩
/-- Two registers collide. -/
def ColP (o : DO) (a b : Nat) : Prop := ∃ i, i < o.irs.length ∧ ColI o i a b
theorem bit_colT {o : DO} (H : FlH o) {a b : Nat} (ha : a < 250) (hb : b < 250) : bitW (colT o a) b = true ↔ ColP o a b := bit_togW H ha hb _ (Nat.le_refl _)
theorem ColP.symm {o : DO} {a b : Nat} (h : ColP o a b) : ColP o b a := by
  obtain ⟨i, hi, h | ⟨hs, h | h⟩⟩ := h
  · exact ⟨i, hi, .inl ⟨h.2, h.1⟩⟩
  · exact ⟨i, hi, .inr ⟨hs, .inr h⟩⟩
  · exact ⟨i, hi, .inr ⟨hs, .inl h⟩⟩
theorem ColP.lt {o : DO} (H : FlH o) {a b : Nat} (h : ColP o a b) : (a : Int) < o.regs ∧ (b : Int) < o.regs := by
  obtain ⟨i, hi, h | ⟨hs, ⟨h1, h2⟩ | ⟨h1, h2⟩⟩⟩ := h
  · exact ⟨(h.1.lt H).1, (h.2.lt H).1⟩
  · have hd := H.dR hi hs
    refine ⟨by omega, ?_⟩
    rcases h2 with h2 | ⟨k, _, h2⟩
    · exact (h2.lt H).1
    · exact (h2.lt H).1
  · have hd := H.dR hi hs
    refine ⟨?_, by omega⟩
    rcases h2 with h2 | ⟨k, _, h2⟩
    · exact (h2.lt H).1
    · exact (h2.lt H).1
end Go.Ab
namespace Go.Ab
open Go.Proofs
set_option maxRecDepth 100000
set_option maxHeartbeats 4000000

def ownB (o : DO) (k i r : Nat) : Bool := decide ((r : Int) ∈ (ownL o i).take k)
/-- Rows that were made already. -/
def rowsK (o : DO) (m i : Nat) : Nat → Nat → PV := fun a _ => if a < i then .own 1 m (fun r _ => .bool (ownB o (ownL o a).length a r)) else .nils
def rowsG (o : DO) (m i v : Nat) : Nat → Nat → PV := fun a b => if a = i then .ref (1, 31) v [] 1 0 m else rowsK o m i a b
theorem rowsG_ld (o : DO) (m i v v' : Nat) : (fun j => cellV (1, 19) v' [] (0 + (i : Int).toNat) j (rowsG o m i v (0 + (i : Int).toNat) j)) = fun _ => .ref (1, 31) v [] 1 0 m := by
  funext j
  rw [show rowsG o m i v (0 + (i : Int).toNat) j = .ref (1, 31) v [] 1 0 m by simp [rowsG]]; rfl
theorem rowsG_put (o : DO) {m i v a b sz k : Nat} (hb : b < 1) (hs : sz = 1) (hk : k = m) : NEq (if a = 0 + (i : Int).toNat ∧ 0 ≤ b ∧ b < 0 + 1 then List.getD [PV.ref (1, 31) v [] sz 0 k] (b - 0) .undef else rowsK o m i a b) (rowsG o m i v a b) := by
  subst hs hk
  obtain rfl : b = 0 := by omega
  unfold rowsG
  by_cases e : a = i
  · rw [if_pos ⟨by omega, by omega, by omega⟩, if_pos e]; exact .refl _
  · rw [if_neg (fun h => e (by omega)), if_neg e]; exact .refl _
theorem ownB_put (o : DO) {i k r b : Nat} {x : Int} (hk : k < (ownL o i).length) (hx : (ownL o i).getD k 0 = x) (h0 : 0 ≤ x) (hb : b < 1) : NEq (if r = 0 + x.toNat ∧ 0 ≤ b ∧ b < 0 + 1 then List.getD [PV.bool true] (b - 0) .undef else .bool (ownB o k i r)) (.bool (ownB o (k + 1) i r)) := by
  obtain rfl : b = 0 := by omega
  have e : ownB o (k + 1) i r = (ownB o k i r || decide (r = x.toNat)) := by
    unfold ownB
    rw [take_succD 0 hk, hx, ← Bool.decide_or]
    congr 1
    simp only [List.mem_append, List.mem_singleton, eq_iff_iff]
    exact or_congr Iff.rfl (by omega)
  rw [e]
  by_cases h : r = x.toNat
  · rw [if_pos ⟨by omega, by omega, by omega⟩]; simp [h]; exact .refl _
  · rw [if_neg (fun h2 => h (by omega))]; simp [h]; exact .refl _
theorem keepS_bb {L : Hp} {r : RId} {v n m : Nat} {W W' : Nat → Nat → Bool} (h : lkH L r = some ⟨v, bbN n m W⟩) (hw : ∀ a b, a < n → b < m → W a b = W' a b) : keepS (fun id ver => .ref id ver [] 1 0 n) (bbN n m W') (.ref r v [] 1 0 n) L :=
  .inl ⟨r, v, _, h, setH L r none, fun j => lookH_setH L r j none, fun id ver => ⟨.refs rfl rfl rfl, .own fun a o ha ho => .own fun b o' hb ho' => .leaf rfl rfl (.view (NEq.of_eq (congrArg PV.bool (hw a b ha hb))))⟩⟩
theorem mk_ir (o : DO) (i : Nat) : mkV Tryz.prog 58 (fun q => (dil (o.irs.getD (i : Int).toNat default)).getD q .undef) 0 = .agg (dil (o.irs.getD i default)) := by
  show PV.agg (List.map _ (List.range (Tryz.prog.cellsOf 58))) = _
  rw [show Tryz.prog.cellsOf 58 = 16 by kernel_rfl]; rfl
theorem bb_put {W : Nat → Nat → Bool} {m i r a x : Nat} (hx : x < 1) : NEq (if a = 0 + (i : Int).toNat ∧ x = 0 then .own 1 m (fun c b => if c = 0 + (r : Int).toNat ∧ 0 ≤ b ∧ b < 0 + 1 then List.getD [PV.bool true] (b - 0) .undef else .bool (W (0 + (i : Int).toNat) c)) else .own 1 m fun c _ => .bool (W a c)) (.own 1 m fun c _ => .bool (setB W i r a c)) := by
  by_cases e : a = i
  · rw [if_pos ⟨by omega, by omega⟩]
    refine NEq.owns rfl rfl fun c b hc hb => NEq.of_eq ?_
    obtain rfl : b = 0 := by omega
    rw [show 0 + (i : Int).toNat = a by omega]
    unfold setB
    by_cases e2 : c = r
    · rw [if_pos ⟨by omega, by omega, by omega⟩, if_pos ⟨e, e2⟩]; rfl
    · rw [if_neg (fun h => e2 (by omega)), if_neg (fun h => e2 h.2)]
  · rw [if_neg (fun h => e (by omega))]
    refine NEq.owns rfl rfl fun c b hc hb => NEq.of_eq ?_
    unfold setB
    rw [if_neg (fun h => e h.1)]
open Classical in
noncomputable def lvB (o : DO) (i r : Nat) : Bool := decide (LiveP o i r)
theorem LiveOf_spec (o : DO) (H : FlH o) (hr1 : 1 ≤ o.regs) : CallsO Tryz.prog 34 [.fptr 12 (rowL (dol o)) 0] (bbN o.irs.length o.regs.toNat (lvB o)) (fun id ver => .ref id ver [] 1 0 o.irs.length) := by
  have hil : o.irs.length ≤ 6000 := by have := H.hf; unfold fewN at this; omega
  have hrr := H.hr
  have hd := H.hd
  obtain ⟨m, hm⟩ : ∃ m : Nat, o.regs = (m : Int) := ⟨o.regs.toNat, (Int.toNat_of_nonneg (by omega)).symm⟩
  have hmt : o.regs.toNat = m := by omega
  rw [hmt]
  refine callsO_ofS mx Tryz.call34 Tryz.func34 rfl Tryz.ntmps34 Tryz.results34 (by kernel_rfl) (by simp) fun lo => ?_
  repeat' (first | refine vcI ?_ | refine And.intro ?_ ?_ | (intro hq; (try simp at hq); (try (exfalso; omega)); (try (revert hq; intro))))
  · rw [show Tryz.prog.bytesOf 81 = 24 by kernel_rfl]; omega
  · rfl
  refine Exists.intro (.own 1 o.irs.length (rowsK o m 0)) (And.intro ?_ (And.intro rfl ?_))
  · refine NEq.owns rfl (by simp) fun i b hi hb => ?_
    obtain rfl : b = 0 := by omega
    exact .refl _
  repeat' (first | refine vcI ?_ | refine And.intro ?_ ?_ | (intro hq; (try simp at hq); (try (exfalso; omega)); (try (revert hq; intro))))
  refine loopGS2 mx (by decide) (by kernel_rfl) (fun (i v4 : Nat) => i ≤ o.irs.length) (fun i v4 => [(5, .int .i64 i), (4, .ref (1, 19) v4 [] 1 0 o.irs.length), (3, .int .i64 o.irs.length), (0, .fptr 12 (rowL (dol o)) 0)]) (fun i v4 => [((1, 19), ⟨v4, .own 1 o.irs.length (rowsK o m i)⟩)]) (fun i v4 => o.irs.length - i) 0 _ (by simp) ⟨by ((repeat' apply And.intro) <;> (first | exact True.intro | exact NEq.refl _ | (refine NEq.int ?_; first | exact rfl | omega | (rw [wrapI (by omega)]; first | exact rfl | omega)))), ⟨⟨rfl, .refl _⟩, trivial⟩, .nil⟩ ?_
  intro i v4 nv hi
  have hwi : IntKind.i64.wrap ((i : Int) + 1) = ((i + 1 : Nat) : Int) := wrapI (by omega)
  repeat' (first | refine vcI ?_ | refine And.intro ?_ ?_ | (intro hq; (try simp at hq); (try (exfalso; omega)); (try (revert hq; intro))))
  · rw [show Tryz.prog.bytesOf 4 = 1 by kernel_rfl]; omega
  · rfl
  · have hin : i < o.irs.length := by assumption
    rw [hm]
    refine Exists.intro (.own 1 m fun r _ => .bool (ownB o 0 i r)) (And.intro ?_ (And.intro rfl ?_))
    · refine NEq.owns rfl (by simp) fun r b hr hb => ?_
      obtain rfl : b = 0 := by omega
      refine NEq.of_eq ?_
      show PV.bool false = PV.bool (ownB o 0 i r)
      simp [ownB]
    repeat' (first | refine vcI ?_ | refine And.intro ?_ ?_ | (intro hq; (try simp at hq); (try (exfalso; omega)); (try (revert hq; intro))))
    · simp [rowsK]; rfl
    refine Exists.intro (.own 1 o.irs.length (rowsG o m i _)) (And.intro (NEq.owns rfl rfl fun a b ha hb => rowsG_put o hb rfl (by omega)) (And.intro rfl ?_))
    repeat' (first | refine vcI ?_ | refine And.intro ?_ ?_ | (intro hq; (try simp at hq); (try (exfalso; omega)); (try (revert hq; intro))))
    have hx : (o.irs.getD i default).args.length ≤ 1048576 := by
      have hsh := H.sh i hin
      simp only [shapedX, Bool.and_eq_true, decide_eq_true_eq] at hsh
      omega
    have hfr : frN (o.descs.getD i []) ≤ 6000 := by
      have h1 := sumL_mem (f := frN) (l := o.descs) (x := o.descs.getD i []) (by rw [List.getD_eq_getElem?_getD]; exact getD_mem _ (by rw [hd]; exact hin))
      have := H.hf
      unfold fewN at this
      omega
    have hus := usesL_len [] (o.descs.getD i [])
    have hus2 : (usesL (o.descs.getD i [])).length ≤ 30000 := by
      unfold frN at hfr
      unfold usesL
      simp only [List.length_nil] at hus
      omega
    have huu := usedL_len (o.irs.getD i default) (o.descs.getD i []) hx
    rw [show Tryz.prog.cellsOf 58 = 16 by kernel_rfl]
    refine QS.own (oints (usedL (o.irs.getD i default) (o.descs.getD i []))) (fun id ver => .ref id ver [] 1 0 (usedL (o.irs.getD i default) (o.descs.getD i [])).length) (Used_spec (o.irs.getD i default) (o.descs.getD i []) hx) (plainAll rfl) ?_
    repeat' (first | refine vcI ?_ | refine And.intro ?_ ?_ | (intro hq; (try simp at hq); (try (exfalso; omega)); (try (revert hq; intro))))
    refine CallS.frozen (ints (usesL (o.descs.getD i []))) (Uses_spec (o.descs.getD i []) hfr) (plainAll rfl) ?_
    repeat' (first | refine vcI ?_ | refine And.intro ?_ ?_ | (intro hq; (try simp at hq); (try (exfalso; omega)); (try (revert hq; intro))))
    · rfl
    obtain ⟨ul, hul⟩ : ∃ ul, ul = ownL o i := ⟨_, rfl⟩
    refine Exists.intro (oints ul) (And.intro ?_ (And.intro (shape_ints (by rw [hul]; exact List.length_append.symm)) ?_))
    · rw [hul]; exact app_ints rfl rfl (fun i o hi ho => by (try dsimp only); rw [if_pos hi]; exact .refl _) (fun i o hi ho => by (try dsimp only); rw [if_neg (by omega), Nat.add_sub_cancel_left]; (try rw [cellV_pcell]); (try simp only [Nat.zero_add]); exact .refl _)
    rw [show (usedL (o.irs.getD i default) (o.descs.getD i [])).length + (usesL (o.descs.getD i [])).length = ul.length by rw [hul]; exact List.length_append.symm]
    repeat' (first | refine vcI ?_ | refine And.intro ?_ ?_ | (intro hq; (try simp at hq); (try (exfalso; omega)); (try (revert hq; intro))))
    have hull : ul.length ≤ 2000000 := by rw [hul]; unfold ownL; rw [List.length_append]; omega
    have hulr : ∀ j, j < ul.length → 0 ≤ ul.getD j 0 ∧ ul.getD j 0 < (m : Int) := fun j hj => by
      have h1 : ul.getD j 0 ∈ ownL o i := by rw [← hul, List.getD_eq_getElem?_getD]; exact getD_mem _ hj
      have h2 := H.use hin _ h1
      have h3 := H.useR hin _ h1
      omega
    refine loopS4 mx (by decide) (by kernel_rfl) (fun (k v47 v31 v19 : Nat) => k ≤ ul.length) (fun k v47 v31 v19 => [(7, .int .i64 k), (6, .ref (1, 47) v47 [] 1 0 ul.length), (5, .int .i64 i), (4, .ref (1, 19) v19 [] 1 0 o.irs.length), (3, .int .i64 o.irs.length), (0, .fptr 12 (rowL (dol o)) 0)]) (fun k v47 v31 v19 => [((1, 47), ⟨v47, oints ul⟩), ((1, 31), ⟨v31, .own 1 m fun r _ => .bool (ownB o k i r)⟩), ((1, 19), ⟨v19, .own 1 o.irs.length (rowsG o m i v31)⟩)]) (fun k v47 v31 v19 => ul.length - k) 0 _ _ _ (by simp) ⟨by ((repeat' apply And.intro) <;> (first | exact True.intro | exact NEq.refl _ | (refine NEq.int ?_; first | exact rfl | omega | (rw [wrapI (by omega)]; first | exact rfl | omega)))), ⟨⟨rfl, .refl _⟩, ⟨rfl, .refl _⟩, ⟨rfl, .refl _⟩, trivial⟩, .nil⟩ ?_
    intro k v47 v31 v19 nv hk
    have hwk : IntKind.i64.wrap ((k : Int) + 1) = ((k + 1 : Nat) : Int) := wrapI (by omega)
    repeat' (first | refine vcI ?_ | refine And.intro ?_ ?_ | (intro hq; (try simp at hq); (try (exfalso; omega)); (try (revert hq; intro))))
    · have hkl : k < ul.length := by assumption
      have hkr := hulr k hkl
      rw [rowsG_ld]
      repeat' (first | refine vcI ?_ | refine And.intro ?_ ?_ | (intro hq; (try simp at hq); (try (exfalso; omega)); (try (revert hq; intro))))
      · rw [show 0 + (k : Int).toNat = k by omega]; exact hkr.1
      · rw [show 0 + (k : Int).toNat = k by omega]; have := hkr.2; omega
      · rfl
      refine Exists.intro (.own 1 m fun r _ => .bool (ownB o (k + 1) i r)) (And.intro (NEq.owns rfl rfl fun r b hr hb => ownB_put o (by rw [← hul]; exact hkl) (by rw [← hul, show 0 + (k : Int).toNat = k by omega]) (by rw [show 0 + (k : Int).toNat = k by omega]; exact hkr.1) hb) (And.intro rfl ?_))
      repeat' (first | refine vcI ?_ | refine And.intro ?_ ?_ | (intro hq; (try simp at hq); (try (exfalso; omega)); (try (revert hq; intro))))
      exact Exists.intro (k + 1, v47, v31, v19) ⟨by dsimp only; omega, (by first | omega | (dsimp only; omega)), ⟨by ((repeat' apply And.intro) <;> (first | exact True.intro | exact NEq.refl _ | (refine NEq.int ?_; first | exact rfl | omega | (rw [wrapI (by omega)]; first | exact rfl | omega)))), ⟨⟨rfl, .refl _⟩, ⟨rfl, .refl _⟩, ⟨rfl, .refl _⟩, trivial⟩, .nil⟩⟩
    · obtain rfl : k = ul.length := by omega
      refine graftR (i := i) (t := 4) (r := (1, 19)) (r' := (1, 31)) (by decide) rfl rfl rfl hin (by simp [rowsG]) rfl (i + 1, _) (by dsimp only; omega) (by dsimp only; omega) ⟨by ((repeat' apply And.intro) <;> (first | exact True.intro | exact NEq.refl _ | (refine NEq.int ?_; first | exact rfl | omega | (rw [wrapI (by omega)]; first | exact rfl | omega)))), ⟨⟨rfl, ?_⟩, trivial⟩, .nil⟩
      refine NEq.owns rfl rfl fun a b ha hb => NEq.of_eq ?_
      show graftF (rowsG o m i v31) i (PV.own 1 m fun r x => PV.bool (ownB o ul.length i r)) a b = rowsK o m (i + 1) a b
      unfold graftF rowsG rowsK
      by_cases e : a = i
      · subst e; rw [if_pos rfl, if_pos (by omega), hul]
      · rw [if_neg e, if_neg e]
        by_cases h : a < i
        · rw [if_pos h, if_pos (by omega)]
        · rw [if_neg h, if_neg (by omega)]
  obtain rfl : i = o.irs.length := by omega
  repeat' (first | refine vcI ?_ | refine And.intro ?_ ?_ | (intro hq; (try simp at hq); (try (exfalso; omega)); (try (revert hq; intro))))
  have hI0 : LvI o fun a r => ownB o (ownL o a).length a r := ⟨fun a ha r h => by simpa [ownB] using h, fun a ha r h => .use ha (by simp [ownB] at h; exact h)⟩
  refine loopS3 mx (by decide) (by kernel_rfl) (fun (W : Nat → Nat → Bool) (b : Bool) (v4 : Nat) => LvI o W ∧ (b = false → ∀ i, i < o.irs.length → ∀ k ∈ goesL (o.irs.getD i default) i, ∀ r, r < o.regs.toNat → ClP o W i k r)) (fun W b v4 => [(8, .bool b), (4, .ref (1, 19) v4 [] 1 0 o.irs.length), (3, .int .i64 o.irs.length), (0, .fptr 12 (rowL (dol o)) 0)]) (fun W b v4 => [((1, 19), ⟨v4, bbN o.irs.length m W⟩)]) (fun W b v4 => 2 * unsetB o W + b.toNat) _ true _ ⟨hI0, fun h => (by cases h)⟩ ⟨by ((repeat' apply And.intro) <;> (first | exact True.intro | exact NEq.refl _ | (refine NEq.int ?_; first | exact rfl | omega | (rw [wrapI (by omega)]; first | exact rfl | omega)))), ⟨⟨rfl, NEq.owns rfl rfl fun a b ha hb => NEq.of_eq (if_pos ha)⟩, trivial⟩, .nil⟩ ?_
  rintro W0 b0 v4 nv ⟨hL0, hC0⟩
  repeat' (first | refine vcI ?_ | refine And.intro ?_ ?_ | (intro hq; (try simp at hq); (try (exfalso; omega)); (try (revert hq; intro))))
  · have hb0 : b0 = true := by assumption
    subst hb0
    have hwn : IntKind.i64.wrap ((o.irs.length : Int) - 1) = (o.irs.length : Int) - 1 := wrapI (by omega)
    have hstart : RdP o W0 W0 false fun i k r => o.irs.length ≤ i ∧ i < o.irs.length := ⟨hL0, fun _ => ⟨rfl, fun i k r h => by omega⟩, fun h => (by cases h)⟩
    refine loopS4 mx (by decide) (by kernel_rfl) (fun (j : Nat) (W : Nat → Nat → Bool) (b : Bool) (v4 : Nat) => j ≤ o.irs.length ∧ RdP o W0 W b fun i k r => j ≤ i ∧ i < o.irs.length ∧ k ∈ goesL (o.irs.getD i default) i ∧ r < o.regs.toNat) (fun j W b v4 => [(9, .int .i64 ((j : Int) - 1)), (8, .bool b), (4, .ref (1, 19) v4 [] 1 0 o.irs.length), (3, .int .i64 o.irs.length), (0, .fptr 12 (rowL (dol o)) 0)]) (fun j W b v4 => [((1, 19), ⟨v4, bbN o.irs.length m W⟩)]) (fun j W b v4 => j) o.irs.length _ _ _ ⟨Nat.le_refl _, hstart.less fun i k r h => by omega⟩ ⟨⟨NEq.of_eq (congrArg (PV.int .i64) hwn), .refl _, .refl _, .refl _, .refl _, trivial⟩, ⟨⟨rfl, .refl _⟩, trivial⟩, .nil⟩ ?_
    rintro j W b v4 nv ⟨hj, hR⟩
    repeat' (first | refine vcI ?_ | refine And.intro ?_ ?_ | (intro hq; (try simp at hq); (try (exfalso; omega)); (try (revert hq; intro))))
    · obtain ⟨i, rfl⟩ : ∃ i, j = i + 1 := ⟨j - 1, by omega⟩
      have hin : i < o.irs.length := by omega
      rw [show (((i + 1 : Nat) : Int) - 1) = (i : Int) by omega, mk_ir]
      obtain ⟨g, hg⟩ : ∃ g, g = goesL (o.irs.getD i default) i := ⟨_, rfl⟩
      have hgs := Goes_spec (o.irs.getD i default) i (by omega)
      rw [← hg] at hgs
      have hgl : g.length ≤ 2 := by rw [hg]; exact goesL_len _ _
      have hgk : ∀ q, q < g.length → g.getD q 0 ∈ goesL (o.irs.getD i default) i ∧ 0 ≤ g.getD q 0 ∧ g.getD q 0 < (o.irs.length : Int) := fun q hq => by
        have hmem : g.getD q 0 ∈ goesL (o.irs.getD i default) i := by rw [← hg, List.getD_eq_getElem?_getD]; exact getD_mem _ hq
        exact ⟨hmem, H.go i hin _ hmem⟩
      refine CallS.own (oints g) (fun id ver => .ref id ver [] 1 0 g.length) hgs (plainAll rfl) ?_
      repeat' (first | refine vcI ?_ | refine And.intro ?_ ?_ | (intro hq; (try simp at hq); (try (exfalso; omega)); (try (revert hq; intro))))
      refine loopS5 mx (by decide) (by kernel_rfl) (fun (q : Nat) (W : Nat → Nat → Bool) (b : Bool) (v87 v4 : Nat) => q ≤ g.length ∧ RdP o W0 W b fun i' k r => (i + 1 ≤ i' ∨ (i' = i ∧ k ∈ g.take q)) ∧ i' < o.irs.length ∧ k ∈ goesL (o.irs.getD i' default) i' ∧ r < o.regs.toNat) (fun q W b v87 v4 => [(11, .int .i64 q), (10, .ref (1, 87) v87 [] 1 0 g.length), (9, .int .i64 i), (8, .bool b), (4, .ref (1, 19) v4 [] 1 0 o.irs.length), (3, .int .i64 o.irs.length), (0, .fptr 12 (rowL (dol o)) 0)]) (fun q W b v87 v4 => [((1, 87), ⟨v87, oints g⟩), ((1, 19), ⟨v4, bbN o.irs.length m W⟩)]) (fun q W b v87 v4 => g.length - q) 0 W b _ _ ⟨by simp, hR.less fun i' k r h => ⟨h.1.elim id fun h2 => by simp at h2, h.2⟩⟩ ⟨by ((repeat' apply And.intro) <;> (first | exact True.intro | exact NEq.refl _ | (refine NEq.int ?_; first | exact rfl | omega | (rw [wrapI (by omega)]; first | exact rfl | omega)))), ⟨⟨rfl, .refl _⟩, ⟨rfl, .refl _⟩, trivial⟩, .nil⟩ ?_
      rintro q W b v87 v4 nv ⟨hq, hR⟩
      have hwq : IntKind.i64.wrap ((q : Int) + 1) = ((q + 1 : Nat) : Int) := wrapI (by omega)
      repeat' (first | refine vcI ?_ | refine And.intro ?_ ?_ | (intro hq; (try simp at hq); (try (exfalso; omega)); (try (revert hq; intro))))
      · have hql : q < g.length := by assumption
        obtain ⟨hg1, hg2, hg3⟩ := hgk q hql
        refine loopS5 mx (by decide) (by kernel_rfl) (fun (r : Nat) (W : Nat → Nat → Bool) (b : Bool) (v87 v4 : Nat) => r ≤ m ∧ RdP o W0 W b fun i' k r' => (i + 1 ≤ i' ∨ (i' = i ∧ (k ∈ g.take q ∨ (k = g.getD q 0 ∧ r' < r)))) ∧ i' < o.irs.length ∧ k ∈ goesL (o.irs.getD i' default) i' ∧ r' < o.regs.toNat) (fun r W b v87 v4 => [(12, .int .i64 r), (11, .int .i64 q), (10, .ref (1, 87) v87 [] 1 0 g.length), (9, .int .i64 i), (8, .bool b), (4, .ref (1, 19) v4 [] 1 0 o.irs.length), (3, .int .i64 o.irs.length), (0, .fptr 12 (rowL (dol o)) 0)]) (fun r W b v87 v4 => [((1, 87), ⟨v87, oints g⟩), ((1, 19), ⟨v4, bbN o.irs.length m W⟩)]) (fun r W b v87 v4 => m - r) 0 W b _ _ ⟨by simp, hR.less fun i' k r h => ⟨h.1.imp id fun h2 => ⟨h2.1, h2.2.elim id fun h3 => absurd h3.2 (Nat.not_lt_zero _)⟩, h.2⟩⟩ ⟨by ((repeat' apply And.intro) <;> (first | exact True.intro | exact NEq.refl _ | (refine NEq.int ?_; first | exact rfl | omega | (rw [wrapI (by omega)]; first | exact rfl | omega)))), ⟨⟨rfl, .refl _⟩, ⟨rfl, .refl _⟩, trivial⟩, .nil⟩ ?_
        rintro r W b v87 v4 nv ⟨hr, hR⟩
        have hwr : IntKind.i64.wrap ((r : Int) + 1) = ((r + 1 : Nat) : Int) := wrapI (by omega)
        have eq0 : 0 + (q : Int).toNat = q := by omega
        have er0 : 0 + (r : Int).toNat = r := by omega
        have ei0 : 0 + (i : Int).toNat = i := by omega
        have hgA : 0 ≤ g.getD (0 + (q : Int).toNat) 0 := by rw [eq0]; exact hg2
        have hgB : g.getD (0 + (q : Int).toNat) 0 < (o.irs.length : Int) - ((0 : Nat) : Int) := by rw [eq0]; omega
        obtain ⟨kk, hkk⟩ : ∃ kk : Nat, g.getD q 0 = (kk : Int) := ⟨_, (Int.toNat_of_nonneg hg2).symm⟩
        have hstep : ∀ a c x, ((i + 1 ≤ a ∨ (a = i ∧ (c ∈ g.take q ∨ (c = (kk : Int) ∧ x < r + 1)))) ∧ a < o.irs.length ∧ c ∈ goesL (o.irs.getD a default) a ∧ x < o.regs.toNat) → ((i + 1 ≤ a ∨ (a = i ∧ (c ∈ g.take q ∨ (c = g.getD q 0 ∧ x < r)))) ∧ a < o.irs.length ∧ c ∈ goesL (o.irs.getD a default) a ∧ x < o.regs.toNat) ∨ (a = i ∧ c = g.getD q 0 ∧ x = r) := fun a c x h => by
          rw [← hkk] at h
          rcases h with ⟨h1 | ⟨h1, h2 | ⟨h2, h3⟩⟩, h4⟩
          · exact .inl ⟨.inl h1, h4⟩
          · exact .inl ⟨.inr ⟨h1, .inl h2⟩, h4⟩
          · by_cases e : x = r
            · exact .inr ⟨h1, h2, e⟩
            · exact .inl ⟨.inr ⟨h1, .inr ⟨h2, by omega⟩⟩, h4⟩
        repeat refine vcI ?_
        refine And.intro (fun hrm => ?_) (fun hrm => ?_)
        · have hrm2 : r < m := by simp at hrm; omega
          repeat refine vcI ?_
          rw [eq0, er0, ei0, hkk, show 0 + (kk : Int).toNat = kk by omega]
          have hnc : ¬ (W kk r = true ∧ W i r = false ∧ ¬ (setsB (o.irs.getD i default).op = true ∧ (o.irs.getD i default).d = r)) → ClP o W i (g.getD q 0) r := fun h h1 h2 => by
            rw [hkk, Int.toNat_natCast] at h1
            cases h3 : W i r
            · exact absurd ⟨h1, h3, h2⟩ h
            · rfl
          rcases h1 : W kk r with _ | _
          · repeat' (first | refine vcI ?_ | refine And.intro ?_ ?_ | (intro hq; (try simp at hq); (try (exfalso; omega)); (try (revert hq; intro))))
            exact Exists.intro (r + 1, W, b, v87, v4) ⟨⟨by dsimp only; omega, hR.skip (i := i) (r := r) (k := g.getD q 0) (hnc (by rw [h1]; simp)) hstep⟩, (by first | omega | (dsimp only; omega)), ⟨by ((repeat' apply And.intro) <;> (first | exact True.intro | exact NEq.refl _ | (refine NEq.int ?_; first | exact rfl | omega | (rw [wrapI (by omega)]; first | exact rfl | omega)))), ⟨⟨rfl, .refl _⟩, ⟨rfl, .refl _⟩, trivial⟩, .nil⟩⟩
          · rcases h2 : W i r with _ | _
            · have hss := sets_spec (o.irs.getD i default).op
              rcases h3 : setsB (o.irs.getD i default).op with _ | _
              · rw [h3] at hss
                repeat' (first | refine vcI ?_ | refine And.intro ?_ ?_ | (intro hq; (try simp at hq); (try (exfalso; omega)); (try (revert hq; intro))))
                first
                | refine CallS.frozen (.bool false) hss (plainAll rfl) ?_
                | refine QS.frozen (.bool false) hss (plainAll rfl) ?_
                repeat' (first | refine vcI ?_ | refine And.intro ?_ ?_ | (intro hq; (try simp at hq); (try (exfalso; omega)); (try (revert hq; intro))))
                · rfl
                refine Exists.intro (bbN o.irs.length m (setB W i r)) (And.intro (NEq.owns rfl rfl fun a x ha hx => ?_) (And.intro rfl ?_))
                · exact bb_put (W := W) (m := m) (i := i) (r := r) (a := a) hx
                repeat' (first | refine vcI ?_ | refine And.intro ?_ ?_ | (intro hq; (try simp at hq); (try (exfalso; omega)); (try (revert hq; intro))))
                exact Exists.intro (r + 1, setB W i r, true, v87, v4) ⟨⟨by dsimp only; omega, hR.put hin (by omega) hg1 ⟨hg2, hg3⟩ (by rw [hkk, Int.toNat_natCast]; exact h1) h2 (fun h => by rw [h3] at h; exact absurd h.1 (by decide))⟩, (by first | omega | (dsimp only; omega)), ⟨by ((repeat' apply And.intro) <;> (first | exact True.intro | exact NEq.refl _ | (refine NEq.int ?_; first | exact rfl | omega | (rw [wrapI (by omega)]; first | exact rfl | omega)))), ⟨⟨rfl, .refl _⟩, ⟨rfl, .refl _⟩, trivial⟩, .nil⟩⟩
              · rw [h3] at hss
                repeat' (first | refine vcI ?_ | refine And.intro ?_ ?_ | (intro hq; (try simp at hq); (try (exfalso; omega)); (try (revert hq; intro))))
                first
                | refine CallS.frozen (.bool true) hss (plainAll rfl) ?_
                | refine QS.frozen (.bool true) hss (plainAll rfl) ?_
                repeat' (first | refine vcI ?_ | refine And.intro ?_ ?_ | (intro hq; (try simp at hq); (try (exfalso; omega)); (try (revert hq; intro))))
                · rfl
                · rename_i hdr
                  refine Exists.intro (bbN o.irs.length m (setB W i r)) (And.intro (NEq.owns rfl rfl fun a x ha hx => ?_) (And.intro rfl ?_))
                  · exact bb_put (W := W) (m := m) (i := i) (r := r) (a := a) hx
                  repeat' (first | refine vcI ?_ | refine And.intro ?_ ?_ | (intro hq; (try simp at hq); (try (exfalso; omega)); (try (revert hq; intro))))
                  exact Exists.intro (r + 1, setB W i r, true, v87, v4) ⟨⟨by dsimp only; omega, hR.put hin (by omega) hg1 ⟨hg2, hg3⟩ (by rw [hkk, Int.toNat_natCast]; exact h1) h2 (fun h => hdr h.2)⟩, (by first | omega | (dsimp only; omega)), ⟨by ((repeat' apply And.intro) <;> (first | exact True.intro | exact NEq.refl _ | (refine NEq.int ?_; first | exact rfl | omega | (rw [wrapI (by omega)]; first | exact rfl | omega)))), ⟨⟨rfl, .refl _⟩, ⟨rfl, .refl _⟩, trivial⟩, .nil⟩⟩
                · rename_i hdr
                  exact Exists.intro (r + 1, W, b, v87, v4) ⟨⟨by dsimp only; omega, hR.skip (i := i) (r := r) (k := g.getD q 0) (hnc (by rw [h3]; intro h; exact h.2.2 ⟨rfl, hdr⟩)) hstep⟩, (by first | omega | (dsimp only; omega)), ⟨by ((repeat' apply And.intro) <;> (first | exact True.intro | exact NEq.refl _ | (refine NEq.int ?_; first | exact rfl | omega | (rw [wrapI (by omega)]; first | exact rfl | omega)))), ⟨⟨rfl, .refl _⟩, ⟨rfl, .refl _⟩, trivial⟩, .nil⟩⟩
            · repeat' (first | refine vcI ?_ | refine And.intro ?_ ?_ | (intro hq; (try simp at hq); (try (exfalso; omega)); (try (revert hq; intro))))
              exact Exists.intro (r + 1, W, b, v87, v4) ⟨⟨by dsimp only; omega, hR.skip (i := i) (r := r) (k := g.getD q 0) (hnc (by rw [h2]; simp)) hstep⟩, (by first | omega | (dsimp only; omega)), ⟨by ((repeat' apply And.intro) <;> (first | exact True.intro | exact NEq.refl _ | (refine NEq.int ?_; first | exact rfl | omega | (rw [wrapI (by omega)]; first | exact rfl | omega)))), ⟨⟨rfl, .refl _⟩, ⟨rfl, .refl _⟩, trivial⟩, .nil⟩⟩
        · obtain rfl : r = m := by simp at hrm; omega
          repeat' (first | refine vcI ?_ | refine And.intro ?_ ?_ | (intro hq; (try simp at hq); (try (exfalso; omega)); (try (revert hq; intro))))
          refine Exists.intro (q + 1, W, b, v87, v4) ⟨⟨by dsimp only; omega, hR.less fun i' k x h => ?_⟩, (by first | omega | (dsimp only; omega)), ⟨by ((repeat' apply And.intro) <;> (first | exact True.intro | exact NEq.refl _ | (refine NEq.int ?_; first | exact rfl | omega | (rw [wrapI (by omega)]; first | exact rfl | omega)))), ⟨⟨rfl, .refl _⟩, ⟨rfl, .refl _⟩, trivial⟩, .nil⟩⟩
          dsimp only at h
          obtain ⟨h1, h2, h3, h4⟩ := h
          refine ⟨h1.imp id fun h5 => ⟨h5.1, ?_⟩, h2, h3, h4⟩
          have h6 := h5.2
          rw [take_succD 0 hql, List.mem_append, List.mem_singleton] at h6
          exact h6.imp id fun h7 => ⟨h7, by omega⟩
      · obtain rfl : q = g.length := by omega
        have hwi1 : IntKind.i64.wrap ((i : Int) - 1) = (i : Int) - 1 := wrapI (by omega)
        rw [hwi1]
        refine Exists.intro (i, W, b, v4) ⟨⟨by dsimp only; omega, hR.less fun i' k x h => ⟨?_, h.2⟩⟩, by dsimp only; omega, ⟨by ((repeat' apply And.intro) <;> (first | exact True.intro | exact NEq.refl _ | (refine NEq.int ?_; first | exact rfl | omega | (rw [wrapI (by omega)]; first | exact rfl | omega)))), ⟨⟨rfl, .refl _⟩, trivial⟩, .nil⟩⟩
        by_cases e : i' = i
        · subst e
          exact .inr ⟨rfl, by rw [List.take_length, hg]; exact h.2.2.1⟩
        · exact .inl (by have := h.1; dsimp only at this; omega)
    · obtain rfl : j = 0 := by omega
      refine Exists.intro (W, b, v4) ⟨⟨hR.inv, fun hb i hi k hk r hr => ?_⟩, ?_, ⟨by ((repeat' apply And.intro) <;> (first | exact True.intro | exact NEq.refl _ | (refine NEq.int ?_; first | exact rfl | omega | (rw [wrapI (by omega)]; first | exact rfl | omega)))), ⟨⟨rfl, .refl _⟩, trivial⟩, .nil⟩⟩
      · obtain ⟨rfl, h⟩ := hR.no hb
        exact h i k r ⟨Nat.zero_le _, hi, hk, hr⟩
      · cases b
        · obtain ⟨rfl, _⟩ := hR.no rfl
          simp
        · have := hR.yes rfl
          simp
          omega
  · have hb0 : b0 = false := by assumption
    refine keepS_bb rfl fun a r ha hr => ?_
    have h := hL0.done H (hC0 hb0) (fun i r h => (h.lt H).1) ha r
    rw [Bool.eq_iff_iff, h]
    simp [lvB]
end Go.Ab
namespace Go.Ab
open Go.Proofs
set_option maxRecDepth 100000
set_option maxHeartbeats 1000000

def CmB (m : Nat) (C : Nat → Nat → Bool) (D : Nat → Nat → Prop) : Prop := ∀ a b, a < m → b < m → (C a b = true ↔ D a b)
def set2 (C : Nat → Nat → Bool) (r q : Nat) : Nat → Nat → Bool := setB (setB C r q) q r
theorem CmB.congr {m : Nat} {C : Nat → Nat → Bool} {D D' : Nat → Nat → Prop} (h : CmB m C D) (e : ∀ a b, a < m → b < m → (D a b ↔ D' a b)) : CmB m C D' := fun a b ha hb => (h a b ha hb).trans (e a b ha hb)
theorem CmB.set2 {m : Nat} {C : Nat → Nat → Bool} {D D' : Nat → Nat → Prop} (h : CmB m C D) {r q : Nat} (e : ∀ a b, a < m → b < m → (D' a b ↔ D a b ∨ (a = r ∧ b = q) ∨ (a = q ∧ b = r))) : CmB m (set2 C r q) D' := fun a b ha hb => by
  rw [e a b ha hb, ← h a b ha hb]
  unfold Ab.set2 setB
  by_cases h1 : a = q ∧ b = r
  · rw [if_pos h1]; simp [h1]
  · rw [if_neg h1]
    by_cases h2 : a = r ∧ b = q
    · rw [if_pos h2]; simp [h2]
    · rw [if_neg h2]; simp [h1, h2]
/-- Who collides ahead of an instruction; within it, by registers that are live together; by what is set. -/
def colD (o : DO) (i a b : Nat) : Prop := ∃ j, j < i ∧ a ≠ b ∧ ColI o j a b
def colE (o : DO) (i r q a b : Nat) : Prop := colD o i a b ∨ (a ≠ b ∧ LiveP o i a ∧ LiveP o i b ∧ a < r ∧ b < r) ∨ (LiveP o i a ∧ LiveP o i b ∧ ((a = r ∧ b < q) ∨ (b = r ∧ a < q)))
def colF (o : DO) (i : Nat) (l : List Int) (k : Int) (r a b : Nat) : Prop := colE o i o.regs.toNat 0 a b ∨ (a ≠ b ∧ (((a : Int) = (o.irs.getD i default).d ∧ ((∃ k ∈ l, LiveP o k.toNat b) ∨ (LiveP o k.toNat b ∧ b < r))) ∨ ((b : Int) = (o.irs.getD i default).d ∧ ((∃ k ∈ l, LiveP o k.toNat a) ∨ (LiveP o k.toNat a ∧ a < r)))))
theorem colE_zero (o : DO) (i a b : Nat) : colE o i 0 0 a b ↔ colD o i a b := by unfold colE; simp
theorem colE_yes {o : DO} {i r q a b : Nat} (hq : q < r) (h1 : LiveP o i r) (h2 : LiveP o i q) : colE o i r (q + 1) a b ↔ colE o i r q a b ∨ (a = r ∧ b = q) ∨ (a = q ∧ b = r) := by
  unfold colE
  constructor
  · rintro (h | h | ⟨h3, h4, ⟨h5, h6⟩ | ⟨h5, h6⟩⟩)
    · exact .inl (.inl h)
    · exact .inl (.inr (.inl h))
    · by_cases e : b = q
      · exact .inr (.inl ⟨h5, e⟩)
      · exact .inl (.inr (.inr ⟨h3, h4, .inl ⟨h5, by omega⟩⟩))
    · by_cases e : a = q
      · exact .inr (.inr ⟨e, h5⟩)
      · exact .inl (.inr (.inr ⟨h3, h4, .inr ⟨h5, by omega⟩⟩))
  · rintro ((h | h | ⟨h3, h4, ⟨h5, h6⟩ | ⟨h5, h6⟩⟩) | ⟨rfl, rfl⟩ | ⟨rfl, rfl⟩)
    · exact .inl h
    · exact .inr (.inl h)
    · exact .inr (.inr ⟨h3, h4, .inl ⟨h5, by omega⟩⟩)
    · exact .inr (.inr ⟨h3, h4, .inr ⟨h5, by omega⟩⟩)
    · exact .inr (.inr ⟨h1, h2, .inl ⟨rfl, by omega⟩⟩)
    · exact .inr (.inr ⟨h2, h1, .inr ⟨rfl, by omega⟩⟩)
theorem colE_no {o : DO} {i r q a b : Nat} (h2 : ¬ LiveP o i q) : colE o i r (q + 1) a b ↔ colE o i r q a b := by
  unfold colE
  refine or_congr Iff.rfl (or_congr Iff.rfl ⟨?_, ?_⟩)
  · rintro ⟨h3, h4, ⟨h5, h6⟩ | ⟨h5, h6⟩⟩
    · exact ⟨h3, h4, .inl ⟨h5, by rcases (by omega : b < q ∨ b = q) with h | rfl; exact h; exact absurd h4 h2⟩⟩
    · exact ⟨h3, h4, .inr ⟨h5, by rcases (by omega : a < q ∨ a = q) with h | rfl; exact h; exact absurd h3 h2⟩⟩
  · rintro ⟨h3, h4, ⟨h5, h6⟩ | ⟨h5, h6⟩⟩
    · exact ⟨h3, h4, .inl ⟨h5, by omega⟩⟩
    · exact ⟨h3, h4, .inr ⟨h5, by omega⟩⟩
/-- A register is through: all lower ones were looked at, or it is not live. -/
theorem colE_row {o : DO} {i r q a b : Nat} (h : q = r ∨ (q ≤ r ∧ ¬ LiveP o i r)) : colE o i (r + 1) 0 a b ↔ colE o i r q a b := by
  unfold colE
  refine or_congr Iff.rfl ⟨?_, ?_⟩
  · rintro (⟨h1, h2, h3, h4, h5⟩ | ⟨_, _, h | h⟩)
    · by_cases ea : a = r
      · subst ea
        rcases h with h | h
        · exact .inr ⟨h2, h3, .inl ⟨rfl, by omega⟩⟩
        · exact absurd h2 h.2
      · by_cases eb : b = r
        · subst eb
          rcases h with h | h
          · exact .inr ⟨h2, h3, .inr ⟨rfl, by omega⟩⟩
          · exact absurd h3 h.2
        · exact .inl ⟨h1, h2, h3, by omega, by omega⟩
    · omega
    · omega
  · rintro (⟨h1, h2, h3, h4, h5⟩ | ⟨h1, h2, ⟨h3, h4⟩ | ⟨h3, h4⟩⟩)
    · exact .inl ⟨h1, h2, h3, by omega, by omega⟩
    · subst h3
      exact .inl ⟨by rcases h with h | h <;> omega, h1, h2, by omega, by rcases h with h | h <;> omega⟩
    · subst h3
      exact .inl ⟨by rcases h with h | h <;> omega, h1, h2, by rcases h with h | h <;> omega, by omega⟩
theorem colE_last {o : DO} (H : FlH o) {i a b : Nat} : colE o i o.regs.toNat 0 a b ↔ colD o i a b ∨ (a ≠ b ∧ LiveP o i a ∧ LiveP o i b) := by
  unfold colE
  refine or_congr Iff.rfl ⟨?_, ?_⟩
  · rintro (⟨h1, h2, h3, _, _⟩ | ⟨_, _, h | h⟩)
    · exact ⟨h1, h2, h3⟩
    · omega
    · omega
  · rintro ⟨h1, h2, h3⟩
    have := h2.lt H
    have := h3.lt H
    exact .inl ⟨h1, h2, h3, by omega, by omega⟩
theorem colD_no {o : DO} (H : FlH o) {i a b : Nat} (hs : setsB (o.irs.getD i default).op ≠ true) : colD o (i + 1) a b ↔ colE o i o.regs.toNat 0 a b := by
  rw [colE_last H]
  unfold colD
  constructor
  · rintro ⟨j, h1, h2, h3⟩
    by_cases e : j = i
    · subst e
      rcases h3 with h3 | h3
      · exact .inr ⟨h2, h3⟩
      · exact absurd h3.1 hs
    · exact .inl ⟨j, by omega, h2, h3⟩
  · rintro (⟨j, h1, h2, h3⟩ | ⟨h1, h2⟩)
    · exact ⟨j, by omega, h2, h3⟩
    · exact ⟨i, by omega, h1, .inl h2⟩
theorem colD_yes {o : DO} (H : FlH o) {i a b : Nat} {k : Int} (hs : setsB (o.irs.getD i default).op = true) : colD o (i + 1) a b ↔ colF o i ((i : Int) :: goesL (o.irs.getD i default) i) k 0 a b := by
  unfold colF
  rw [colE_last H]
  unfold colD ColI
  simp only [List.mem_cons, exists_eq_or_imp, Int.toNat_natCast, Nat.not_lt_zero, and_false, or_false]
  constructor
  · rintro ⟨j, h1, h2, h3⟩
    by_cases e : j = i
    · subst e
      rcases h3 with h3 | h3
      · exact .inl (.inr ⟨h2, h3⟩)
      · exact .inr ⟨h2, h3.2⟩
    · exact .inl (.inl ⟨j, by omega, h2, h3⟩)
  · rintro ((⟨j, h1, h2, h3⟩ | ⟨h1, h2⟩) | ⟨h1, h2⟩)
    · exact ⟨j, by omega, h2, h3⟩
    · exact ⟨i, by omega, h1, .inl h2⟩
    · exact ⟨i, by omega, h1, .inr ⟨hs, h2⟩⟩
theorem colF_nil {o : DO} {i a b : Nat} {k : Int} : colF o i [] k 0 a b ↔ colE o i o.regs.toNat 0 a b := by unfold colF; simp
theorem colF_snoc {o : DO} (H : FlH o) {i a b : Nat} {k k' : Int} {l : List Int} : colF o i (l ++ [k]) k' 0 a b ↔ colF o i l k o.regs.toNat a b := by
  unfold colF
  have hl : ∀ b, LiveP o k.toNat b ↔ (LiveP o k.toNat b ∧ b < o.regs.toNat) := fun b => ⟨fun h => ⟨h, by have := h.lt H; omega⟩, fun h => h.1⟩
  simp only [List.mem_append, List.mem_singleton, or_and_right, exists_or, exists_eq_left, Nat.not_lt_zero, and_false, or_false, ← hl]
theorem colF_yes {o : DO} {i r a b : Nat} {k : Int} {l : List Int} (h : LiveP o k.toNat r) {d : Nat} (hd : (o.irs.getD i default).d = (d : Int)) (hr : r ≠ d) : colF o i l k (r + 1) a b ↔ colF o i l k r a b ∨ (a = r ∧ b = d) ∨ (a = d ∧ b = r) := by
  unfold colF
  rw [hd]
  constructor
  · rintro (h1 | ⟨h1, ⟨h2, h3 | ⟨h3, h4⟩⟩ | ⟨h2, h3 | ⟨h3, h4⟩⟩⟩)
    · exact .inl (.inl h1)
    · exact .inl (.inr ⟨h1, .inl ⟨h2, .inl h3⟩⟩)
    · by_cases e : b = r
      · exact .inr (.inr ⟨by omega, e⟩)
      · exact .inl (.inr ⟨h1, .inl ⟨h2, .inr ⟨h3, by omega⟩⟩⟩)
    · exact .inl (.inr ⟨h1, .inr ⟨h2, .inl h3⟩⟩)
    · by_cases e : a = r
      · exact .inr (.inl ⟨e, by omega⟩)
      · exact .inl (.inr ⟨h1, .inr ⟨h2, .inr ⟨h3, by omega⟩⟩⟩)
  · rintro ((h1 | ⟨h1, ⟨h2, h3 | ⟨h3, h4⟩⟩ | ⟨h2, h3 | ⟨h3, h4⟩⟩⟩) | ⟨rfl, rfl⟩ | ⟨rfl, rfl⟩)
    · exact .inl h1
    · exact .inr ⟨h1, .inl ⟨h2, .inl h3⟩⟩
    · exact .inr ⟨h1, .inl ⟨h2, .inr ⟨h3, by omega⟩⟩⟩
    · exact .inr ⟨h1, .inr ⟨h2, .inl h3⟩⟩
    · exact .inr ⟨h1, .inr ⟨h2, .inr ⟨h3, by omega⟩⟩⟩
    · exact .inr ⟨hr, .inr ⟨rfl, .inr ⟨h, by omega⟩⟩⟩
    · exact .inr ⟨Ne.symm hr, .inl ⟨rfl, .inr ⟨h, by omega⟩⟩⟩
theorem colF_no {o : DO} {i r a b : Nat} {k : Int} {l : List Int} (h : ¬ (LiveP o k.toNat r ∧ (r : Int) ≠ (o.irs.getD i default).d)) : colF o i l k (r + 1) a b ↔ colF o i l k r a b := by
  unfold colF
  refine or_congr Iff.rfl (and_congr_right fun hab => or_congr (and_congr_right fun h1 => or_congr Iff.rfl ⟨?_, fun ⟨h2, h3⟩ => ⟨h2, by omega⟩⟩) (and_congr_right fun h1 => or_congr Iff.rfl ⟨?_, fun ⟨h2, h3⟩ => ⟨h2, by omega⟩⟩))
  · rintro ⟨h2, h3⟩
    refine ⟨h2, ?_⟩
    rcases (by omega : b < r ∨ b = r) with h4 | rfl
    · exact h4
    · exact absurd ⟨h2, by omega⟩ h
  · rintro ⟨h2, h3⟩
    refine ⟨h2, ?_⟩
    rcases (by omega : a < r ∨ a = r) with h4 | rfl
    · exact h4
    · exact absurd ⟨h2, by omega⟩ h
theorem colD_all {o : DO} {a b : Nat} : colD o o.irs.length a b ↔ a ≠ b ∧ ColP o a b := by
  unfold colD ColP
  constructor
  · rintro ⟨j, h1, h2, h3⟩; exact ⟨h2, j, h1, h3⟩
  · rintro ⟨h2, j, h1, h3⟩; exact ⟨j, h1, h2, h3⟩
end Go.Ab
namespace Go.Ab
open Go.Proofs
set_option maxRecDepth 100000
set_option maxHeartbeats 4000000

def frb (n m : Nat) (W : Nat → Nat → Bool) : PV := .frz 1 n fun a _ => .frz 1 m fun r _ => .bool (W a r)
def rowsZ (m i : Nat) : Nat → Nat → PV := fun a _ => if a < i then .own 1 m (fun _ _ => .bool false) else .nils
def rowsY (m i v : Nat) : Nat → Nat → PV := fun a b => if a = i then .ref (1, 33) v [] 1 0 m else rowsZ m i a b
theorem rowsY_put {m i v a b sz k : Nat} (hb : b < 1) (hs : sz = 1) (hk : k = m) : NEq (if a = 0 + (i : Int).toNat ∧ 0 ≤ b ∧ b < 0 + 1 then List.getD [PV.ref (1, 33) v [] sz 0 k] (b - 0) .undef else rowsZ m i a b) (rowsY m i v a b) := by
  subst hs hk
  obtain rfl : b = 0 := by omega
  unfold rowsY
  by_cases e : a = i
  · rw [if_pos ⟨by omega, by omega, by omega⟩, if_pos e]; exact .refl _
  · rw [if_neg (fun h => e (by omega)), if_neg e]; exact .refl _
open Classical in
noncomputable def coB (o : DO) (a b : Nat) : Bool := decide (a ≠ b ∧ ColP o a b)
theorem lvB_iff {o : DO} {i r : Nat} : lvB o i r = true ↔ LiveP o i r := by simp [lvB]
def mem65 (m v : Nat) (C : Nat → Nat → Bool) : Hp := [((1, 18), ⟨v, bbN m m C⟩)]
theorem collisions_spec (o : DO) (H : FlH o) (hr1 : 1 ≤ o.regs) : CallsO Tryz.prog 37 [.fptr 12 (rowL (dol o)) 0, frb o.irs.length o.regs.toNat (lvB o)] (bbN o.regs.toNat o.regs.toNat (coB o)) (fun id ver => .ref id ver [] 1 0 o.regs.toNat) := by
  have hil : o.irs.length ≤ 6000 := by have := H.hf; unfold fewN at this; omega
  have hrr := H.hr
  have hd := H.hd
  obtain ⟨m, hm⟩ : ∃ m : Nat, o.regs = (m : Int) := ⟨o.regs.toNat, (Int.toNat_of_nonneg (by omega)).symm⟩
  have hmt : o.regs.toNat = m := by omega
  rw [hmt]
  refine callsO_ofS mx Tryz.call37 Tryz.func37 rfl Tryz.ntmps37 Tryz.results37 (by kernel_rfl) (by simp) fun lo => ?_
  repeat' (first | refine vcI ?_ | refine And.intro ?_ ?_ | (intro hq; (try simp at hq); (try (exfalso; omega)); (try (revert hq; intro))))
  · rw [show Tryz.prog.bytesOf 81 = 24 by kernel_rfl]; omega
  · rfl
  rw [hm]
  refine Exists.intro (.own 1 m (rowsZ m 0)) (And.intro ?_ (And.intro rfl ?_))
  · refine NEq.owns rfl (by simp) fun i b hi hb => ?_
    obtain rfl : b = 0 := by omega
    exact .refl _
  repeat' (first | refine vcI ?_ | refine And.intro ?_ ?_ | (intro hq; (try simp at hq); (try (exfalso; omega)); (try (revert hq; intro))))
  refine loopGS2 mx (by decide) (by kernel_rfl) (fun (i v5 : Nat) => i ≤ m) (fun i v5 => [(6, .int .i64 i), (5, .ref (1, 18) v5 [] 1 0 m), (0, .fptr 12 (rowL (dol o)) 0), (1, frb o.irs.length m (lvB o))]) (fun i v5 => [((1, 18), ⟨v5, .own 1 m (rowsZ m i)⟩)]) (fun i v5 => m - i) 0 _ (by simp) ⟨by ((repeat' apply And.intro) <;> (first | exact True.intro | exact NEq.refl _ | (refine NEq.int ?_; first | exact rfl | omega | (rw [wrapI (by omega)]; first | exact rfl | omega)))), ⟨⟨rfl, .refl _⟩, trivial⟩, .nil⟩ ?_
  intro i v5 nv hi
  have hwi : IntKind.i64.wrap ((i : Int) + 1) = ((i + 1 : Nat) : Int) := wrapI (by omega)
  repeat' (first | refine vcI ?_ | refine And.intro ?_ ?_ | (intro hq; (try simp at hq); (try (exfalso; omega)); (try (revert hq; intro))))
  · rw [show Tryz.prog.bytesOf 4 = 1 by kernel_rfl]; omega
  · rfl
  · have him : i < m := by have : (i : Int) < o.regs := by assumption
                           omega
    rw [hm]
    refine Exists.intro (.own 1 m fun r _ => .bool false) (And.intro ?_ (And.intro rfl ?_))
    · refine NEq.owns rfl (by simp) fun r b hr hb => ?_
      obtain rfl : b = 0 := by omega
      exact .refl _
    repeat' (first | refine vcI ?_ | refine And.intro ?_ ?_ | (intro hq; (try simp at hq); (try (exfalso; omega)); (try (revert hq; intro))))
    · simp [rowsZ]; rfl
    refine Exists.intro (.own 1 m (rowsY m i _)) (And.intro (NEq.owns rfl rfl fun a b ha hb => rowsY_put hb rfl (by omega)) (And.intro rfl ?_))
    repeat' (first | refine vcI ?_ | refine And.intro ?_ ?_ | (intro hq; (try simp at hq); (try (exfalso; omega)); (try (revert hq; intro))))
    refine graftR (i := i) (t := 5) (r := (1, 18)) (r' := (1, 33)) (by decide) rfl rfl rfl him (by simp [rowsY]) rfl (i + 1, _) (by dsimp only; omega) (by dsimp only; omega) ⟨by ((repeat' apply And.intro) <;> (first | exact True.intro | exact NEq.refl _ | (refine NEq.int ?_; first | exact rfl | omega | (rw [wrapI (by omega)]; first | exact rfl | omega)))), ⟨⟨rfl, ?_⟩, trivial⟩, .nil⟩
    refine NEq.owns rfl rfl fun a b ha hb => NEq.of_eq ?_
    show graftF (rowsY m i _) i (PV.own 1 m fun r x => PV.bool false) a b = rowsZ m (i + 1) a b
    unfold graftF rowsY rowsZ
    by_cases e : a = i
    · subst e; rw [if_pos rfl, if_pos (by omega)]
    · rw [if_neg e, if_neg e]
      by_cases h : a < i
      · rw [if_pos h, if_pos (by omega)]
      · rw [if_neg h, if_neg (by omega)]
  obtain rfl : m = i := by omega
  clear hi hwi
  repeat' (first | refine vcI ?_ | refine And.intro ?_ ?_ | (intro hq; (try simp at hq); (try (exfalso; omega)); (try (revert hq; intro))))
  refine loopS3 mx (by decide) (by kernel_rfl) (fun (i : Nat) (C : Nat → Nat → Bool) (v5 : Nat) => i ≤ o.irs.length ∧ CmB m C (colD o i)) (fun i C v5 => [(7, .int .i64 i), (5, .ref (1, 18) v5 [] 1 0 m), (0, .fptr 12 (rowL (dol o)) 0), (1, frb o.irs.length m (lvB o))]) (fun i C v5 => mem65 m v5 C) (fun i C v5 => o.irs.length - i) 0 (fun _ _ => false) _ ⟨by simp, fun a b ha hb => by simp [colD]⟩ ⟨by ((repeat' apply And.intro) <;> (first | exact True.intro | exact NEq.refl _ | (refine NEq.int ?_; first | exact rfl | omega | (rw [wrapI (by omega)]; first | exact rfl | omega)))), ⟨⟨rfl, NEq.owns rfl rfl fun a b ha hb => NEq.of_eq (if_pos ha)⟩, trivial⟩, .nil⟩ ?_
  rintro i C v5 nv ⟨hi, hC⟩
  have hwi : IntKind.i64.wrap ((i : Int) + 1) = ((i + 1 : Nat) : Int) := wrapI (by omega)
  repeat' (first | refine vcI ?_ | refine And.intro ?_ ?_ | (intro hq; (try simp at hq); (try (exfalso; omega)); (try (revert hq; intro))))
  · have hin : i < o.irs.length := by assumption
    refine loopS3 mx (by decide) (by kernel_rfl) (fun (r : Nat) (C : Nat → Nat → Bool) (v5 : Nat) => r ≤ m ∧ CmB m C (colE o i r 0)) (fun r C v5 => [(8, .int .i64 r), (7, .int .i64 i), (5, .ref (1, 18) v5 [] 1 0 m), (0, .fptr 12 (rowL (dol o)) 0), (1, frb o.irs.length m (lvB o))]) (fun r C v5 => mem65 m v5 C) (fun r C v5 => m - r) 0 C _ ⟨by simp, hC.congr fun a b _ _ => (colE_zero o i a b).symm⟩ ⟨by ((repeat' apply And.intro) <;> (first | exact True.intro | exact NEq.refl _ | (refine NEq.int ?_; first | exact rfl | omega | (rw [wrapI (by omega)]; first | exact rfl | omega)))), ⟨⟨rfl, .refl _⟩, trivial⟩, .nil⟩ ?_
    rintro r C v5 nv ⟨hr, hC⟩
    have hwr : IntKind.i64.wrap ((r : Int) + 1) = ((r + 1 : Nat) : Int) := wrapI (by omega)
    repeat' (first | refine vcI ?_ | refine And.intro ?_ ?_ | (intro hq; (try simp at hq); (try (exfalso; omega)); (try (revert hq; intro))))
    · have hrm : r < m := by omega
      refine loopS3 mx (by decide) (by kernel_rfl) (fun (q : Nat) (C : Nat → Nat → Bool) (v5 : Nat) => q ≤ r ∧ CmB m C (colE o i r q)) (fun q C v5 => [(9, .int .i64 q), (8, .int .i64 r), (7, .int .i64 i), (5, .ref (1, 18) v5 [] 1 0 m), (0, .fptr 12 (rowL (dol o)) 0), (1, frb o.irs.length m (lvB o))]) (fun q C v5 => mem65 m v5 C) (fun q C v5 => r - q) 0 C _ ⟨by simp, hC⟩ ⟨by ((repeat' apply And.intro) <;> (first | exact True.intro | exact NEq.refl _ | (refine NEq.int ?_; first | exact rfl | omega | (rw [wrapI (by omega)]; first | exact rfl | omega)))), ⟨⟨rfl, .refl _⟩, trivial⟩, .nil⟩ ?_
      rintro q C v5 nv ⟨hq, hC⟩
      have hwq : IntKind.i64.wrap ((q : Int) + 1) = ((q + 1 : Nat) : Int) := wrapI (by omega)
      repeat' (first | refine vcI ?_ | refine And.intro ?_ ?_ | (intro hq; (try simp at hq); (try (exfalso; omega)); (try (revert hq; intro))))
      · rfl
      · have hb : q < r ∧ lvB o i r = true := by assumption
        have hv : lvB o i q = true := by assumption
        have hlr := lvB_iff.1 hb.2
        have hlq := lvB_iff.1 hv
        refine Exists.intro (bbN m m (setB C r q)) (And.intro (NEq.owns rfl rfl fun a x ha hx => bb_put (W := C) (m := m) (i := r) (r := q) (a := a) hx) (And.intro rfl ?_))
        repeat' (first | refine vcI ?_ | refine And.intro ?_ ?_ | (intro hq; (try simp at hq); (try (exfalso; omega)); (try (revert hq; intro))))
        · rfl
        refine Exists.intro (bbN m m (Ab.set2 C r q)) (And.intro (NEq.owns rfl rfl fun a x ha hx => bb_put (W := setB C r q) (m := m) (i := q) (r := r) (a := a) hx) (And.intro rfl ?_))
        repeat' (first | refine vcI ?_ | refine And.intro ?_ ?_ | (intro hq; (try simp at hq); (try (exfalso; omega)); (try (revert hq; intro))))
        exact Exists.intro (q + 1, Ab.set2 C r q, v5) ⟨⟨by dsimp only; omega, hC.set2 fun a b _ _ => colE_yes hb.1 hlr hlq⟩, (by first | omega | (dsimp only; omega)), ⟨by ((repeat' apply And.intro) <;> (first | exact True.intro | exact NEq.refl _ | (refine NEq.int ?_; first | exact rfl | omega | (rw [wrapI (by omega)]; first | exact rfl | omega)))), ⟨⟨rfl, .refl _⟩, trivial⟩, .nil⟩⟩
      · have hb : q < r ∧ lvB o i r = true := by assumption
        have hv : lvB o i q = false := by assumption
        exact Exists.intro (q + 1, C, v5) ⟨⟨by dsimp only; omega, hC.congr fun a b _ _ => (colE_no fun h => by rw [lvB_iff.2 h] at hv; cases hv).symm⟩, (by first | omega | (dsimp only; omega)), ⟨by ((repeat' apply And.intro) <;> (first | exact True.intro | exact NEq.refl _ | (refine NEq.int ?_; first | exact rfl | omega | (rw [wrapI (by omega)]; first | exact rfl | omega)))), ⟨⟨rfl, .refl _⟩, trivial⟩, .nil⟩⟩
      · have hb : q < r → lvB o i r = false := by assumption
        refine Exists.intro (r + 1, C, v5) ⟨⟨by dsimp only; omega, hC.congr fun a b _ _ => (colE_row ?_).symm⟩, (by first | omega | (dsimp only; omega)), ⟨by ((repeat' apply And.intro) <;> (first | exact True.intro | exact NEq.refl _ | (refine NEq.int ?_; first | exact rfl | omega | (rw [wrapI (by omega)]; first | exact rfl | omega)))), ⟨⟨rfl, .refl _⟩, trivial⟩, .nil⟩⟩
        by_cases e : q = r
        · exact .inl e
        · exact .inr ⟨hq, fun h => by have := hb (by omega); rw [lvB_iff.2 h] at this; cases this⟩
    · obtain rfl : m = r := by omega
      have hE : CmB m C (colE o i o.regs.toNat 0) := by rw [hmt]; exact hC
      have hss := sets_spec (o.irs.getD i default).op
      rcases hsb : setsB (o.irs.getD i default).op with _ | _
      · rw [hsb] at hss
        refine CallS.frozen (.bool false) hss (plainAll rfl) ?_
        repeat' (first | refine vcI ?_ | refine And.intro ?_ ?_ | (intro hq; (try simp at hq); (try (exfalso; omega)); (try (revert hq; intro))))
        exact Exists.intro (i + 1, C, v5) ⟨⟨by dsimp only; omega, hE.congr fun a b _ _ => (colD_no H (by rw [hsb]; decide)).symm⟩, (by first | omega | (dsimp only; omega)), ⟨by ((repeat' apply And.intro) <;> (first | exact True.intro | exact NEq.refl _ | (refine NEq.int ?_; first | exact rfl | omega | (rw [wrapI (by omega)]; first | exact rfl | omega)))), ⟨⟨rfl, .refl _⟩, trivial⟩, .nil⟩⟩
      · rw [hsb] at hss
        refine CallS.frozen (.bool true) hss (plainAll rfl) ?_
        repeat' (first | refine vcI ?_ | refine And.intro ?_ ?_ | (intro hq; (try simp at hq); (try (exfalso; omega)); (try (revert hq; intro))))
        have hdr := H.dR hin hsb
        obtain ⟨d, hdd⟩ : ∃ d : Nat, (o.irs.getD i default).d = (d : Int) := ⟨_, (Int.toNat_of_nonneg hdr.1).symm⟩
        have hdm : d < m := by omega
        refine Exists.intro (oints [(i : Int)]) (And.intro (one_ints _ rfl rfl (.refl _)) (And.intro rfl ?_))
        repeat' (first | refine vcI ?_ | refine And.intro ?_ ?_ | (intro hq; (try simp at hq); (try (exfalso; omega)); (try (revert hq; intro))))
        rw [mk_ir]
        obtain ⟨g, hg⟩ : ∃ g, g = goesL (o.irs.getD i default) i := ⟨_, rfl⟩
        have hgs := Goes_spec (o.irs.getD i default) i (by omega)
        rw [← hg] at hgs
        have hgl : g.length ≤ 2 := by rw [hg]; exact goesL_len _ _
        first
        | refine CallS.own (oints g) (fun id ver => .ref id ver [] 1 0 g.length) hgs (plainAll rfl) ?_
        | refine QS.own (oints g) (fun id ver => .ref id ver [] 1 0 g.length) hgs (plainAll rfl) ?_
        have hbl : ([(i : Int)] : List Int).length + (g.length - 0) ≤ 3 := by simp; omega
        repeat' (first | refine vcI ?_ | refine And.intro ?_ ?_ | (intro hq; (try simp at hq); (try (exfalso; omega)); (try (revert hq; intro))))
        obtain ⟨ul, hul⟩ : ∃ ul, ul = (i : Int) :: g := ⟨_, rfl⟩
        have hull : [(i : Int)].length + (g.length - 0) = ul.length := by rw [hul]; simp; omega
        refine Exists.intro (oints ul) (And.intro ?_ (And.intro (shape_ints hull) ?_))
        · rw [hul]
          refine app_ints (xs := [(i : Int)]) rfl (by simp) (fun a b ha hb => ?_) fun a b ha hb => ?_
          · dsimp only; rw [if_pos ha]; exact .refl _
          · dsimp only; rw [if_neg (by omega), Nat.add_sub_cancel_left]
            show NEq (.int .i64 (g.getD (0 + a) 0)) _
            rw [Nat.zero_add]; exact .refl _
        rw [hull]
        have hul3 : ul.length ≤ 3 := by omega
        have hulk : ∀ j, j < ul.length → 0 ≤ ul.getD j 0 ∧ ul.getD j 0 < (o.irs.length : Int) := fun j hj => by
          have hmem : ul.getD j 0 ∈ ul := by rw [List.getD_eq_getElem?_getD]; exact getD_mem _ hj
          rw [hul] at hmem ⊢
          rcases List.mem_cons.1 hmem with h | h
          · rw [h]; omega
          · rw [hg] at h ⊢; exact H.go i hin _ h
        repeat' (first | refine vcI ?_ | refine And.intro ?_ ?_ | (intro hq; (try simp at hq); (try (exfalso; omega)); (try (revert hq; intro))))
        refine loopS4 mx (by decide) (by kernel_rfl) (fun (k : Nat) (C : Nat → Nat → Bool) (v11 v5 : Nat) => k ≤ ul.length ∧ CmB m C (colF o i (ul.take k) 0 0)) (fun k C v11 v5 => [(12, .int .i64 k), (11, .ref (1, 101) v11 [] 1 0 ul.length), (10, .int .i64 d), (7, .int .i64 i), (5, .ref (1, 18) v5 [] 1 0 m), (0, .fptr 12 (rowL (dol o)) 0), (1, frb o.irs.length m (lvB o))]) (fun k C v11 v5 => ((1, 101), ⟨v11, oints ul⟩) :: mem65 m v5 C) (fun k C v11 v5 => ul.length - k) 0 C _ _ ⟨by simp, hE.congr fun a b _ _ => colF_nil.symm⟩ ⟨⟨.refl _, .refl _, NEq.of_eq (congrArg (PV.int .i64) hdd), .refl _, .refl _, .refl _, .refl _, trivial⟩, ⟨⟨rfl, .refl _⟩, ⟨rfl, .refl _⟩, trivial⟩, .nil⟩ ?_
        rintro k C v11 v5 nv ⟨hk, hC⟩
        have hwk : IntKind.i64.wrap ((k : Int) + 1) = ((k + 1 : Nat) : Int) := wrapI (by omega)
        repeat' (first | refine vcI ?_ | refine And.intro ?_ ?_ | (intro hq; (try simp at hq); (try (exfalso; omega)); (try (revert hq; intro))))
        · have hkl : k < ul.length := by assumption
          obtain ⟨hk1, hk2⟩ := hulk k hkl
          obtain ⟨kk, hkk⟩ : ∃ kk : Nat, ul.getD k 0 = (kk : Int) := ⟨_, (Int.toNat_of_nonneg hk1).symm⟩
          have ek0 : 0 + (k : Int).toNat = k := by omega
          have hgA : 0 ≤ ul.getD (0 + (k : Int).toNat) 0 := by rw [ek0]; exact hk1
          have hgB : ul.getD (0 + (k : Int).toNat) 0 < (o.irs.length : Int) := by rw [ek0]; omega
          have hst : ∀ a b, colF o i (ul.take k) 0 0 a b ↔ colF o i (ul.take k) (kk : Int) 0 a b := fun a b => by unfold colF; simp
          refine loopS4 mx (by decide) (by kernel_rfl) (fun (r : Nat) (C : Nat → Nat → Bool) (v11 v5 : Nat) => r ≤ m ∧ CmB m C (colF o i (ul.take k) (kk : Int) r)) (fun r C v11 v5 => [(13, .int .i64 r), (12, .int .i64 k), (11, .ref (1, 101) v11 [] 1 0 ul.length), (10, .int .i64 d), (7, .int .i64 i), (5, .ref (1, 18) v5 [] 1 0 m), (0, .fptr 12 (rowL (dol o)) 0), (1, frb o.irs.length m (lvB o))]) (fun r C v11 v5 => ((1, 101), ⟨v11, oints ul⟩) :: mem65 m v5 C) (fun r C v11 v5 => m - r) 0 C _ _ ⟨by simp, hC.congr fun a b _ _ => hst a b⟩ ⟨by ((repeat' apply And.intro) <;> (first | exact True.intro | exact NEq.refl _ | (refine NEq.int ?_; first | exact rfl | omega | (rw [wrapI (by omega)]; first | exact rfl | omega)))), ⟨⟨rfl, .refl _⟩, ⟨rfl, .refl _⟩, trivial⟩, .nil⟩ ?_
          rintro r C v11 v5 nv ⟨hr, hC⟩
          have hwr : IntKind.i64.wrap ((r : Int) + 1) = ((r + 1 : Nat) : Int) := wrapI (by omega)
          repeat' (first | refine vcI ?_ | refine And.intro ?_ ?_ | (intro hq; (try simp at hq); (try (exfalso; omega)); (try (revert hq; intro))))
          · rfl
          · have hb : lvB o (ul[k]?.getD 0).toNat r = true ∧ ¬ (r : Int) = (d : Int) := by assumption
            have hkk' : ul[k]?.getD 0 = (kk : Int) := hkk
            rw [hkk', Int.toNat_natCast] at hb
            have hlr : LiveP o (kk : Int).toNat r := by rw [Int.toNat_natCast]; exact lvB_iff.1 hb.1
            refine Exists.intro (bbN m m (setB C r d)) (And.intro (NEq.owns rfl rfl fun a x ha hx => bb_put (W := C) (m := m) (i := r) (r := d) (a := a) hx) (And.intro rfl ?_))
            repeat' (first | refine vcI ?_ | refine And.intro ?_ ?_ | (intro hq; (try simp at hq); (try (exfalso; omega)); (try (revert hq; intro))))
            · rfl
            refine Exists.intro (bbN m m (Ab.set2 C r d)) (And.intro (NEq.owns rfl rfl fun a x ha hx => bb_put (W := setB C r d) (m := m) (i := d) (r := r) (a := a) hx) (And.intro rfl ?_))
            repeat' (first | refine vcI ?_ | refine And.intro ?_ ?_ | (intro hq; (try simp at hq); (try (exfalso; omega)); (try (revert hq; intro))))
            exact Exists.intro (r + 1, Ab.set2 C r d, v11, v5) ⟨⟨by dsimp only; omega, hC.set2 fun a b _ _ => colF_yes hlr hdd (by omega)⟩, (by first | omega | (dsimp only; omega)), ⟨by ((repeat' apply And.intro) <;> (first | exact True.intro | exact NEq.refl _ | (refine NEq.int ?_; first | exact rfl | omega | (rw [wrapI (by omega)]; first | exact rfl | omega)))), ⟨⟨rfl, .refl _⟩, ⟨rfl, .refl _⟩, trivial⟩, .nil⟩⟩
          · have hb : lvB o (ul[k]?.getD 0).toNat r = true → (r : Int) = (d : Int) := by assumption
            have hkk' : ul[k]?.getD 0 = (kk : Int) := hkk
            rw [hkk', Int.toNat_natCast] at hb
            exact Exists.intro (r + 1, C, v11, v5) ⟨⟨by dsimp only; omega, hC.congr fun a b _ _ => (colF_no fun h => h.2 (by rw [hdd]; exact hb (lvB_iff.2 (by have := h.1; rw [Int.toNat_natCast] at this; exact this)))).symm⟩, (by first | omega | (dsimp only; omega)), ⟨by ((repeat' apply And.intro) <;> (first | exact True.intro | exact NEq.refl _ | (refine NEq.int ?_; first | exact rfl | omega | (rw [wrapI (by omega)]; first | exact rfl | omega)))), ⟨⟨rfl, .refl _⟩, ⟨rfl, .refl _⟩, trivial⟩, .nil⟩⟩
          · obtain rfl : m = r := by omega
            refine Exists.intro (k + 1, C, v11, v5) ⟨⟨by dsimp only; omega, hC.congr fun a b _ _ => ?_⟩, (by first | omega | (dsimp only; omega)), ⟨by ((repeat' apply And.intro) <;> (first | exact True.intro | exact NEq.refl _ | (refine NEq.int ?_; first | exact rfl | omega | (rw [wrapI (by omega)]; first | exact rfl | omega)))), ⟨⟨rfl, .refl _⟩, ⟨rfl, .refl _⟩, trivial⟩, .nil⟩⟩
            dsimp only
            rw [take_succD 0 hkl, hkk, colF_snoc H, hmt]
        · obtain rfl : k = ul.length := by omega
          refine Exists.intro (i + 1, C, v5) ⟨⟨by dsimp only; omega, hC.congr fun a b _ _ => ?_⟩, (by first | omega | (dsimp only; omega)), ⟨by ((repeat' apply And.intro) <;> (first | exact True.intro | exact NEq.refl _ | (refine NEq.int ?_; first | exact rfl | omega | (rw [wrapI (by omega)]; first | exact rfl | omega)))), ⟨⟨rfl, .refl _⟩, trivial⟩, .nil⟩⟩
          dsimp only
          rw [List.take_length, hul, hg]
          exact (colD_yes H hsb).symm
  · obtain rfl : i = o.irs.length := by omega
    refine keepS_bb rfl fun a b ha hb => ?_
    rw [Bool.eq_iff_iff, hC a b ha hb, colD_all]
    simp [coB]
end Go.Ab
namespace Go.Ab
open Go.Proofs
set_option maxRecDepth 100000
set_option maxHeartbeats 1000000

def insL (l : List Int) (n : Int) : Bool := l.all fun r => decide (0 ≤ r) && decide (r < n)
/-- What the reference asks of an instruction. -/
structure RowP (o : DO) (i : Nat) : Prop where
  op : 1 ≤ (o.irs.getD i default).op ∧ (o.irs.getD i default).op ≤ 16
  args : (o.irs.getD i default).args.length ≤ 20
  ty : (((o.types.getD i []).length : Nat) : Int) = o.regs
  fr : framedB (o.irs.getD i default) (o.descs.getD i []) = true
  used : insL (usedL (o.irs.getD i default) (o.descs.getD i [])) o.regs = true
  uses : insL (usesL (o.descs.getD i [])) o.regs = true
  d : setsB (o.irs.getD i default).op = true → 0 ≤ (o.irs.getD i default).d ∧ (o.irs.getD i default).d < o.regs
  goes : insL (goesL (o.irs.getD i default) i) o.irs.length = true
  ret : (o.irs.getD i default).op = 10 → 0 ≤ (o.irs.getD i default).n ∧ (o.irs.getD i default).n ≤ o.regs
structure HeadP (o : DO) : Prop where
  ne : 0 < o.irs.length
  le : o.irs.length ≤ 600
  hd : o.descs.length = o.irs.length
  ht : o.types.length = o.irs.length
  r1 : 1 ≤ o.regs
  r2 : o.regs ≤ 250
open Classical in
noncomputable def shapedB (o : DO) : Bool := decide (HeadP o ∧ ∀ i, i < o.irs.length → RowP o i)
open Classical in
theorem shapedB_no {o : DO} (h : ¬ (HeadP o ∧ ∀ i, i < o.irs.length → RowP o i)) : shapedB o = false := by unfold shapedB; exact decide_eq_false h
open Classical in
theorem shapedB_yes {o : DO} (h : HeadP o ∧ ∀ i, i < o.irs.length → RowP o i) : shapedB o = true := by unfold shapedB; exact decide_eq_true h
theorem head_no {o : DO} (h : ¬ HeadP o) : shapedB o = false := shapedB_no fun k => h k.1
theorem row_no {o : DO} {i : Nat} (hi : i < o.irs.length) (h : ¬ RowP o i) : shapedB o = false := shapedB_no fun k => h (k.2 i hi)
end Go.Ab
namespace Go.Ab
open Go.Proofs
set_option maxRecDepth 100000
set_option maxHeartbeats 4000000

theorem insL_iff {l : List Int} {n : Int} : insL l n = true ↔ ∀ r ∈ l, 0 ≤ r ∧ r < n := by
  unfold insL
  rw [List.all_eq_true]
  simp
theorem badL_iff {o : DO} {l : List Int} : badL o l = false ↔ ∀ r ∈ l, 0 ≤ r ∧ r < o.regs := by
  unfold badL regB
  rw [List.any_eq_false]
  simp
theorem goes_of {o : DO} {i : Nat} (h : 1 ≤ (o.irs.getD i default).op ∧ (o.irs.getD i default).op ≤ 16) (hi : i < o.irs.length) :
    insL (goesL (o.irs.getD i default) i) o.irs.length = true ↔ ((goesB (o.irs.getD i default).op = true → insB o.irs.length (o.irs.getD i default).n = true) ∧ (fallsB (o.irs.getD i default).op = true → i + 1 < o.irs.length)) := by
  rw [insL_iff]
  unfold goesL goesB fallsB insB
  generalize (o.irs.getD i default).op = op at *
  generalize (o.irs.getD i default).n = n
  by_cases h9 : op = 9
  · subst h9; simp
  · rw [if_neg h9]
    by_cases h10 : op = 10 ∨ op = 11
    · rw [if_pos h10]
      rcases h10 with rfl | rfl <;> simp
    · rw [if_neg h10]
      have e1 : (!(op == 9 || op == 10 || op == 11)) = true := by simp; omega
      by_cases h3 : op = 3 ∨ op = 6
      · rw [if_pos h3]
        have e2 : (op == 3 || op == 6 || op == 9) = true := by simp; omega
        rw [e1, e2]
        simp only [true_implies, decide_eq_true_eq]
        split
        · simp; omega
        · split
          · simp; omega
          · simp; omega
      · rw [if_neg h3]
        have e2 : (op == 3 || op == 6 || op == 9) = false := by simp; omega
        rw [e1, e2]
        simp
        omega
theorem row_iff {o : DO} {i : Nat} (hi : i < o.irs.length) : RowP o i ↔ (((o.types.getD i []).length : Nat) : Int) = o.regs ∧ shapedX o (o.irs.getD i default) (o.descs.getD i []) = true ∧ (fallsB (o.irs.getD i default).op = true → i + 1 < o.irs.length) := by
  have key : (framedB (o.irs.getD i default) (o.descs.getD i []) = true ∧ (goesB (o.irs.getD i default).op = true → insB o.irs.length (o.irs.getD i default).n = true) ∧ ((o.irs.getD i default).op = 10 → 0 ≤ (o.irs.getD i default).n ∧ (o.irs.getD i default).n ≤ o.regs)) ↔ swB o (o.irs.getD i default) (o.descs.getD i []) = false := by
    unfold framedB swB goesB
    generalize (o.irs.getD i default).op = op
    by_cases h12 : op = 12
    · subst h12
      cases h1 : insB (o.descs.getD i []).length (o.irs.getD i default).n
      · simp
      · cases h2 : insB (o.descs.getD i []).length ((o.descs.getD i []).getD (o.irs.getD i default).n.toNat default).up <;> simp
    · by_cases h13 : op = 13
      · subst h13
        cases h1 : insB (o.descs.getD i []).length (o.irs.getD i default).m <;> simp
      · by_cases h10 : op = 10
        · subst h10; simp
        · simp only [h12, h13, h10, if_false]
          by_cases hg : (op == 3 || op == 6 || op == 9) = true
          · rw [hg]
            cases hb : insB o.irs.length (o.irs.getD i default).n <;> simp
          · simp only [Bool.not_eq_true] at hg
            rw [hg]; simp
  have hshape : shapedX o (o.irs.getD i default) (o.descs.getD i []) = true ↔ (1 ≤ (o.irs.getD i default).op ∧ (o.irs.getD i default).op ≤ 16) ∧ (o.irs.getD i default).args.length ≤ 20 ∧ swB o (o.irs.getD i default) (o.descs.getD i []) = false ∧ badL o (usedL (o.irs.getD i default) (o.descs.getD i [])) = false ∧ (setsB (o.irs.getD i default).op = true → 0 ≤ (o.irs.getD i default).d ∧ (o.irs.getD i default).d < o.regs) ∧ badL o (usesL (o.descs.getD i [])) = false := by
    unfold shapedX regB
    simp only [Bool.and_eq_true, decide_eq_true_eq, Bool.not_eq_true', Bool.or_eq_true, Bool.not_eq_true]
    constructor
    · rintro ⟨h1, h2, h3, h4, h5, h6, h7⟩
      exact ⟨⟨h1, h2⟩, h3, h4, h5, fun hs => h6.resolve_left (by rw [hs]; decide), h7⟩
    · rintro ⟨⟨h1, h2⟩, h3, h4, h5, h6, h7⟩
      refine ⟨h1, h2, h3, h4, h5, ?_, h7⟩
      cases hs : setsB (o.irs.getD i default).op
      · exact .inl rfl
      · exact .inr (h6 hs)
  rw [hshape, ← key, badL_iff, badL_iff]
  constructor
  · intro h
    have hg := (goes_of h.op hi).1 h.goes
    exact ⟨h.ty, ⟨h.op, h.args, ⟨h.fr, hg.1, h.ret⟩, insL_iff.1 h.used, h.d, insL_iff.1 h.uses⟩, hg.2⟩
  · rintro ⟨h1, ⟨h2, h3, ⟨h4, h5, h6⟩, h7, h8, h9⟩, h10⟩
    exact ⟨h2, h3, h1, h4, insL_iff.2 h7, insL_iff.2 h9, h8, (goes_of h2 hi).2 ⟨h5, h10⟩, h6⟩
open Classical in
theorem shaped_open {o : DO} : shapedB o = true ↔ OpenP o := by
  unfold shapedB
  rw [decide_eq_true_eq]
  constructor
  · rintro ⟨h, hr⟩
    have hrow := fun i hi => (row_iff hi).1 (hr i hi)
    refine ⟨h.ne, h.le, h.hd, h.ht, h.r1, h.r2, fun i hi => (hrow i hi).1, fun i hi => (hrow i hi).2.1, ?_⟩
    have hne := h.ne
    cases hb : fallsB (o.irs.getD (o.irs.length - 1) default).op
    · rfl
    · have := (hrow (o.irs.length - 1) (by omega)).2.2 hb
      omega
  · intro h
    refine ⟨⟨h.ne, h.le, h.hd, h.ht, h.r1, h.r2⟩, fun i hi => (row_iff hi).2 ⟨h.ty i hi, h.sh i hi, fun hf => ?_⟩⟩
    refine Classical.byContradiction fun hc => ?_
    obtain rfl : i = o.irs.length - 1 := by omega
    rw [h.la] at hf; cases hf
end Go.Ab

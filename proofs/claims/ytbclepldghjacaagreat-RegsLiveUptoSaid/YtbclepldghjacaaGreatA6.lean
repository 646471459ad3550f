/- proteuslaw21.RegsLive is true whatever the input, and the input reads as it did, where what it reads is of bulk at most 1048576. -/
import Derived.Test.YtbclepldghjacaaGreatA5
import Derived.Test.YtbclepldghjacaaGreatW1
set_option linter.unusedVariables false
set_option linter.unusedSimpArgs false
namespace Go.Ab
open Go.Proofs
set_option maxRecDepth 100000
set_option maxHeartbeats 4000000

theorem Shaped_spec (o : DO) (hf : fewN o ≤ 6000) (hl : o.irs.length ≤ 1048576 ∧ o.descs.length ≤ 1048576 ∧ o.types.length ≤ 1048576) : CallsF Tryz.prog 33 [.fptr 12 (rowL (dol o)) 0] (.bool (shapedB o)) := by
  refine callsF_ofS mx Tryz.call33 Tryz.func33 rfl Tryz.ntmps33 Tryz.results33 (by kernel_rfl) (by simp) fun lo => ?_
  repeat' (first | refine vcI ?_ | refine And.intro ?_ ?_ | (intro hq; (try simp at hq); (try (exfalso; omega)); (try (revert hq; intro))))
  · simp; omega
  · simp; omega
  · rw [head_no fun h => by obtain ⟨h1, h2, h3, h4, h5, h6⟩ := h; omega]; exact .refl _
  · have hH : HeadP o := by constructor <;> omega
    have hil := hH.le
    refine loopS mx (by decide) (by kernel_rfl) (fun i : Nat => i ≤ o.irs.length ∧ ∀ j, j < i → RowP o j) (fun i => [(4, .int .i64 i), (3, .int .i64 o.irs.length), (0, .fptr 12 (rowL (dol o)) 0)]) (fun _ => []) (fun i => o.irs.length - i) 0 (by simp) ⟨by ((repeat' apply And.intro) <;> (first | exact True.intro | exact NEq.refl _ | (refine NEq.int ?_; first | exact rfl | omega | (rw [wrapI (by omega)]; first | exact rfl | omega)))), trivial, .nil⟩ ?_
    rintro i nv ⟨hi, hI⟩
    have hwi : IntKind.i64.wrap ((i : Int) + 1) = ((i + 1 : Nat) : Int) := wrapI (by omega)
    have hdd := hH.hd
    have htt := hH.ht
    repeat refine vcI ?_
    refine And.intro (fun hin => ?_) (fun hin => ?_)
    · have hin2 : i < o.irs.length := by simpa using hin
      repeat refine vcI ?_
      rw [show Tryz.prog.cellsOf 58 = 16 by kernel_rfl]
      repeat' (first | refine vcI ?_ | refine And.intro ?_ ?_ | (intro hq; (try simp at hq); (try (exfalso; omega)); (try (revert hq; intro))))
      · simp; omega
      · simp; omega
      · have hc0 : 1 ≤ (o.irs[i]?.getD default).op ∧ (o.irs[i]?.getD default).op ≤ 16 ∧ (o.irs[i]?.getD default).args.length ≤ 20 ∧ (((o.types[i]?.getD []).length : Nat) : Int) = o.regs := by omega
        have hc : 1 ≤ (o.irs.getD i default).op ∧ (o.irs.getD i default).op ≤ 16 ∧ (o.irs.getD i default).args.length ≤ 20 ∧ (((o.types.getD i []).length : Nat) : Int) = o.regs := hc0
        have b1 : decide ((o.irs.getD (i : Int).toNat default).op < 1) = false := by rw [Int.toNat_natCast]; exact decide_eq_false (by omega)
        have b2 : decide ((o.irs.getD (i : Int).toNat default).op > 16) = false := by rw [Int.toNat_natCast]; exact decide_eq_false (by omega)
        have b3 : decide ((((o.irs.getD (i : Int).toNat default).args.length : Nat) : Int) > 20) = false := by rw [Int.toNat_natCast]; exact decide_eq_false (by omega)
        have b4 : ((((o.types.getD (i : Int).toNat []).length : Nat) : Int) != o.regs) = false := by rw [Int.toNat_natCast, hc.2.2.2]; simp
        rw [b1, b2, b3, b4]
        have hfr : frN (o.descs.getD i []) ≤ 6000 := by
          have h1 := sumL_mem (f := frN) (l := o.descs) (x := o.descs.getD i []) (by rw [List.getD_eq_getElem?_getD]; exact getD_mem _ (by omega))
          unfold fewN at hf
          omega
        have hdl : (o.descs.getD i []).length ≤ 1048576 := by have := hfr; unfold frN at this; omega
        have hx : (o.irs.getD i default).args.length ≤ 1048576 := by omega
        have hfs := framed_spec (o.irs.getD i default) (o.descs.getD i []) hdl
        rcases hfb : framedB (o.irs.getD i default) (o.descs.getD i []) with _ | _
        · rw [hfb] at hfs
          first
          | refine CallS.frozen (.bool false) hfs (plainAll rfl) ?_
          | refine QS.frozen (.bool false) hfs (plainAll rfl) ?_
          repeat' (first | refine vcI ?_ | refine And.intro ?_ ?_ | (intro hq; (try simp at hq); (try (exfalso; omega)); (try (revert hq; intro))))
          rw [row_no hin2 fun h => by have h1 := h.fr; rw [hfb] at h1; cases h1]; exact .refl _
        · rw [hfb] at hfs
          first
          | refine CallS.frozen (.bool true) hfs (plainAll rfl) ?_
          | refine QS.frozen (.bool true) hfs (plainAll rfl) ?_
          repeat' (first | refine vcI ?_ | refine And.intro ?_ ?_ | (intro hq; (try simp at hq); (try (exfalso; omega)); (try (revert hq; intro))))
          refine QS.own (oints (usedL (o.irs.getD i default) (o.descs.getD i []))) (fun id ver => .ref id ver [] 1 0 (usedL (o.irs.getD i default) (o.descs.getD i [])).length) (Used_spec (o.irs.getD i default) (o.descs.getD i []) hx) (plainAll rfl) ?_
          repeat' (first | refine vcI ?_ | refine And.intro ?_ ?_ | (intro hq; (try simp at hq); (try (exfalso; omega)); (try (revert hq; intro))))
          have huu := usedL_len (o.irs.getD i default) (o.descs.getD i []) hx
          have hin1 := inside_spec (usedL (o.irs.getD i default) (o.descs.getD i [])) o.regs (by have := usedL_len (o.irs.getD i default) (o.descs.getD i []) (b := 20) (by omega); omega)
          rcases hu1 : insL (usedL (o.irs.getD i default) (o.descs.getD i [])) o.regs with _ | _
          · change CallsF _ _ _ (.bool (insL (usedL (o.irs.getD i default) (o.descs.getD i [])) o.regs)) at hin1
            rw [hu1] at hin1
            first
            | refine CallS.plain [ints (usedL (o.irs.getD i default) (o.descs.getD i [])), .int .i64 o.regs] (.bool false) hin1 (LeL.cons (view_ints (k := 7) rfl rfl) (LeL.cons (.refl _) LeL.nil)) trivial ?_
            | refine QS.plain [ints (usedL (o.irs.getD i default) (o.descs.getD i [])), .int .i64 o.regs] (.bool false) rfl hin1 (LeL.cons (view_ints (k := 7) rfl rfl) (LeL.cons (.refl _) LeL.nil)) trivial ?_
            repeat' (first | refine vcI ?_ | refine And.intro ?_ ?_ | (intro hq; (try simp at hq); (try (exfalso; omega)); (try (revert hq; intro))))
            rw [row_no hin2 fun h => by have h1 := h.used; rw [hu1] at h1; cases h1]; exact .refl _
          · change CallsF _ _ _ (.bool (insL (usedL (o.irs.getD i default) (o.descs.getD i [])) o.regs)) at hin1
            rw [hu1] at hin1
            first
            | refine CallS.plain [ints (usedL (o.irs.getD i default) (o.descs.getD i [])), .int .i64 o.regs] (.bool true) hin1 (LeL.cons (view_ints (k := 7) rfl rfl) (LeL.cons (.refl _) LeL.nil)) trivial ?_
            | refine QS.plain [ints (usedL (o.irs.getD i default) (o.descs.getD i [])), .int .i64 o.regs] (.bool true) rfl hin1 (LeL.cons (view_ints (k := 7) rfl rfl) (LeL.cons (.refl _) LeL.nil)) trivial ?_
            repeat' (first | refine vcI ?_ | refine And.intro ?_ ?_ | (intro hq; (try simp at hq); (try (exfalso; omega)); (try (revert hq; intro))))
            first
            | refine CallS.frozen (ints (usesL (o.descs.getD i []))) (Uses_spec (o.descs.getD i []) hfr) (plainAll rfl) ?_
            | refine QS.frozen (ints (usesL (o.descs.getD i []))) (Uses_spec (o.descs.getD i []) hfr) (plainAll rfl) ?_
            repeat' (first | refine vcI ?_ | refine And.intro ?_ ?_ | (intro hq; (try simp at hq); (try (exfalso; omega)); (try (revert hq; intro))))
            have hus := usesL_len [] (o.descs.getD i [])
            have hus2 : (usesL (o.descs.getD i [])).length ≤ 30000 := by
              unfold frN at hfr
              unfold usesL
              simp only [List.length_nil] at hus
              omega
            have hin2s := inside_spec (usesL (o.descs.getD i [])) o.regs (by omega)
            change CallsF _ _ _ (.bool (insL (usesL (o.descs.getD i [])) o.regs)) at hin2s
            rcases hu2 : insL (usesL (o.descs.getD i [])) o.regs with _ | _
            · rw [hu2] at hin2s
              first
              | refine CallS.frozen (.bool false) hin2s (plainAll rfl) ?_
              | refine QS.frozen (.bool false) hin2s (plainAll rfl) ?_
              repeat' (first | refine vcI ?_ | refine And.intro ?_ ?_ | (intro hq; (try simp at hq); (try (exfalso; omega)); (try (revert hq; intro))))
              rw [row_no hin2 fun h => by have h1 := h.uses; rw [hu2] at h1; cases h1]; exact .refl _
            · rw [hu2] at hin2s
              first
              | refine CallS.frozen (.bool true) hin2s (plainAll rfl) ?_
              | refine QS.frozen (.bool true) hin2s (plainAll rfl) ?_
              repeat' (first | refine vcI ?_ | refine And.intro ?_ ?_ | (intro hq; (try simp at hq); (try (exfalso; omega)); (try (revert hq; intro))))
              have hss := sets_spec (o.irs.getD i default).op
              have hgs := Goes_spec (o.irs.getD i default) i (by omega)
              have hgl : (goesL (o.irs.getD i default) i).length ≤ 2 := goesL_len _ _
              have hin3 := inside_spec (goesL (o.irs.getD i default) i) o.irs.length (by omega)
              change CallsF _ _ _ (.bool (insL (goesL (o.irs.getD i default) i) o.irs.length)) at hin3
              rcases hsb : setsB (o.irs.getD i default).op with _ | _
              · rw [hsb] at hss
                first
                | refine CallS.frozen (.bool false) hss (plainAll rfl) ?_
                | refine QS.frozen (.bool false) hss (plainAll rfl) ?_
                repeat' (first | refine vcI ?_ | refine And.intro ?_ ?_ | (intro hq; (try simp at hq); (try (exfalso; omega)); (try (revert hq; intro))))
                have hD : setsB (o.irs.getD i default).op = true → 0 ≤ (o.irs.getD i default).d ∧ (o.irs.getD i default).d < o.regs := fun h => by rw [hsb] at h; cases h
                refine QS.own (oints (goesL (o.irs.getD i default) i)) (fun id ver => .ref id ver [] 1 0 (goesL (o.irs.getD i default) i).length) hgs (plainAll rfl) ?_
                repeat' (first | refine vcI ?_ | refine And.intro ?_ ?_ | (intro hq; (try simp at hq); (try (exfalso; omega)); (try (revert hq; intro))))
                rcases hu3 : insL (goesL (o.irs.getD i default) i) o.irs.length with _ | _
                · rw [hu3] at hin3
                  first
                  | refine CallS.plain [ints (goesL (o.irs.getD i default) i), .int .i64 o.irs.length] (.bool false) hin3 (LeL.cons (view_ints (k := 7) rfl rfl) (LeL.cons (.refl _) LeL.nil)) trivial ?_
                  | refine QS.plain [ints (goesL (o.irs.getD i default) i), .int .i64 o.irs.length] (.bool false) rfl hin3 (LeL.cons (view_ints (k := 7) rfl rfl) (LeL.cons (.refl _) LeL.nil)) trivial ?_
                  repeat' (first | refine vcI ?_ | refine And.intro ?_ ?_ | (intro hq; (try simp at hq); (try (exfalso; omega)); (try (revert hq; intro))))
                  rw [row_no hin2 fun h => by have h1 := h.goes; rw [hu3] at h1; cases h1]; exact .refl _
                · rw [hu3] at hin3
                  first
                  | refine CallS.plain [ints (goesL (o.irs.getD i default) i), .int .i64 o.irs.length] (.bool true) hin3 (LeL.cons (view_ints (k := 7) rfl rfl) (LeL.cons (.refl _) LeL.nil)) trivial ?_
                  | refine QS.plain [ints (goesL (o.irs.getD i default) i), .int .i64 o.irs.length] (.bool true) rfl hin3 (LeL.cons (view_ints (k := 7) rfl rfl) (LeL.cons (.refl _) LeL.nil)) trivial ?_
                  repeat' (first | refine vcI ?_ | refine And.intro ?_ ?_ | (intro hq; (try simp at hq); (try (exfalso; omega)); (try (revert hq; intro))))
                  iterate 3
                    · first
                      | rfl
                      | (have hb10 : ((o.irs.getD (i : Int).toNat default).op == 10) = true := by
                           have : (o.irs[i]?.getD default).op = 10 := by omega
                           exact beq_iff_eq.2 this
                         first
                         | (have hbn : decide ((o.irs.getD (i : Int).toNat default).n < 0) = false := decide_eq_false (by show ¬ (o.irs[i]?.getD default).n < 0; omega)
                            rw [hb10, hbn]; rfl)
                         | (rw [hb10]; rfl))
                  · rw [row_no hin2 fun h => by have h1 := h.ret; simp only [List.getD_eq_getElem?_getD] at h1; omega]; exact .refl _
                  · refine Exists.intro (i + 1) ⟨⟨by omega, fun j hj => ?_⟩, (by first | omega | (dsimp only; omega)), ⟨by ((repeat' apply And.intro) <;> (first | exact True.intro | exact NEq.refl _ | (refine NEq.int ?_; first | exact rfl | omega | (rw [wrapI (by omega)]; first | exact rfl | omega)))), trivial, .nil⟩⟩
                    by_cases e : j = i
                    · subst e
                      refine ⟨⟨hc.1, hc.2.1⟩, hc.2.2.1, hc.2.2.2, hfb, hu1, hu2, hD, hu3, fun h10 => ?_⟩
                      simp only [List.getD_eq_getElem?_getD] at h10 ⊢
                      omega
                    · exact hI j (by omega)
              · rw [hsb] at hss
                first
                | refine CallS.frozen (.bool true) hss (plainAll rfl) ?_
                | refine QS.frozen (.bool true) hss (plainAll rfl) ?_
                repeat' (first | refine vcI ?_ | refine And.intro ?_ ?_ | (intro hq; (try simp at hq); (try (exfalso; omega)); (try (revert hq; intro))))
                · have hbd : decide ((o.irs.getD (i : Int).toNat default).d < 0) = false := decide_eq_false (by show ¬ (o.irs[i]?.getD default).d < 0; omega)
                  rw [hbd]; rfl
                · rw [row_no hin2 fun h => by have h1 := h.d hsb; simp only [List.getD_eq_getElem?_getD] at h1; omega]; exact .refl _
                · have hD : setsB (o.irs.getD i default).op = true → 0 ≤ (o.irs.getD i default).d ∧ (o.irs.getD i default).d < o.regs := fun _ => by assumption
                  refine QS.own (oints (goesL (o.irs.getD i default) i)) (fun id ver => .ref id ver [] 1 0 (goesL (o.irs.getD i default) i).length) hgs (plainAll rfl) ?_
                  repeat' (first | refine vcI ?_ | refine And.intro ?_ ?_ | (intro hq; (try simp at hq); (try (exfalso; omega)); (try (revert hq; intro))))
                  rcases hu3 : insL (goesL (o.irs.getD i default) i) o.irs.length with _ | _
                  · rw [hu3] at hin3
                    first
                    | refine CallS.plain [ints (goesL (o.irs.getD i default) i), .int .i64 o.irs.length] (.bool false) hin3 (LeL.cons (view_ints (k := 7) rfl rfl) (LeL.cons (.refl _) LeL.nil)) trivial ?_
                    | refine QS.plain [ints (goesL (o.irs.getD i default) i), .int .i64 o.irs.length] (.bool false) rfl hin3 (LeL.cons (view_ints (k := 7) rfl rfl) (LeL.cons (.refl _) LeL.nil)) trivial ?_
                    repeat' (first | refine vcI ?_ | refine And.intro ?_ ?_ | (intro hq; (try simp at hq); (try (exfalso; omega)); (try (revert hq; intro))))
                    rw [row_no hin2 fun h => by have h1 := h.goes; rw [hu3] at h1; cases h1]; exact .refl _
                  · rw [hu3] at hin3
                    first
                    | refine CallS.plain [ints (goesL (o.irs.getD i default) i), .int .i64 o.irs.length] (.bool true) hin3 (LeL.cons (view_ints (k := 7) rfl rfl) (LeL.cons (.refl _) LeL.nil)) trivial ?_
                    | refine QS.plain [ints (goesL (o.irs.getD i default) i), .int .i64 o.irs.length] (.bool true) rfl hin3 (LeL.cons (view_ints (k := 7) rfl rfl) (LeL.cons (.refl _) LeL.nil)) trivial ?_
                    repeat' (first | refine vcI ?_ | refine And.intro ?_ ?_ | (intro hq; (try simp at hq); (try (exfalso; omega)); (try (revert hq; intro))))
                    iterate 3
                      · first
                        | rfl
                        | (have hb10 : ((o.irs.getD (i : Int).toNat default).op == 10) = true := by
                             have : (o.irs[i]?.getD default).op = 10 := by omega
                             exact beq_iff_eq.2 this
                           first
                           | (have hbn : decide ((o.irs.getD (i : Int).toNat default).n < 0) = false := decide_eq_false (by show ¬ (o.irs[i]?.getD default).n < 0; omega)
                              rw [hb10, hbn]; rfl)
                           | (rw [hb10]; rfl))
                    · rw [row_no hin2 fun h => by have h1 := h.ret; simp only [List.getD_eq_getElem?_getD] at h1; omega]; exact .refl _
                    · refine Exists.intro (i + 1) ⟨⟨by omega, fun j hj => ?_⟩, (by first | omega | (dsimp only; omega)), ⟨by ((repeat' apply And.intro) <;> (first | exact True.intro | exact NEq.refl _ | (refine NEq.int ?_; first | exact rfl | omega | (rw [wrapI (by omega)]; first | exact rfl | omega)))), trivial, .nil⟩⟩
                      by_cases e : j = i
                      · subst e
                        refine ⟨⟨hc.1, hc.2.1⟩, hc.2.2.1, hc.2.2.2, hfb, hu1, hu2, hD, hu3, fun h10 => ?_⟩
                        simp only [List.getD_eq_getElem?_getD] at h10 ⊢
                        omega
                      · exact hI j (by omega)
      iterate 3
        · rw [row_no hin2 fun h => by have h1 := h.op; have h2 := h.args; have h3 := h.ty; simp only [List.getD_eq_getElem?_getD] at h1 h2 h3; omega]; exact .refl _
    · obtain rfl : i = o.irs.length := by simp at hin; omega
      repeat' (first | refine vcI ?_ | refine And.intro ?_ ?_ | (intro hq; (try simp at hq); (try (exfalso; omega)); (try (revert hq; intro))))
      rw [show shapedB o = true by exact shapedB_yes ⟨hH, hI⟩]
      exact .refl _
  · rw [head_no fun h => by obtain ⟨h1, h2, h3, h4, h5, h6⟩ := h; omega]; exact .refl _
  · rw [head_no fun h => by obtain ⟨h1, h2, h3, h4, h5, h6⟩ := h; omega]; exact .refl _
end Go.Ab
namespace Go.Ab
open Go.Proofs
set_option maxRecDepth 100000
set_option maxHeartbeats 1000000

noncomputable def rowLs (o : DO) (i k : Nat) : List Int := ((List.range k).filter fun r => lvB o i r).map fun (r : Nat) => (r : Int)
noncomputable def pairK (o : DO) (r k : Nat) : List (Int × Int) := ((List.range k).filter fun q => decide (r < q) && coB o r q).map fun (q : Nat) => ((r : Int), (q : Int))
noncomputable def pairsK (o : DO) (m k : Nat) : List (Int × Int) := (List.range k).flatMap fun r => pairK o r m
theorem listW_filter (s : Nat → Nat) : ∀ k, listW s k = ((List.range k).filter fun r => bitW s r).map fun (r : Nat) => (r : Int)
  | 0 => by simp [listW]
  | k + 1 => by
    rw [List.range_succ, List.filter_append, List.map_append, ← listW_filter s k]
    cases h : bitW s k
    · rw [listW_no h]; simp [h]
    · rw [listW_yes h]; simp [h]
theorem filter_more {p : Nat → Bool} {m n : Nat} (hmn : m ≤ n) (h : ∀ r, m ≤ r → p r = false) : (List.range n).filter p = (List.range m).filter p := by
  induction n with
  | zero => obtain rfl : m = 0 := by omega
            rfl
  | succ n ih =>
    by_cases e : m = n + 1
    · rw [e]
    · rw [List.range_succ, List.filter_append, ih (by omega)]
      have := h n (by omega)
      simp [this]
theorem rowLs_live {o : DO} (H : FlH o) {i : Nat} (hi : i < o.irs.length) : rowLs o i o.regs.toNat = liveL o i := by
  have hr := H.hr
  unfold rowLs liveL
  rw [listW_filter]
  congr 1
  rw [← filter_more (n := 250) (by omega) fun r h => ?_]
  · refine List.filter_congr fun r hr => ?_
    rw [Bool.eq_iff_iff, lvB_iff, bit_wordsP]
  · cases hb : lvB o i r
    · rfl
    · have := (lvB_iff.1 hb).lt H; omega
theorem pairK_eq {o : DO} (H : FlH o) {r : Nat} (hr : r < o.regs.toNat) : pairK o r o.regs.toNat = pairF r (listW (colT o r) 250) := by
  have h250 := H.hr
  unfold pairK pairF
  rw [listW_filter, List.filter_map, List.map_map, List.filter_filter]
  rw [← filter_more (n := 250) (by omega) fun q h => ?_]
  · have e : ∀ q ∈ List.range 250, (decide (r < q) && coB o r q) = (((fun q => decide ((r : Int) < q)) ∘ (fun (q : Nat) => (q : Int))) q && bitW (colT o r) q) := fun q hq => by
      have hq := List.mem_range.1 hq
      rw [Bool.eq_iff_iff]
      simp only [Bool.and_eq_true, decide_eq_true_eq, Function.comp]
      rw [bit_colT H (by omega) hq]
      simp only [coB, decide_eq_true_eq]
      constructor
      · rintro ⟨h1, h2, h3⟩; exact ⟨by omega, h3⟩
      · rintro ⟨h1, h2⟩; exact ⟨by omega, by omega, h2⟩
    rw [List.filter_congr e]
    rfl
  · cases hb : coB o r q
    · simp
    · simp only [coB, decide_eq_true_eq] at hb
      have := hb.2.lt H; omega
theorem pairsK_col {o : DO} (H : FlH o) : pairsK o o.regs.toNat o.regs.toNat = collL o := by
  unfold pairsK collL collK
  rw [List.flatMap_def, List.flatMap_def]
  exact congrArg _ (List.map_congr_left fun r hr => pairK_eq H (List.mem_range.1 hr))
end Go.Ab
namespace Go.Ab
open Go.Proofs
set_option maxRecDepth 100000
set_option maxHeartbeats 4000000

theorem view_opt {hp : Hp} {r : RId} {v : Nat} {o : DO} (h : lkH hp r = some ⟨v, .obox 12 (rowL (dol o))⟩) : NEq (view 9 hp (.ptr r v [] 0 0)) (.fptr 12 (rowL (dol o)) 0) := by
  refine view_box (k := 8) h fun j hj => ?_
  rcases (by omega : j = 0 ∨ j = 1 ∨ j = 2 ∨ j = 3 ∨ j = 4 ∨ j = 5 ∨ j = 6 ∨ j = 7 ∨ j = 8 ∨ j = 9 ∨ j = 10 ∨ j = 11) with rfl | rfl | rfl | rfl | rfl | rfl | rfl | rfl | rfl | rfl | rfl | rfl <;> exact .refl _
theorem view_bb {hp : Hp} {r : RId} {v n m : Nat} {W : Nat → Nat → Bool} (h : lkH hp r = some ⟨v, bbN n m W⟩) : NEq (view 9 hp (.ref r v [] 1 0 n)) (frb n m W) := by
  rw [view, h]
  simp only [if_true, getAt, bbN]
  refine NEq.frzs rfl (by omega) fun i o hi ho => ?_
  rw [Nat.zero_add]
  exact .refl _

theorem rowLs_succ (o : DO) (i k : Nat) : rowLs o i (k + 1) = if lvB o i k = true then rowLs o i k ++ [(k : Int)] else rowLs o i k := by
  unfold rowLs
  rw [List.range_succ, List.filter_append, List.map_append]
  split <;> rename_i h <;> simp [h]
theorem rowLs_len (o : DO) (i k : Nat) : (rowLs o i k).length ≤ k := by
  unfold rowLs; rw [List.length_map]; exact Nat.le_trans (List.length_filter_le _ _) (by simp)
theorem RLive_spec (o : DO) (i : Int) (hf : fewN o ≤ 6000) (hs : ∀ l ∈ o.descs, l.length ≤ 1048576 ∧ ∀ f ∈ l, f.small) (hl : o.irs.length ≤ 1048576 ∧ o.descs.length ≤ 1048576 ∧ o.types.length ≤ 1048576) : CallsF Tryz.prog 9 [.agg (dol o), .int .i64 i] (ansE (liveE o i)) := by
  have hsh := Shaped_spec o hf hl
  refine callsF_ofS mx Tryz.call9 Tryz.func9 rfl Tryz.ntmps9 Tryz.results9 (by kernel_rfl) (by simp) fun lo => ?_
  repeat' (first | refine vcI ?_ | refine And.intro ?_ ?_ | (intro hq; (try simp at hq); (try (exfalso; omega)); (try (revert hq; intro))))
  rcases hb : shapedB o with _ | _
  · rw [hb] at hsh
    have HO : ¬ OpenP o := fun h => by rw [shaped_open.2 h] at hb; cases hb
    refine CallS.plain [.fptr 12 (rowL (dol o)) 0] (.bool false) hsh (LeL.cons (view_opt rfl) LeL.nil) trivial ?_
    repeat' (first | refine vcI ?_ | refine And.intro ?_ ?_ | (intro hq; (try simp at hq); (try (exfalso; omega)); (try (revert hq; intro))))
    rw [show liveE o i = ([], 210) by unfold liveE; rw [if_neg HO]]
    exact ans_nils 210
  · rw [hb] at hsh
    have HO := shaped_open.1 hb
    have H := HO.fl hf hs
    have hrr := H.hr
    have hr1 := HO.r1
    obtain ⟨m, hm⟩ : ∃ m : Nat, o.regs = (m : Int) := ⟨o.regs.toNat, (Int.toNat_of_nonneg (by omega)).symm⟩
    have hmt : o.regs.toNat = m := by omega
    have hlo := LiveOf_spec o H HO.r1
    rw [hmt] at hlo
    refine CallS.plain [.fptr 12 (rowL (dol o)) 0] (.bool true) hsh (LeL.cons (view_opt rfl) LeL.nil) trivial ?_
    by_cases hi : 0 ≤ i ∧ i < (o.irs.length : Int)
    · obtain ⟨k, rfl⟩ := Int.eq_ofNat_of_zero_le hi.1
      have hkn : k < o.irs.length := by omega
      have hbk : decide ((k : Int) < 0) = false := decide_eq_false (by omega)
      repeat' (first | refine vcI ?_ | refine And.intro ?_ ?_ | (intro hq; (try simp at hq); (try (exfalso; omega)); (try (revert hq; intro))))
      refine CallS.ownPlain [.fptr 12 (rowL (dol o)) 0] 1 o.irs.length (fun a _ => .own 1 m fun r _ => .bool (lvB o a r)) (fun id ver => .ref id ver [] 1 0 o.irs.length) hlo (LeL.cons (view_opt rfl) LeL.nil) trivial (fun i o hi => fun _ _ _ => trivial) ?_
      repeat' (first | refine vcI ?_ | refine And.intro ?_ ?_ | (intro hq; (try simp at hq); (try (exfalso; omega)); (try (revert hq; intro))))
      refine ghostS0 7 (1, 1000) (by decide) 1 (fun _ _ => .undef) rfl rfl fun v => ?_
      refine loopS3 mx (by decide) (by kernel_rfl) (fun (r v v6 : Nat) => r ≤ m) (fun r v v6 => [(8, .int .i64 r), (7, .ref (1, 1000) v [] 1 0 (rowLs o k r).length), (6, .ref (1, 20) v6 [] 1 0 o.irs.length), (1, .int .i64 k), (2, .ptr (1, 2) 0 [] 0 0)]) (fun r v v6 => [((1, 1000), ⟨v, oints (rowLs o k r)⟩), ((1, 20), ⟨v6, bbN o.irs.length m (lvB o)⟩), ((1, 2), ⟨0, .obox 12 (rowL (dol o))⟩)]) (fun r v v6 => m - r) 0 v _ (by simp) ⟨by ((repeat' apply And.intro) <;> (first | exact True.intro | exact NEq.refl _ | (refine NEq.int ?_; first | exact rfl | omega | (rw [wrapI (by omega)]; first | exact rfl | omega)))), ⟨⟨rfl, .owns rfl rfl fun i o hi => absurd hi (by simp [rowLs])⟩, ⟨rfl, .refl _⟩, ⟨rfl, .refl _⟩, trivial⟩, .nil⟩ ?_
      clear v
      intro r v v6 nv hr
      have hwr : IntKind.i64.wrap ((r : Int) + 1) = ((r + 1 : Nat) : Int) := wrapI (by omega)
      have hlen := rowLs_len o k r
      repeat' (first | refine vcI ?_ | refine And.intro ?_ ?_ | (intro hq; (try simp at hq); (try (exfalso; omega)); (try (revert hq; intro))))
      · have hv : lvB o k r = true := by assumption
        refine Exists.intro (oints [(r : Int)]) (And.intro (one_ints _ rfl rfl (.refl _)) (And.intro rfl ?_))
        have hap : (rowLs o k r).length + (1 - 0) ≤ 251 := by omega
        repeat' (first | refine vcI ?_ | refine And.intro ?_ ?_ | (intro hq; (try simp at hq); (try (exfalso; omega)); (try (revert hq; intro))))
        refine Exists.intro (oints (rowLs o k r ++ [(r : Int)])) (And.intro ?_ (And.intro (shape_ints (by simp)) ?_))
        · exact app_ints rfl rfl (fun i o hi ho => by (try dsimp only); rw [if_pos hi]; exact .refl _) (fun i o hi ho => by (try dsimp only); rw [if_neg (by omega), Nat.add_sub_cancel_left]; (try rw [cellV_pcell]); (try simp only [Nat.zero_add]); exact .refl _)
        rw [show (rowLs o k r).length + (1 - 0) = (rowLs o k (r + 1)).length by rw [rowLs_succ, if_pos hv]; simp, show rowLs o k r ++ [(r : Int)] = rowLs o k (r + 1) by rw [rowLs_succ, if_pos hv]]
        repeat' (first | refine vcI ?_ | refine And.intro ?_ ?_ | (intro hq; (try simp at hq); (try (exfalso; omega)); (try (revert hq; intro))))
        exact Exists.intro (r + 1, _, v6) ⟨by dsimp only; omega, (by first | omega | (dsimp only; omega)), ⟨by ((repeat' apply And.intro) <;> (first | exact True.intro | exact NEq.refl _ | (refine NEq.int ?_; first | exact rfl | omega | (rw [wrapI (by omega)]; first | exact rfl | omega)))), ⟨⟨rfl, .refl _⟩, ⟨rfl, .refl _⟩, ⟨rfl, .refl _⟩, trivial⟩, .nil⟩⟩
      · have hv : lvB o k r = false := by assumption
        have e : rowLs o k (r + 1) = rowLs o k r := by rw [rowLs_succ, if_neg (by rw [hv]; decide)]
        refine Exists.intro (r + 1, v, v6) ⟨by dsimp only; omega, (by first | omega | (dsimp only; omega)), ?_⟩
        dsimp only
        rw [e]
        exact ⟨by ((repeat' apply And.intro) <;> (first | exact True.intro | exact NEq.refl _ | (refine NEq.int ?_; first | exact rfl | omega | (rw [wrapI (by omega)]; first | exact rfl | omega)))), ⟨⟨rfl, .refl _⟩, ⟨rfl, .refl _⟩, ⟨rfl, .refl _⟩, trivial⟩, .nil⟩
      · obtain rfl : m = r := by omega
        rw [show liveE o (k : Int) = (rowLs o k m, 0) by unfold liveE; rw [if_pos HO, if_pos hi, ← hmt, rowLs_live H hkn]; rfl]
        exact NEq.tup2 (view_ints (k := 6) rfl rfl) (.refl _)
    · have e3 : liveE o i = ([], 3) := by unfold liveE; rw [if_pos HO, if_neg hi]
      repeat' (first | refine vcI ?_ | refine And.intro ?_ ?_ | (intro hq; (try simp at hq); (try (exfalso; omega)); (try (revert hq; intro))))
      · simp; omega
      iterate 2
        · rw [e3]
          exact ans_nils 3
theorem RNext_spec (o : DO) (i : Int) (hf : fewN o ≤ 6000) (hs : ∀ l ∈ o.descs, l.length ≤ 1048576 ∧ ∀ f ∈ l, f.small) (hl : o.irs.length ≤ 1048576 ∧ o.descs.length ≤ 1048576 ∧ o.types.length ≤ 1048576) : CallsF Tryz.prog 13 [.agg (dol o), .int .i64 i] (ansE (nextE o i)) := by
  have hsh := Shaped_spec o hf hl
  refine callsF_ofS mx Tryz.call13 Tryz.func13 rfl Tryz.ntmps13 Tryz.results13 (by kernel_rfl) (by simp) fun lo => ?_
  repeat' (first | refine vcI ?_ | refine And.intro ?_ ?_ | (intro hq; (try simp at hq); (try (exfalso; omega)); (try (revert hq; intro))))
  rcases hb : shapedB o with _ | _
  · rw [hb] at hsh
    have HO : ¬ OpenP o := fun h => by rw [shaped_open.2 h] at hb; cases hb
    refine CallS.plain [.fptr 12 (rowL (dol o)) 0] (.bool false) hsh (LeL.cons (view_opt rfl) LeL.nil) trivial ?_
    repeat' (first | refine vcI ?_ | refine And.intro ?_ ?_ | (intro hq; (try simp at hq); (try (exfalso; omega)); (try (revert hq; intro))))
    rw [show nextE o i = ([], 210) by unfold nextE; rw [if_neg HO]]
    exact ans_nils 210
  · rw [hb] at hsh
    have HO := shaped_open.1 hb
    refine CallS.plain [.fptr 12 (rowL (dol o)) 0] (.bool true) hsh (LeL.cons (view_opt rfl) LeL.nil) trivial ?_
    by_cases hi : 0 ≤ i ∧ i < (o.irs.length : Int)
    · obtain ⟨k, rfl⟩ := Int.eq_ofNat_of_zero_le hi.1
      have hkn : k < o.irs.length := by omega
      have hgs := Goes_spec (o.irs.getD k default) k (by have := HO.le; omega)
      repeat' (first | refine vcI ?_ | refine And.intro ?_ ?_ | (intro hq; (try simp at hq); (try (exfalso; omega)); (try (revert hq; intro))))
      rw [mk_ir]
      refine CallS.own (oints (goesL (o.irs.getD k default) k)) (fun id ver => .ref id ver [] 1 0 (goesL (o.irs.getD k default) k).length) hgs (plainAll rfl) ?_
      repeat' (first | refine vcI ?_ | refine And.intro ?_ ?_ | (intro hq; (try simp at hq); (try (exfalso; omega)); (try (revert hq; intro))))
      rw [show nextE o (k : Int) = (goesL (o.irs.getD k default) k, 0) by unfold nextE; rw [if_pos HO, if_pos hi]; rfl]
      exact NEq.tup2 (view_ints (k := 6) rfl rfl) (.refl _)
    · have e3 : nextE o i = ([], 3) := by unfold nextE; rw [if_pos HO, if_neg hi]
      repeat' (first | refine vcI ?_ | refine And.intro ?_ ?_ | (intro hq; (try simp at hq); (try (exfalso; omega)); (try (revert hq; intro))))
      · simp; omega
      iterate 2
        · rw [e3]
          exact ans_nils 3
end Go.Ab
namespace Go.Ab
open Go.Proofs
set_option maxRecDepth 100000
set_option maxHeartbeats 4000000

theorem rangePairs {lv : Nat} {nt : FS} {S L : Hp} {tm : Tm} {nv : Nat} {Q : Post} {g : Operand} {ps : Array Tmp} {assign body : Code} (o : DO) (H : FlH o) (hr1 : 1 ≤ o.regs) (hS : Above 2 S)
    (hg : ev tm g = .func (.func 83) [] [.fptr 1 (fun _ => codeP o (frW o.irs.length fun i => wordsP (LiveP o i))) 0]) (Inv : List (Int × Int) → Hp → Prop) (Brk : Hp → Prop) (mem : Hp)
    (hL : ∀ j, j ≠ (1, 1001) → lkH mem j = lkH L j) (h0 : Inv [] mem) (hnd : ∀ p M, Inv p M ∨ Brk M → (((1, 1001) : RId) :: M.map (·.1)).Nodup ∧ Above 2 M)
    (hst : ∀ S' pre M nv' a b, Inv pre M → (a, b) ∈ collL o → pre.length ≤ 100000 → YieldS Tryz.prog S' (1, 1001) nv [.agg [.int .i64 a, .int .i64 b]] (((1, 1001), ⟨nv, .oloop ⟨.ready, none, nt.n, ps, assign, body⟩ (lk tm)⟩) :: M) nv' fun y L' _ =>
      (y = .bool true ∧ ∃ M', L' = ((1, 1001), ⟨nv, .oloop ⟨.ready, none, nt.n, ps, assign, body⟩ (lk tm)⟩) :: M' ∧ Inv (pre ++ [(a, b)]) M') ∨ (y = .bool false ∧ ∃ c M', L' = ((1, 1001), ⟨nv, .oloop ⟨.done, some .ret, nt.n, ps, assign, body⟩ c⟩) :: M' ∧ Brk M'))
    (k1 : ∀ M nv', Inv (collL o) M → Q .normal tm (((1, 1001), ⟨nv, .oloop ⟨.exhausted, none, nt.n, ps, assign, body⟩ (lk tm)⟩) :: M) nv') (k2 : ∀ c M nv', Brk M → Q .ret tm (((1, 1001), ⟨nv, .oloop ⟨.exhausted, some .ret, nt.n, ps, assign, body⟩ c⟩) :: M) nv') :
    Ev Tryz.prog lv nt none (.rangeFunc g ps assign body) tm (L ++ S) nv (liftQ S Q) := by
  have hno : ∀ {p M}, Inv p M ∨ Brk M → lkH M (1, 1001) = none := fun h => lkH_none.2 (List.nodup_cons.1 (hnd _ _ h).1).1
  have hab : ∀ {x : Root} {p M}, Inv p M ∨ Brk M → Above 2 (((1, 1001), x) :: M) := fun h => (hnd _ _ h).2.cons (by decide)
  refine rangeS (1, 1001) (by decide) hg (fun _ hp' _ => ∃ L', hp' = L' ++ S ∧ ((∃ M', L' = ((1, 1001), ⟨nv, .oloop ⟨.ready, none, nt.n, ps, assign, body⟩ (lk tm)⟩) :: M' ∧ Inv (collL o) M') ∨ ∃ _ : List (Int × Int), ∃ c M', L' = ((1, 1001), ⟨nv, .oloop ⟨.done, some .ret, nt.n, ps, assign, body⟩ c⟩) :: M' ∧ Brk M')) (((1, 1001), ⟨nv, .oloop ⟨.ready, none, nt.n, ps, assign, body⟩ (lk tm)⟩) :: mem) (fun j => ?_) ?_ ?_
  · simp only [lkH]
    by_cases e : j = (1, 1001)
    · rw [if_pos e, if_pos e]
    · rw [if_neg e, if_neg e, hL j e]
  · refine pairs1_spec o H hr1 (1, 1001) nv (nv + 1) _ S hS (fun p L => ∃ M', L = ((1, 1001), ⟨nv, .oloop ⟨.ready, none, nt.n, ps, assign, body⟩ (lk tm)⟩) :: M' ∧ Inv p M') (fun _ L => ∃ c M', L = ((1, 1001), ⟨nv, .oloop ⟨.done, some .ret, nt.n, ps, assign, body⟩ c⟩) :: M' ∧ Brk M') ⟨mem, rfl, h0⟩ ?_ ?_
    · rintro p L (⟨M, rfl, h⟩ | ⟨c, M, rfl, h⟩)
      · exact ⟨(hnd p M (.inl h)).1, hab (.inl h)⟩
      · exact ⟨(hnd p M (.inr h)).1, hab (p := p) (.inr h)⟩
    · rintro S' pre L nv' a b ⟨M, rfl, h⟩ hm hpl
      exact hst S' pre M nv' a b h hm hpl
  · rintro res hp' nv' ⟨L', rfl, ⟨M, rfl, h⟩ | ⟨_, c, M, rfl, h⟩⟩
    · refine ⟨_, Rep.mk' S _, rfl, (fun h => by cases h), ?_⟩
      rw [delS_hd, delS_id (hno (.inl h))]
      exact k1 M nv' h
    · refine ⟨_, Rep.mk' S _, rfl, (fun h => by cases h), ?_⟩
      rw [delS_hd, delS_id (hno (p := []) (.inr h))]
      exact k2 c M nv' h

structure PlacesP (o : DO) (l : List Int) : Prop where
  live : ∀ r ∈ liveL o 0, l.getD r.toNat 0 = r
  apart : ∀ p ∈ collL o, l.getD p.1.toNat 0 ≠ l.getD p.2.toNat 0
theorem Above.chk0 {n : Nat} {L : Hp} (h : (L.all fun x => Nat.blt x.1.1 n) = true) : Above n L := by
  have := Above.chk (S := []) h Above.nil
  rwa [List.append_nil] at this
end Go.Ab
namespace Go.Ab
open Go.Proofs
set_option maxRecDepth 100000
set_option maxHeartbeats 4000000

def cst2 (e : PV) (old : Nat → PV) : Nat → PV := fun b => if 0 ≤ b ∧ b < 0 + 1 then List.getD [e] (b - 0) .undef else old b
/-- What was gathered, with what a round leaves behind. -/
def inv68 (pre : List (Int × Int)) (M : Hp) : Prop := (pre = [] ∧ M = [((1, 2), ⟨0, .obox 1 fun _ => .nils⟩)]) ∨ ∃ v x5 x10 old, M = [((1, 2), ⟨0, .obox 1 (cst2 (.ref (1, 11) v [] 2 0 pre.length) old)⟩), ((1, 11), ⟨v, oprs pre⟩), ((1, 10), x10), ((1, 5), x5)]
theorem AppendSeq_spec (o : DO) (H : FlH o) (hr1 : 1 ≤ o.regs) : CallsF Tryz.prog 82 [.nils, .func (.func 83) [] [.fptr 1 (fun _ => codeP o (frW o.irs.length fun i => wordsP (LiveP o i))) 0]] (prs (collL o)) := by
  refine callsF_ofS mx Tryz.call82 Tryz.func82 rfl Tryz.ntmps82 Tryz.results82 (by kernel_rfl) (by simp) fun lo => ?_
  refine lessS (tm' := [(6, .func (.func 83) [] [.fptr 1 (fun _ => codeP o (frW o.irs.length fun i => wordsP (LiveP o i))) 0]), (2, .ptr (1, 2) 0 [] 0 0)]) (L' := [((1, 2), ⟨0, .obox 1 fun _ => .nils⟩)]) ⟨by ((repeat' apply And.intro) <;> (first | exact True.intro | exact NEq.refl _ | (refine NEq.int ?_; first | exact rfl | omega | (rw [wrapI (by omega)]; first | exact rfl | omega)))), ⟨⟨rfl, .obox ?_⟩, trivial⟩, .nil⟩ ?_
  · intro q hq
    obtain rfl : q = 0 := by have : q < 1 := hq; omega
    exact .refl _
  refine rangePairs o H hr1 Above.nil rfl inv68 (fun _ => False) [((1, 2), ⟨0, .obox 1 fun _ => .nils⟩)] (fun j hj => rfl) (.inl ⟨rfl, rfl⟩) ?_ ?_ ?_ ?_
  · rintro p M ((⟨_, rfl⟩ | ⟨v, x5, x10, old, rfl⟩) | h)
    · exact ⟨by simp, Above.chk0 rfl⟩
    · exact ⟨by simp, Above.chk0 rfl⟩
    · exact h.elim
  · rintro S' pre M nv' a b hM hm hpl
    rcases hM with ⟨rfl, rfl⟩ | ⟨v, x5, x10, old, rfl⟩
    · refine yieldS_of mx (lvb := 1) (by decide) rfl rfl rfl (by kernel_rfl) (by kernel_rfl) (by kernel_rfl) fun l0 lo => ?_
      repeat' (first | refine vcI ?_ | refine And.intro ?_ ?_ | (intro hq; (try simp at hq); (try (exfalso; omega)); (try (revert hq; intro))))
      rw [show Tryz.prog.cellsOf 56 = 2 by kernel_rfl]
      refine Exists.intro (oprs [(a, b)]) (And.intro ?_ (And.intro rfl ?_))
      · refine NEq.owns rfl rfl fun i q hi hq => ?_
        obtain rfl : i = 0 := by simp at hi; omega
        rcases (by omega : q = 0 ∨ q = 1) with rfl | rfl <;> exact .refl _
      repeat' (first | refine vcI ?_ | refine And.intro ?_ ?_ | (intro hq; (try simp at hq); (try (exfalso; omega)); (try (revert hq; intro))))
      refine Exists.intro (oprs [(a, b)]) (And.intro ?_ (And.intro rfl ?_))
      · refine NEq.owns rfl rfl fun i q hi hq => ?_
        obtain rfl : i = 0 := by simp at hi; omega
        rcases (by omega : q = 0 ∨ q = 1) with rfl | rfl <;> exact .refl _
      repeat' (first | refine vcI ?_ | refine And.intro ?_ ?_ | (intro hq; (try simp at hq); (try (exfalso; omega)); (try (revert hq; intro))))
      exact .inl ⟨rfl, _, rfl, .inr ⟨_, _, _, _, rfl⟩⟩
    · refine yieldS_of mx (lvb := 1) (by decide) rfl rfl rfl (by kernel_rfl) (by kernel_rfl) (by kernel_rfl) fun l0 lo => ?_
      repeat' (first | refine vcI ?_ | refine And.intro ?_ ?_ | (intro hq; (try simp at hq); (try (exfalso; omega)); (try (revert hq; intro))))
      rw [show Tryz.prog.cellsOf 56 = 2 by kernel_rfl]
      refine Exists.intro (oprs [(a, b)]) (And.intro ?_ (And.intro rfl ?_))
      · refine NEq.owns rfl rfl fun i q hi hq => ?_
        obtain rfl : i = 0 := by simp at hi; omega
        rcases (by omega : q = 0 ∨ q = 1) with rfl | rfl <;> exact .refl _
      repeat' (first | refine vcI ?_ | refine And.intro ?_ ?_ | (intro hq; (try simp at hq); (try (exfalso; omega)); (try (revert hq; intro))))
      refine Exists.intro (oprs (pre ++ [(a, b)])) (And.intro ?_ (And.intro (shape_prs (by simp)) ?_))
      · exact app_prs rfl rfl (fun i o hi ho => by (try dsimp only); rw [if_pos hi]; exact .refl _) (fun i o hi ho => by (try dsimp only); rw [if_neg (by omega), Nat.add_sub_cancel_left]; (try rw [cellV_pcell]); (try simp only [Nat.zero_add]); exact .refl _)
      repeat' (first | refine vcI ?_ | refine And.intro ?_ ?_ | (intro hq; (try simp at hq); (try (exfalso; omega)); (try (revert hq; intro))))
      rw [show pre.length + (1 - 0) = (pre ++ [(a, b)]).length by simp]
      exact .inl ⟨rfl, _, rfl, .inr ⟨_, _, _, _, rfl⟩⟩
  · rintro M nv' hM
    rcases hM with ⟨h, rfl⟩ | ⟨v, x5, x10, old, rfl⟩
    · rw [h]
      repeat' (first | refine vcI ?_ | refine And.intro ?_ ?_ | (intro hq; (try simp at hq); (try (exfalso; omega)); (try (revert hq; intro))))
      exact .nils
    · repeat' (first | refine vcI ?_ | refine And.intro ?_ ?_ | (intro hq; (try simp at hq); (try (exfalso; omega)); (try (revert hq; intro))))
      exact view_prs (k := 7) rfl rfl
  · rintro c M nv' h
    exact h.elim
theorem Collect_spec (o : DO) (H : FlH o) (hr1 : 1 ≤ o.regs) : CallsF Tryz.prog 35 [.func (.func 83) [] [.fptr 1 (fun _ => codeP o (frW o.irs.length fun i => wordsP (LiveP o i))) 0]] (prs (collL o)) := by
  have h := AppendSeq_spec o H hr1
  refine callsF_ofS mx Tryz.call35 Tryz.func35 rfl Tryz.ntmps35 Tryz.results35 (by kernel_rfl) (by simp) fun lo => ?_
  repeat' (first | refine vcI ?_ | refine And.intro ?_ ?_ | (intro hq; (try simp at hq); (try (exfalso; omega)); (try (revert hq; intro))))
  refine CallS.frozen _ h (plainAll rfl) ?_
  repeat' (first | refine vcI ?_ | refine And.intro ?_ ?_ | (intro hq; (try simp at hq); (try (exfalso; omega)); (try (revert hq; intro))))
  exact .refl _
open Classical in
noncomputable def colE2 (o : DO) : List (Int × Int) × Int := if OpenP o then (collL o, 0) else ([], 210)
theorem Collide_spec (o : DO) (hf : fewN o ≤ 6000) (hs : ∀ l ∈ o.descs, l.length ≤ 1048576 ∧ ∀ f ∈ l, f.small) : CallsF Tryz.prog 10 [.agg (dol o)] (.tup [prs (colE2 o).1, .int .i64 (colE2 o).2]) := by
  have ho := open_spec o hf hs
  refine callsF_ofS mx Tryz.call10 Tryz.func10 rfl Tryz.ntmps10 Tryz.results10 (by kernel_rfl) (by simp) fun lo => ?_
  repeat' (first | refine vcI ?_ | refine And.intro ?_ ?_ | (intro hq; (try simp at hq); (try (exfalso; omega)); (try (revert hq; intro))))
  rw [mk_opt]
  by_cases HO : OpenP o
  · rw [openR_ok HO] at ho
    have h := Collect_spec o (HO.fl hf hs) HO.r1
    refine CallS.frozen (.tup [codeP o (frW o.irs.length fun i => wordsP (LiveP o i)), .int .i64 0]) ho (plainAll rfl) ?_
    repeat' (first | refine vcI ?_ | refine And.intro ?_ ?_ | (intro hq; (try simp at hq); (try (exfalso; omega)); (try (revert hq; intro))))
    refine CallS.frozen _ (pairs_spec o _) (plainAll rfl) ?_
    repeat' (first | refine vcI ?_ | refine And.intro ?_ ?_ | (intro hq; (try simp at hq); (try (exfalso; omega)); (try (revert hq; intro))))
    refine CallS.frozen _ h (plainAll rfl) ?_
    repeat' (first | refine vcI ?_ | refine And.intro ?_ ?_ | (intro hq; (try simp at hq); (try (exfalso; omega)); (try (revert hq; intro))))
    rw [show colE2 o = (collL o, 0) by unfold colE2; rw [if_pos HO]]
    exact NEq.tup2 (.refl _) (.refl _)
  · rw [openR_bad HO] at ho
    refine CallS.frozen (.tup [.nilp, .int .i64 210]) ho (plainAll rfl) ?_
    repeat' (first | refine vcI ?_ | refine And.intro ?_ ?_ | (intro hq; (try simp at hq); (try (exfalso; omega)); (try (revert hq; intro))))
    rw [show colE2 o = ([], 210) by unfold colE2; rw [if_neg HO]]
    exact NEq.tup2 .nils (.refl _)
end Go.Ab
namespace Go.Ab
open Go.Proofs
set_option maxRecDepth 100000
set_option maxHeartbeats 4000000

theorem pairK_succ (o : DO) (r k : Nat) : pairK o r (k + 1) = if (decide (r < k) && coB o r k) = true then pairK o r k ++ [((r : Int), (k : Int))] else pairK o r k := by
  unfold pairK
  rw [List.range_succ, List.filter_append, List.map_append]
  split <;> rename_i h
  · simp [h]
  · simp only [Bool.not_eq_true] at h
    simp [h]
theorem pairK_low (o : DO) (r : Nat) : pairK o r (r + 1) = [] := by
  unfold pairK
  rw [List.filter_eq_nil_iff.2 fun q hq => ?_]
  · rfl
  · have := List.mem_range.1 hq
    simp; omega
theorem pairK_len (o : DO) (r k : Nat) : (pairK o r k).length ≤ k := by
  unfold pairK; rw [List.length_map]; exact Nat.le_trans (List.length_filter_le _ _) (by simp)
theorem pairsK_succ (o : DO) (m k : Nat) : pairsK o m (k + 1) = pairsK o m k ++ pairK o k m := by
  unfold pairsK; rw [List.range_succ, List.flatMap_append]; simp
theorem pairsK_len (o : DO) (m : Nat) : ∀ k, (pairsK o m k).length ≤ m * k
  | 0 => by simp [pairsK]
  | k + 1 => by
    have ih := pairsK_len o m k
    have := pairK_len o k m
    rw [pairsK_succ, List.length_append, Nat.mul_succ]; omega
theorem RCollide_spec (o : DO) (hf : fewN o ≤ 6000) (hs : ∀ l ∈ o.descs, l.length ≤ 1048576 ∧ ∀ f ∈ l, f.small) (hl : o.irs.length ≤ 1048576 ∧ o.descs.length ≤ 1048576 ∧ o.types.length ≤ 1048576) : CallsF Tryz.prog 11 [.agg (dol o)] (.tup [prs (colE2 o).1, .int .i64 (colE2 o).2]) := by
  have hsh := Shaped_spec o hf hl
  refine callsF_ofS mx Tryz.call11 Tryz.func11 rfl Tryz.ntmps11 Tryz.results11 (by kernel_rfl) (by simp) fun lo => ?_
  repeat' (first | refine vcI ?_ | refine And.intro ?_ ?_ | (intro hq; (try simp at hq); (try (exfalso; omega)); (try (revert hq; intro))))
  rcases hb : shapedB o with _ | _
  · rw [hb] at hsh
    have HO : ¬ OpenP o := fun h => by rw [shaped_open.2 h] at hb; cases hb
    refine CallS.plain [.fptr 12 (rowL (dol o)) 0] (.bool false) hsh (LeL.cons (view_opt rfl) LeL.nil) trivial ?_
    repeat' (first | refine vcI ?_ | refine And.intro ?_ ?_ | (intro hq; (try simp at hq); (try (exfalso; omega)); (try (revert hq; intro))))
    rw [show colE2 o = ([], 210) by unfold colE2; rw [if_neg HO]]
    exact NEq.tup2 .nils (.refl _)
  · rw [hb] at hsh
    have HO := shaped_open.1 hb
    have H := HO.fl hf hs
    have hrr := H.hr
    have hr1 := HO.r1
    obtain ⟨m, hm⟩ : ∃ m : Nat, o.regs = (m : Int) := ⟨o.regs.toNat, (Int.toNat_of_nonneg (by omega)).symm⟩
    have hmt : o.regs.toNat = m := by omega
    have hlo := LiveOf_spec o H HO.r1
    have hco := collisions_spec o H HO.r1
    rw [hmt] at hlo hco
    refine CallS.plain [.fptr 12 (rowL (dol o)) 0] (.bool true) hsh (LeL.cons (view_opt rfl) LeL.nil) trivial ?_
    repeat' (first | refine vcI ?_ | refine And.intro ?_ ?_ | (intro hq; (try simp at hq); (try (exfalso; omega)); (try (revert hq; intro))))
    refine CallS.ownPlain [.fptr 12 (rowL (dol o)) 0] 1 o.irs.length (fun a _ => .own 1 m fun r _ => .bool (lvB o a r)) (fun id ver => .ref id ver [] 1 0 o.irs.length) hlo (LeL.cons (view_opt rfl) LeL.nil) trivial (fun i o hi => fun _ _ _ => trivial) ?_
    repeat' (first | refine vcI ?_ | refine And.intro ?_ ?_ | (intro hq; (try simp at hq); (try (exfalso; omega)); (try (revert hq; intro))))
    refine CallS.ownPlain [.fptr 12 (rowL (dol o)) 0, frb o.irs.length m (lvB o)] 1 m (fun a _ => .own 1 m fun r _ => .bool (coB o a r)) (fun id ver => .ref id ver [] 1 0 m) hco (LeL.cons (view_opt rfl) (LeL.cons (view_bb rfl) LeL.nil)) trivial (fun i o hi => fun _ _ _ => trivial) ?_
    repeat' (first | refine vcI ?_ | refine And.intro ?_ ?_ | (intro hq; (try simp at hq); (try (exfalso; omega)); (try (revert hq; intro))))
    refine ghostS0 6 (1, 1000) (by decide) 2 (fun _ _ => .undef) rfl rfl fun v => ?_
    refine loopS3 mx (by decide) (by kernel_rfl) (fun (r v v5 : Nat) => r ≤ m) (fun r v v5 => [(7, .int .i64 r), (6, .ref (1, 1000) v [] 2 0 (pairsK o m r).length), (5, .ref (1, 13) v5 [] 1 0 m), (1, .ptr (1, 1) 0 [] 0 0)]) (fun r v v5 => [((1, 1000), ⟨v, oprs (pairsK o m r)⟩), ((1, 13), ⟨v5, bbN m m (coB o)⟩), ((1, 1), ⟨0, .obox 12 (rowL (dol o))⟩)]) (fun r v v5 => m - r) 0 v _ (by simp) ⟨by ((repeat' apply And.intro) <;> (first | exact True.intro | exact NEq.refl _ | (refine NEq.int ?_; first | exact rfl | omega | (rw [wrapI (by omega)]; first | exact rfl | omega)))), ⟨⟨rfl, .owns rfl rfl fun i o hi => absurd hi (by simp [pairsK])⟩, ⟨rfl, .refl _⟩, ⟨rfl, .refl _⟩, trivial⟩, .nil⟩ ?_
    clear v
    intro r v v5 nv hr
    have hwr : IntKind.i64.wrap ((r : Int) + 1) = ((r + 1 : Nat) : Int) := wrapI (by omega)
    have hm250 : m ≤ 250 := by omega
    have hlr := pairsK_len o m r
    have hmr : m * r ≤ 250 * 250 := Nat.mul_le_mul hm250 (by omega)
    repeat' (first | refine vcI ?_ | refine And.intro ?_ ?_ | (intro hq; (try simp at hq); (try (exfalso; omega)); (try (revert hq; intro))))
    · have hrm : r < m := by omega
      rw [hwr]
      refine loopS3 mx (by decide) (by kernel_rfl) (fun (q v v5 : Nat) => r < q ∧ q ≤ m) (fun q v v5 => [(8, .int .i64 q), (7, .int .i64 r), (6, .ref (1, 1000) v [] 2 0 (pairsK o m r ++ pairK o r q).length), (5, .ref (1, 13) v5 [] 1 0 m), (1, .ptr (1, 1) 0 [] 0 0)]) (fun q v v5 => [((1, 1000), ⟨v, oprs (pairsK o m r ++ pairK o r q)⟩), ((1, 13), ⟨v5, bbN m m (coB o)⟩), ((1, 1), ⟨0, .obox 12 (rowL (dol o))⟩)]) (fun q v v5 => m - q) (r + 1) v v5 (by omega) (by rw [pairK_low, List.append_nil]; exact ⟨by ((repeat' apply And.intro) <;> (first | exact True.intro | exact NEq.refl _ | (refine NEq.int ?_; first | exact rfl | omega | (rw [wrapI (by omega)]; first | exact rfl | omega)))), ⟨⟨rfl, .refl _⟩, ⟨rfl, .refl _⟩, ⟨rfl, .refl _⟩, trivial⟩, .nil⟩) ?_
      rintro q v v5 nv ⟨hq1, hq2⟩
      have hwq : IntKind.i64.wrap ((q : Int) + 1) = ((q + 1 : Nat) : Int) := wrapI (by omega)
      have hlq := pairK_len o r q
      have hll : (pairsK o m r ++ pairK o r q).length ≤ 62750 := by rw [List.length_append]; omega
      have hap : (pairsK o m r ++ pairK o r q).length + (1 - 0) ≤ 62751 := by omega
      repeat' (first | refine vcI ?_ | refine And.intro ?_ ?_ | (intro hq; (try simp at hq); (try (exfalso; omega)); (try (revert hq; intro))))
      · have hv : coB o r q = true := by assumption
        have hs1 : pairK o r (q + 1) = pairK o r q ++ [((r : Int), (q : Int))] := by rw [pairK_succ, if_pos (by simp [hq1, hv])]
        refine Exists.intro (oprs [((r : Int), (q : Int))]) (And.intro ?_ (And.intro rfl ?_))
        · refine NEq.owns rfl rfl fun i b hi hb => ?_
          obtain rfl : i = 0 := by simp at hi; omega
          rcases (by omega : b = 0 ∨ b = 1) with rfl | rfl <;> exact .refl _
        repeat' (first | refine vcI ?_ | refine And.intro ?_ ?_ | (intro hq; (try simp at hq); (try (exfalso; omega)); (try (revert hq; intro))))
        refine Exists.intro (oprs ((pairsK o m r ++ pairK o r q) ++ [((r : Int), (q : Int))])) (And.intro ?_ (And.intro (shape_prs (by simp; omega)) ?_))
        · exact app_prs rfl rfl (fun i o hi ho => by (try dsimp only); rw [if_pos hi]; exact .refl _) (fun i o hi ho => by (try dsimp only); rw [if_neg (by omega), Nat.add_sub_cancel_left]; (try rw [cellV_pcell]); (try simp only [Nat.zero_add]); exact .refl _)
        rw [List.append_assoc, ← hs1, show (pairsK o m r ++ pairK o r q).length + (1 - 0) = (pairsK o m r ++ pairK o r (q + 1)).length by rw [hs1]; simp; omega]
        repeat' (first | refine vcI ?_ | refine And.intro ?_ ?_ | (intro hq; (try simp at hq); (try (exfalso; omega)); (try (revert hq; intro))))
        exact Exists.intro (q + 1, _, v5) ⟨by dsimp only; omega, (by first | omega | (dsimp only; omega)), ⟨by ((repeat' apply And.intro) <;> (first | exact True.intro | exact NEq.refl _ | (refine NEq.int ?_; first | exact rfl | omega | (rw [wrapI (by omega)]; first | exact rfl | omega)))), ⟨⟨rfl, .refl _⟩, ⟨rfl, .refl _⟩, ⟨rfl, .refl _⟩, trivial⟩, .nil⟩⟩
      · have hv : coB o r q = false := by assumption
        have e : pairK o r (q + 1) = pairK o r q := by rw [pairK_succ, if_neg (by simp [hv])]
        refine Exists.intro (q + 1, v, v5) ⟨by dsimp only; omega, (by first | omega | (dsimp only; omega)), ?_⟩
        dsimp only
        rw [e]
        exact ⟨by ((repeat' apply And.intro) <;> (first | exact True.intro | exact NEq.refl _ | (refine NEq.int ?_; first | exact rfl | omega | (rw [wrapI (by omega)]; first | exact rfl | omega)))), ⟨⟨rfl, .refl _⟩, ⟨rfl, .refl _⟩, ⟨rfl, .refl _⟩, trivial⟩, .nil⟩
      · obtain rfl : m = q := by omega
        refine Exists.intro (r + 1, v, v5) ⟨by dsimp only; omega, (by first | omega | (dsimp only; omega)), ?_⟩
        dsimp only
        rw [pairsK_succ]
        exact ⟨by ((repeat' apply And.intro) <;> (first | exact True.intro | exact NEq.refl _ | (refine NEq.int ?_; first | exact rfl | omega | (rw [wrapI (by omega)]; first | exact rfl | omega)))), ⟨⟨rfl, .refl _⟩, ⟨rfl, .refl _⟩, ⟨rfl, .refl _⟩, trivial⟩, .nil⟩
    · obtain rfl : m = r := by omega
      rw [show colE2 o = (pairsK o m m, 0) by unfold colE2; rw [if_pos HO, ← hmt, pairsK_col H]]
      exact NEq.tup2 (view_prs (k := 6) rfl rfl) (.refl _)
end Go.Ab
namespace Go.Ab
open Go.Proofs
set_option maxRecDepth 100000
set_option maxHeartbeats 8000000

theorem fewB_at {o : DO} (h : fewB o = true) : fewN o ≤ 6000 ∧ o.regs ≤ 60 := by
  simpa [fewB] using h
theorem LiveLaw_spec (o : DO) (ho : o.small) (i : Int) : CallsF Tryz.prog 3 [.agg (dol o), .int .i64 i] (.bool true) := by
  refine callsF_ofS mx Tryz.call3 Tryz.func3 rfl Tryz.ntmps3 Tryz.results3 (by kernel_rfl) (by simp) fun lo => ?_
  repeat' (first | refine vcI ?_ | refine And.intro ?_ ?_ | (intro hq; (try simp at hq); (try (exfalso; omega)); (try (revert hq; intro))))
  refine CallS.frozen (.bool true) awake_spec (plainAll rfl) ?_
  repeat' (first | refine vcI ?_ | refine And.intro ?_ ?_ | (intro hq; (try simp at hq); (try (exfalso; omega)); (try (revert hq; intro))))
  rw [mk_opt]
  have hfs := few_spec o ho
  rcases hfew : fewB o with _ | _
  · rw [hfew] at hfs
    refine CallS.frozen (.bool false) hfs (plainAll rfl) ?_
    repeat' (first | refine vcI ?_ | refine And.intro ?_ ?_ | (intro hq; (try simp at hq); (try (exfalso; omega)); (try (revert hq; intro))))
    exact .refl _
  · rw [hfew] at hfs
    obtain ⟨hf, hr60⟩ := fewB_at hfew
    have hs := ho.2.2.2.2.1
    have hl : o.irs.length ≤ 1048576 ∧ o.descs.length ≤ 1048576 ∧ o.types.length ≤ 1048576 := ⟨ho.1, ho.2.1, ho.2.2.1⟩
    have h1 := Live_spec o i hf hs
    have h2 := RLive_spec o i hf hs hl
    have h3 := Collide_spec o hf hs
    have h4 := RCollide_spec o hf hs hl
    have h5 := Next_spec o i hf hs
    have h6 := RNext_spec o i hf hs hl
    have s1 := sameInts_spec (liveE o i).1 (liveE o i).1
    have s2 := samePairs_spec (colE2 o).1 (colE2 o).1
    have s3 := sameInts_spec (nextE o i).1 (nextE o i).1
    rw [decide_eq_true rfl] at s1 s2 s3
    refine CallS.frozen (.bool true) hfs (plainAll rfl) ?_
    repeat' (first | refine vcI ?_ | refine And.intro ?_ ?_ | (intro hq; (try simp at hq); (try (exfalso; omega)); (try (revert hq; intro))))
    rw [mk_opt]
    refine CallS.frozen (.tup [ints (liveE o i).1, .int .i64 (liveE o i).2]) h1 (plainAll rfl) ?_
    repeat' (first | refine vcI ?_ | refine And.intro ?_ ?_ | (intro hq; (try simp at hq); (try (exfalso; omega)); (try (revert hq; intro))))
    rw [mk_opt]
    refine CallS.frozen (.tup [ints (liveE o i).1, .int .i64 (liveE o i).2]) h2 (plainAll rfl) ?_
    repeat' (first | refine vcI ?_ | refine And.intro ?_ ?_ | (intro hq; (try simp at hq); (try (exfalso; omega)); (try (revert hq; intro))))
    rw [mk_opt]
    refine CallS.frozen (.tup [prs (colE2 o).1, .int .i64 (colE2 o).2]) h3 (plainAll rfl) ?_
    repeat' (first | refine vcI ?_ | refine And.intro ?_ ?_ | (intro hq; (try simp at hq); (try (exfalso; omega)); (try (revert hq; intro))))
    rw [mk_opt]
    refine CallS.frozen (.tup [prs (colE2 o).1, .int .i64 (colE2 o).2]) h4 (plainAll rfl) ?_
    repeat' (first | refine vcI ?_ | refine And.intro ?_ ?_ | (intro hq; (try simp at hq); (try (exfalso; omega)); (try (revert hq; intro))))
    rw [mk_opt]
    refine CallS.frozen (.tup [ints (nextE o i).1, .int .i64 (nextE o i).2]) h5 (plainAll rfl) ?_
    repeat' (first | refine vcI ?_ | refine And.intro ?_ ?_ | (intro hq; (try simp at hq); (try (exfalso; omega)); (try (revert hq; intro))))
    rw [mk_opt]
    refine CallS.frozen (.tup [ints (nextE o i).1, .int .i64 (nextE o i).2]) h6 (plainAll rfl) ?_
    repeat' (first | refine vcI ?_ | refine And.intro ?_ ?_ | (intro hq; (try simp at hq); (try (exfalso; omega)); (try (revert hq; intro))))
    first
    | refine CallS.frozen (.bool true) s1 (plainAll rfl) ?_
    | refine QS.frozen (.bool true) s1 (plainAll rfl) ?_
    repeat' (first | refine vcI ?_ | refine And.intro ?_ ?_ | (intro hq; (try simp at hq); (try (exfalso; omega)); (try (revert hq; intro))))
    rw [show ((liveE o i).2 == (liveE o i).2) = true from beq_self_eq_true _]
    first
    | refine CallS.frozen (.bool true) s2 (plainAll rfl) ?_
    | refine QS.frozen (.bool true) s2 (plainAll rfl) ?_
    repeat' (first | refine vcI ?_ | refine And.intro ?_ ?_ | (intro hq; (try simp at hq); (try (exfalso; omega)); (try (revert hq; intro))))
    rw [show ((colE2 o).2 == (colE2 o).2) = true from beq_self_eq_true _]
    first
    | refine CallS.frozen (.bool true) s3 (plainAll rfl) ?_
    | refine QS.frozen (.bool true) s3 (plainAll rfl) ?_
    repeat' (first | refine vcI ?_ | refine And.intro ?_ ?_ | (intro hq; (try simp at hq); (try (exfalso; omega)); (try (revert hq; intro))))
    rw [show ((nextE o i).2 == (nextE o i).2) = true from beq_self_eq_true _]
    exact .refl _
end Go.Ab
namespace Go.Proofs.YtbclepldghjacaaGreat.regsLive
open Go Go.Ab Go.Proofs
open Go.Proofs.YtbclepldghjacaaGreat.Common
open Go.ChangeShapes Go.WideShapes Go.ChangeAt Go.RowKit
set_option maxRecDepth 100000

theorem params : ∀ t ∈ Tryz.f3.params.toList, t < Tryz.prog.types.size := by
  have h : Tryz.f3.params.toList.all (fun t => Nat.blt t Tryz.prog.types.size) = true := by kernel_rfl
  intro t ht
  simpa [Nat.blt_eq] using List.all_eq_true.1 h t ht

theorem contract (H : Type) (enc : TypeId × Value → H) (W : World) (base : Nat) (args : Array Value) (ds gs : List (DataW H)) (before : List MemPlace)
    (hval : ∀ (j : Nat) t v, Tryz.f3.params[j]? = some t → args[j]? = some v → Value.okWide Tryz.prog W .any base t v)
    (hW : DataW.Whole enc Tryz.prog Tryz.f3.params.toList Rows.regsLiveSpec.vars false W args.toList ds gs before) (hk : Rows.uptoSmall H (ds ++ gs) = true) :
    Calls Tryz.prog 3 args W fun e W' => ∃ v, e = .returned v ∧ Rows.regsLiveSpec.post enc Tryz.prog Tryz.f3 false true false false W args v W' := by
  have hW' := hW
  obtain ⟨p, q, hA0, hV, rfl, hfz, hnd⟩ := hW
  have hA : DataW.TrodAll enc Tryz.prog W 0 (fun _ => true) true Tryz.f3.params.toList args.toList ds p := hA0
  rw [Tryz.params3] at hA hval
  obtain ⟨v0, vs0, d0, ds0, p0, q0, hargs, rfl, rfl, h0, r0⟩ := trodAll_cons hA
  obtain ⟨v1, vs1, d1, ds1, p1, q1, rfl, rfl, rfl, h1, r1⟩ := trodAll_cons r0
  obtain ⟨rfl, rfl, rfl⟩ := trodAll_nil r1
  obtain rfl : args = #[v0, v1] := by cases args; simp_all
  obtain ⟨rfl, rfl⟩ := trodVars_none hV
  have hs := small (by simpa using hk)
  obtain ⟨o, ho, e0⟩ := rOpt.argStruct Tryz.underlying32 (hval 0 _ v0 rfl rfl) h0 (hs _ (by simp))
  obtain ⟨i, hi, e1⟩ := Reads.argInt Tryz.underlying3 (hval 1 _ v1 rfl rfl) h1 (hs _ (by simp))
  exact law_of laidOut rowed sizes params rfl rfl rfl Tryz.underlying4 hW' (LiveLaw_spec o ho i) (.cons0 e0 (.cons0 e1 .nil0))

theorem lifted (os : Os) (started : os.Started) (H : Type) (enc : TypeId × Value → H) (F : Stop.Interp) :
    ReturnsInHanded {} Tryz.checked os 3 .any ((Rows.OpenSpec.upto Rows.regsLiveSpec).pre6 enc Tryz.prog Tryz.f3 Rows.regsLiveUptoRow.domain false) (((Rows.OpenSpec.upto Rows.regsLiveSpec).at F).post enc Tryz.prog Tryz.f3 false true false false) := by
  refine returnsInHanded_of_cond (C := Tryz.checked) (s := Rows.OpenSpec.upto Rows.regsLiveSpec) (k := Rows.uptoSmall) rfl own started (by kernel_rfl) Tryz.func3
    (OpenSpec.witness (enc := enc) (C := Tryz.checked) (s := Rows.OpenSpec.upto Rows.regsLiveSpec) (k := Rows.uptoSmall) rfl false ⟨#[], #[.agg #[.int .i64 0, .int .i64 0, .int .i64 0, .int .i64 0, .int .i64 0, .string ⟨#[]⟩, .slice none 0 0, .slice none 0 0, .slice none 0 0, .slice none 0 0, .slice none 0 0, .int .i64 0], .int .i64 0], []⟩ 8 (by kernel_rfl) (by kernel_rfl) (by kernel_rfl)
      (x := ([.agg [.lit (.int .i64 0), .agg [.lit (.int .i64 0), .lit (.int .i64 0), .agg [.lit (.int .i64 0), .lit (.int .i64 0), .lit (.string [])]], .nil, .nil, .nil, .nil, .nil, .lit (.int .i64 0)], .lit (.int .i64 0)], [], [])) (by kernel_rfl) rfl (by kernel_rfl)) ?_
  intro W base args ds gs before hval hW _ hk _
  exact contract H enc W base args ds gs before hval hW hk

theorem proved : Rows.RegsLiveUptoSaid :=
  OpenClaim.holds_of_cond 3 Tryz.f3 rfl rfl rfl rfl rfl rfl rfl ⟨rfl, rfl, rfl, rfl, rfl⟩ rfl rfl rfl rfl rfl (by kernel_rfl) Tryz.func3 (by kernel_rfl)
    (of_decide_eq_true (by kernel_rfl)) (by unfold Func.isWrapper; first | (rw [if_pos (by decide +kernel)]; kernel_rfl) | (rw [if_neg (by decide +kernel)]; exact ⟨rfl, rfl⟩))
    (fun os started H enc _ F => lifted os started H enc F)
#print axioms proved
end Go.Proofs.YtbclepldghjacaaGreat.regsLive

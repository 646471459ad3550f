/- proteuslaw21.RegsSame is true whatever the input, and the input reads as it did, where what it reads is of bulk at most 1048576. -/
import Derived.Test.YtbclepldghjacaaA5
import Derived.Test.YtbclepldghjacaaW1
set_option linter.unusedVariables false
set_option linter.unusedSimpArgs false
namespace Go.Ab
open Go.Proofs
set_option maxRecDepth 100000
set_option maxHeartbeats 4000000

theorem Check_spec (o : DO) (l : List Int) (hll : l.length ≤ 1048576) (hf : fewN o ≤ 6000) (hs : ∀ l ∈ o.descs, l.length ≤ 1048576 ∧ ∀ f ∈ l, f.small) : CallsF Try.prog 14 [.agg (dol o), ints l] (.int .i64 (chkE o l)) := by
  have hp := placed_spec o l hll hf hs
  refine callsF_ofS mx Try.call14 Try.func14 rfl Try.ntmps14 Try.results14 (by kernel_rfl) (by simp) fun lo => ?_
  repeat' (first | refine vcI ?_ | refine And.intro ?_ ?_ | (intro hq; (try simp at hq); (try (exfalso; omega)); (try (revert hq; intro))))
  rw [mk_opt]
  by_cases h : chkE o l = 0
  · rw [placedR_ok h] at hp
    refine CallS.frozen _ hp (plainAll rfl) ?_
    repeat' (first | refine vcI ?_ | refine And.intro ?_ ?_ | (intro hq; (try simp at hq); (try (exfalso; omega)); (try (revert hq; intro))))
    rw [h]; exact .refl _
  · rw [placedR_bad rfl h] at hp
    refine CallS.frozen _ hp (plainAll rfl) ?_
    repeat' (first | refine vcI ?_ | refine And.intro ?_ ?_ | (intro hq; (try simp at hq); (try (exfalso; omega)); (try (revert hq; intro))))
    exact .refl _

/-- What holds where places are right. -/
structure RightP (o : DO) (l : List Int) : Prop where
  op : OpenP o
  len : (l.length : Int) = o.regs
  inn : ∀ r, r < l.length → 0 ≤ l.getD r 0 ∧ l.getD r 0 < (l.length : Int)
  live : ∀ r, LiveP o 0 r → l.getD r 0 = r
  apart : ∀ a b, ColP o a b → a ≠ b → l.getD a 0 ≠ l.getD b 0
theorem chkE_zero {o : DO} {l : List Int} (hf : fewN o ≤ 6000) (hs : ∀ l ∈ o.descs, l.length ≤ 1048576 ∧ ∀ f ∈ l, f.small) : chkE o l = 0 ↔ RightP o l := by
  have key : ∀ (HO : OpenP o), PlacesP o l ↔ (∀ r, LiveP o 0 r → l.getD r 0 = r) ∧ ∀ a b, ColP o a b → a ≠ b → l.getD a 0 ≠ l.getD b 0 := fun HO => by
    have H := HO.fl hf hs
    have hr := H.hr
    constructor
    · intro h
      refine ⟨fun r hl => ?_, fun a b hc hab => ?_⟩
      · have h1 := (hl.lt H).1
        exact h.live (r : Int) ((mem_liveL (by omega)).2 hl)
      · rcases Nat.lt_or_gt_of_ne hab with h1 | h1
        · exact h.apart ((a : Int), (b : Int)) ((mem_collL H HO.r1).2 ⟨a, b, rfl, h1, hc⟩)
        · exact fun e => h.apart ((b : Int), (a : Int)) ((mem_collL H HO.r1).2 ⟨b, a, rfl, h1, hc.symm⟩) e.symm
    · rintro ⟨h1, h2⟩
      refine ⟨fun r hr => ?_, fun p hp => ?_⟩
      · obtain ⟨q, q1, q2, rfl⟩ := mem_listW.1 hr
        exact h1 q ((bit_wordsP _ _).1 q2)
      · obtain ⟨a, b, rfl, h3, h4⟩ := (mem_collL H HO.r1).1 hp
        exact h2 a b h4 (by omega)
  unfold chkE
  constructor
  · intro h
    by_cases HO : OpenP o
    · rw [if_pos HO] at h
      by_cases hc : (l.length : Int) = o.regs ∧ ∀ p ∈ l, regB o p = true
      · rw [if_pos hc] at h
        by_cases hP : PlacesP o l
        · obtain ⟨k1, k2⟩ := (key HO).1 hP
          refine ⟨HO, hc.1, fun r hr => ?_, k1, k2⟩
          have h5 := hc.2 (l.getD r 0) (by rw [List.getD_eq_getElem?_getD]; exact getD_mem _ hr)
          simp only [regB, Bool.and_eq_true, decide_eq_true_eq] at h5
          omega
        · rw [if_neg hP] at h; omega
      · rw [if_neg hc] at h; omega
    · rw [if_neg HO] at h; omega
  · intro h
    have hin : ∀ p ∈ l, regB o p = true := fun p hp => by
      obtain ⟨i, hi, rfl⟩ := List.mem_iff_getElem.1 hp
      have h5 := h.inn i hi
      have e : l.getD i 0 = l[i] := by simp [List.getD_eq_getElem?_getD, hi]
      rw [e] at h5
      have := h.len
      simp only [regB, Bool.and_eq_true, decide_eq_true_eq]
      omega
    rw [if_pos h.op, if_pos ⟨h.len, hin⟩, if_pos ((key h.op).2 ⟨h.live, h.apart⟩)]

/-- Values agree where registers are live. -/
def Agree (o : DO) (l one two : List Int) (k : Nat) : Prop := ∀ r, LiveP o k r → one.getD r 0 = two.getD (l.getD r 0).toNat 0
theorem getD_set {l : List Int} {i j : Nat} {v : Int} : (l.set i v).getD j 0 = if j = i ∧ i < l.length then v else l.getD j 0 := by
  simp only [List.getD_eq_getElem?_getD, List.getElem?_set]
  by_cases e : i = j
  · subst e
    by_cases h : i < l.length
    · simp [h]
    · simp [h]
  · rw [if_neg e, if_neg (fun h => e h.1.symm)]
theorem Agree.next {o : DO} {l one two : List Int} (H : FlH o) (hP : RightP o l) {k : Nat} (hk : k < o.irs.length) {k' : Int} (hg : k' ∈ goesL (o.irs.getD k default) k) (h : Agree o l one two k) (hs : setsB (o.irs.getD k default).op ≠ true) : Agree o l one two k'.toNat := fun r hl => by
  have hgo := H.go k hk k' hg
  exact h r (.step hk (k := k'.toNat) (by rw [Int.toNat_of_nonneg hgo.1]; exact hg) hl fun h1 => hs h1.1)
theorem Agree.set {o : DO} {l one two : List Int} (H : FlH o) (hP : RightP o l) (h1 : one.length = l.length) (h2 : two.length = l.length) {k : Nat} (hk : k < o.irs.length) {k' : Int} (hg : k' ∈ goesL (o.irs.getD k default) k) (h : Agree o l one two k) (hs : setsB (o.irs.getD k default).op = true) (v : Int) :
    Agree o l (one.set (o.irs.getD k default).d.toNat v) (two.set (l.getD (o.irs.getD k default).d.toNat 0).toNat v) k'.toNat := fun r hl => by
  have hgo := H.go k hk k' hg
  have hd := H.dR hk hs
  have hlen := hP.len
  have hrl := (hl.lt H).1
  obtain ⟨d, hdd⟩ : ∃ d : Nat, (o.irs.getD k default).d = (d : Int) := ⟨_, (Int.toNat_of_nonneg hd.1).symm⟩
  rw [hdd, Int.toNat_natCast]
  have hdl : d < l.length := by omega
  have hi1 := hP.inn d hdl
  have hi2 := hP.inn r (by omega)
  rw [getD_set, getD_set]
  by_cases e : r = d
  · subst e
    rw [if_pos ⟨rfl, by omega⟩, if_pos ⟨rfl, by omega⟩]
  · rw [if_neg (fun h => e h.1), if_neg]
    · exact h r (.step hk (k := k'.toNat) (by rw [Int.toNat_of_nonneg hgo.1]; exact hg) hl fun h3 => by have := h3.2; omega)
    · rintro ⟨h3, h4⟩
      refine hP.apart r d ⟨k, hk, .inr ⟨hs, .inr ⟨by rw [hdd], .inr ⟨k', hg, hl⟩⟩⟩⟩ e ?_
      omega
end Go.Ab
namespace Go.Ab
open Go.Proofs
set_option maxRecDepth 100000
set_option maxHeartbeats 4000000

theorem wayI {L w : Int} (h0 : 0 < L) (h1 : L ≤ 2) : 0 ≤ (IntKind.i64.wrap (w.tmod L + L)).tmod L ∧ (IntKind.i64.wrap (w.tmod L + L)).tmod L < L := by
  have h2 : -L < w.tmod L ∧ w.tmod L < L := by
    refine ⟨?_, Int.tmod_lt_of_pos w h0⟩
    have := Int.tmod_lt_of_pos (-w) h0
    rw [Int.neg_tmod] at this
    omega
  have h3 : IntKind.i64.wrap (w.tmod L + L) = w.tmod L + L := by rw [IntKind.wrap_i64]; omega
  rw [h3]
  exact ⟨Int.tmod_nonneg _ (by omega), Int.tmod_lt_of_pos _ h0⟩
theorem fewB_of {o : DO} (h : fewB o = true) : fewN o ≤ 6000 ∧ o.regs ≤ 60 := by
  simpa [fewB] using h
theorem cIr : Try.prog.cellsOf 49 = 16 := by kernel_rfl
theorem hasB {l : List Int} {r : Int} (h : ¬ r ∈ l) : CallsF Try.prog 22 [ints l, .int .i64 r] (.bool false) := by
  have h1 := has_spec l r
  rw [show l.contains r = false by simpa using h] at h1
  exact h1
theorem Dead_spec (o : DO) (ho : o.small) (i r : Int) (ways : List Int) : CallsF Try.prog 7 [.agg (dol o), .int .i64 i, .int .i64 r, ints ways] (.bool true) := by
  refine callsF_ofS mx Try.call7 Try.func7 rfl Try.ntmps7 Try.results7 (by kernel_rfl) (by simp) fun lo => ?_
  repeat' (first | refine vcI ?_ | refine And.intro ?_ ?_ | (intro hq; (try simp at hq); (try (exfalso; omega)); (try (revert hq; intro))))
  refine CallS.frozen (.bool true) awake_spec (plainAll rfl) ?_
  repeat' (first | refine vcI ?_ | refine And.intro ?_ ?_ | (intro hq; (try simp at hq); (try (exfalso; omega)); (try (revert hq; intro))))
  rw [mk_opt]
  have hfs := few_spec o ho
  rcases hfew : fewB o with _ | _
  · rw [hfew] at hfs
    refine CallS.frozen (.bool false) hfs (plainAll rfl) ?_
    repeat' (first | refine vcI ?_ | refine And.intro ?_ ?_ | (intro hq; (try simp at hq); (try (exfalso; omega)); (try (revert hq; intro))))
    exact .refl _
  · rw [hfew] at hfs
    obtain ⟨hf, hr60⟩ := fewB_of hfew
    have hs := ho.2.2.2.2.1
    refine CallS.frozen (.bool true) hfs (plainAll rfl) ?_
    repeat' (first | refine vcI ?_ | refine And.intro ?_ ?_ | (intro hq; (try simp at hq); (try (exfalso; omega)); (try (revert hq; intro))))
    · exact .refl _
    rw [mk_opt]
    have hl := Live_spec o i hf hs
    by_cases HO : OpenP o
    · by_cases hi : 0 ≤ i ∧ i < (o.irs.length : Int)
      · obtain ⟨k0, rfl⟩ := Int.eq_ofNat_of_zero_le hi.1
        rw [show liveE o k0 = (liveL o (k0 : Int).toNat, 0) by unfold liveE; rw [if_pos HO, if_pos hi]] at hl
        refine CallS.frozen (.tup [ints (liveL o (k0 : Int).toNat), .int .i64 0]) hl (plainAll rfl) ?_
        repeat' (first | refine vcI ?_ | refine And.intro ?_ ?_ | (intro hq; (try simp at hq); (try (exfalso; omega)); (try (revert hq; intro))))
        have hhas := has_spec (liveL o (k0 : Int).toNat) r
        rcases hc : (liveL o (k0 : Int).toNat).contains r with _ | _
        · rw [hc] at hhas
          refine CallS.frozen (.bool false) hhas (plainAll rfl) ?_
          repeat' (first | refine vcI ?_ | refine And.intro ?_ ?_ | (intro hq; (try simp at hq); (try (exfalso; omega)); (try (revert hq; intro))))
          have hrn : (r.toNat : Int) = r := Int.toNat_of_nonneg (by omega)
          have hnl : ¬ LiveP o k0 r.toNat := fun h => by
            have h1 := (mem_liveL (o := o) (i := k0) (r := r.toNat) (by omega)).2 h
            rw [hrn] at h1
            have h2 := List.contains_iff_mem.2 h1
            rw [show (liveL o k0).contains r = (liveL o (k0 : Int).toNat).contains r from rfl, hc] at h2
            cases h2
          refine loopS2 mx (by decide) (by kernel_rfl) (fun (n k : Nat) => n ≤ ways.length ∧ k < o.irs.length ∧ ¬ LiveP o k r.toNat) (fun n k => [(12, .int .i64 n), (9, .bool true), (4, .ptr (1, 4) 0 [] 0 0), (1, .int .i64 k), (2, .int .i64 r), (3, ints ways)]) (fun n k => [((1, 4), ⟨0, .obox 12 (rowL (dol o))⟩)]) (fun n k => ways.length - n) 0 k0 ⟨by simp, by omega, hnl⟩ ⟨by ((repeat' apply And.intro) <;> (first | exact True.intro | exact NEq.refl _ | (refine NEq.int ?_; first | exact rfl | omega | (rw [wrapI (by omega)]; first | exact rfl | omega)))), ⟨⟨rfl, .refl _⟩, trivial⟩, .nil⟩ ?_
          rintro n k nv ⟨hn, hk, hL⟩
          repeat' (first | refine vcI ?_ | refine And.intro ?_ ?_ | (intro hq; (try simp at hq); (try (exfalso; omega)); (try (revert hq; intro))))
          · have := HO.hd; omega
          · have hx : (o.irs.getD k default).args.length ≤ 1048576 := ho.2.2.2.1 _ (by rw [List.getD_eq_getElem?_getD]; exact getD_mem _ hk)
            have hfr : frN (o.descs.getD k []) ≤ 6000 := by
              have h1 := sumL_mem (f := frN) (l := o.descs) (x := o.descs.getD k []) (by rw [List.getD_eq_getElem?_getD]; exact getD_mem _ (by rw [HO.hd]; exact hk))
              unfold fewN at hf
              omega
            have hnu : ¬ r ∈ usedL (o.irs.getD k default) (o.descs.getD k []) ++ usesL (o.descs.getD k []) := fun h => hL (.use hk (by rw [hrn]; exact h))
            rw [List.mem_append, not_or] at hnu
            rw [cIr]
            refine QS.own (oints (usedL (o.irs.getD k default) (o.descs.getD k []))) (fun id ver => .ref id ver [] 1 0 (usedL (o.irs.getD k default) (o.descs.getD k [])).length) (Used_spec (o.irs.getD k default) (o.descs.getD k []) hx) (plainAll rfl) ?_
            repeat' (first | refine vcI ?_ | refine And.intro ?_ ?_ | (intro hq; (try simp at hq); (try (exfalso; omega)); (try (revert hq; intro))))
            refine CallS.plain [ints (usedL (o.irs.getD k default) (o.descs.getD k [])), .int .i64 r] (.bool false) (hasB hnu.1) ?_ trivial ?_
            · exact LeL.cons (view_ints (k := 7) rfl rfl) (LeL.cons (.refl _) LeL.nil)
            repeat' (first | refine vcI ?_ | refine And.intro ?_ ?_ | (intro hq; (try simp at hq); (try (exfalso; omega)); (try (revert hq; intro))))
            · have := HO.hd; omega
            refine QS.frozen (ints (usesL (o.descs.getD k []))) (Uses_spec (o.descs.getD k []) hfr) (plainAll rfl) ?_
            repeat' (first | refine vcI ?_ | refine And.intro ?_ ?_ | (intro hq; (try simp at hq); (try (exfalso; omega)); (try (revert hq; intro))))
            first
            | refine QS.frozen (.bool false) (hasB hnu.2) (plainAll rfl) ?_
            | refine CallS.frozen (.bool false) (hasB hnu.2) (plainAll rfl) ?_
            repeat' (first | refine vcI ?_ | refine And.intro ?_ ?_ | (intro hq; (try simp at hq); (try (exfalso; omega)); (try (revert hq; intro))))
            have hss := sets_spec (o.irs.getD k default).op
            rcases hsb : setsB (o.irs.getD k default).op with _ | _
            · rw [hsb] at hss
              refine CallS.frozen (.bool false) hss (plainAll rfl) ?_
              repeat' (first | refine vcI ?_ | refine And.intro ?_ ?_ | (intro hq; (try simp at hq); (try (exfalso; omega)); (try (revert hq; intro))))
              have hnd : ¬ (setsB (o.irs.getD k default).op = true ∧ (o.irs.getD k default).d = (r.toNat : Int)) := fun h => by rw [hsb] at h; cases h.1
              rw [mk_opt]
              obtain ⟨g, hg⟩ : ∃ g, g = goesL (o.irs.getD k default) k := ⟨_, rfl⟩
              have hx2 := Next_spec o k hf hs
              rw [show nextE o k = (goesL (o.irs.getD k default) k, 0) by unfold nextE; rw [if_pos HO, if_pos (by omega)]; rfl, ← hg] at hx2
              have hgl : g.length ≤ 2 := by rw [hg]; exact goesL_len _ _
              have hgo : ∀ x ∈ g, 0 ≤ x ∧ x < (o.irs.length : Int) ∧ ¬ LiveP o x.toNat r.toNat := fun x hx => by
                rw [hg] at hx
                have h1 := (HO.fl hf hs).go k hk x hx
                exact ⟨h1.1, h1.2, fun h2 => hL (.step hk (k := x.toNat) (by rw [Int.toNat_of_nonneg h1.1]; exact hx) h2 hnd)⟩
              refine CallS.frozen (.tup [ints g, .int .i64 0]) hx2 (plainAll rfl) ?_
              repeat' (first | refine vcI ?_ | refine And.intro ?_ ?_ | (intro hq; (try simp at hq); (try (exfalso; omega)); (try (revert hq; intro))))
              · exact .refl _
              · contradiction
              · contradiction
              all_goals
                have hg0 : 0 < g.length := List.length_pos_iff.2 (by assumption)
                have hway := wayI (L := (g.length : Int)) (w := ways.getD (n : Int).toNat 0) (by omega) (by omega)
              · exact hway.1
              · exact hway.2
              obtain ⟨h1, h2, h3⟩ := hgo (g.getD ((IntKind.i64.wrap ((ways.getD (n : Int).toNat 0).tmod (g.length : Int) + (g.length : Int))).tmod (g.length : Int)).toNat 0) (by rw [List.getD_eq_getElem?_getD]; exact getD_mem _ (by omega))
              have hw : IntKind.i64.wrap ((n : Int) + 1) = ((n + 1 : Nat) : Int) := wrapI (by omega)
              repeat' (first | refine vcI ?_ | refine And.intro ?_ ?_ | (intro hq; (try simp at hq); (try (exfalso; omega)); (try (revert hq; intro))))
              refine Exists.intro (n + 1, (g.getD ((IntKind.i64.wrap ((ways.getD (n : Int).toNat 0).tmod (g.length : Int) + (g.length : Int))).tmod (g.length : Int)).toNat 0).toNat) ⟨⟨by dsimp only; omega, by dsimp only; omega, h3⟩, (by first | omega | (dsimp only; omega)), ⟨by ((repeat' apply And.intro) <;> (first | exact True.intro | exact NEq.refl _ | (refine NEq.int ?_; first | exact rfl | omega | (rw [wrapI (by omega)]; first | exact rfl | omega)))), ⟨⟨rfl, .refl _⟩, trivial⟩, .nil⟩⟩
            · rw [hsb] at hss
              refine CallS.frozen (.bool true) hss (plainAll rfl) ?_
              repeat' (first | refine vcI ?_ | refine And.intro ?_ ?_ | (intro hq; (try simp at hq); (try (exfalso; omega)); (try (revert hq; intro))))
              · exact .refl _
              rename_i hdr
              have hnd : ¬ (setsB (o.irs.getD k default).op = true ∧ (o.irs.getD k default).d = (r.toNat : Int)) := fun h => hdr (by rw [← hrn]; exact h.2)
              rw [mk_opt]
              obtain ⟨g, hg⟩ : ∃ g, g = goesL (o.irs.getD k default) k := ⟨_, rfl⟩
              have hx2 := Next_spec o k hf hs
              rw [show nextE o k = (goesL (o.irs.getD k default) k, 0) by unfold nextE; rw [if_pos HO, if_pos (by omega)]; rfl, ← hg] at hx2
              have hgl : g.length ≤ 2 := by rw [hg]; exact goesL_len _ _
              have hgo : ∀ x ∈ g, 0 ≤ x ∧ x < (o.irs.length : Int) ∧ ¬ LiveP o x.toNat r.toNat := fun x hx => by
                rw [hg] at hx
                have h1 := (HO.fl hf hs).go k hk x hx
                exact ⟨h1.1, h1.2, fun h2 => hL (.step hk (k := x.toNat) (by rw [Int.toNat_of_nonneg h1.1]; exact hx) h2 hnd)⟩
              refine CallS.frozen (.tup [ints g, .int .i64 0]) hx2 (plainAll rfl) ?_
              repeat' (first | refine vcI ?_ | refine And.intro ?_ ?_ | (intro hq; (try simp at hq); (try (exfalso; omega)); (try (revert hq; intro))))
              · exact .refl _
              · contradiction
              · contradiction
              all_goals
                have hg0 : 0 < g.length := List.length_pos_iff.2 (by assumption)
                have hway := wayI (L := (g.length : Int)) (w := ways.getD (n : Int).toNat 0) (by omega) (by omega)
              · exact hway.1
              · exact hway.2
              obtain ⟨h1, h2, h3⟩ := hgo (g.getD ((IntKind.i64.wrap ((ways.getD (n : Int).toNat 0).tmod (g.length : Int) + (g.length : Int))).tmod (g.length : Int)).toNat 0) (by rw [List.getD_eq_getElem?_getD]; exact getD_mem _ (by omega))
              have hw : IntKind.i64.wrap ((n : Int) + 1) = ((n + 1 : Nat) : Int) := wrapI (by omega)
              repeat' (first | refine vcI ?_ | refine And.intro ?_ ?_ | (intro hq; (try simp at hq); (try (exfalso; omega)); (try (revert hq; intro))))
              refine Exists.intro (n + 1, (g.getD ((IntKind.i64.wrap ((ways.getD (n : Int).toNat 0).tmod (g.length : Int) + (g.length : Int))).tmod (g.length : Int)).toNat 0).toNat) ⟨⟨by dsimp only; omega, by dsimp only; omega, h3⟩, (by first | omega | (dsimp only; omega)), ⟨by ((repeat' apply And.intro) <;> (first | exact True.intro | exact NEq.refl _ | (refine NEq.int ?_; first | exact rfl | omega | (rw [wrapI (by omega)]; first | exact rfl | omega)))), ⟨⟨rfl, .refl _⟩, trivial⟩, .nil⟩⟩
          · exact .refl _
        · rw [hc] at hhas
          refine CallS.frozen (.bool true) hhas (plainAll rfl) ?_
          repeat' (first | refine vcI ?_ | refine And.intro ?_ ?_ | (intro hq; (try simp at hq); (try (exfalso; omega)); (try (revert hq; intro))))
          exact .refl _
      · rw [show liveE o i = ([], 3) by unfold liveE; rw [if_pos HO, if_neg hi]] at hl
        refine CallS.frozen (.tup [ints [], .int .i64 3]) hl (plainAll rfl) ?_
        repeat' (first | refine vcI ?_ | refine And.intro ?_ ?_ | (intro hq; (try simp at hq); (try (exfalso; omega)); (try (revert hq; intro))))
        exact .refl _
    · rw [show liveE o i = ([], 210) by unfold liveE; rw [if_neg HO]] at hl
      refine CallS.frozen (.tup [ints [], .int .i64 210]) hl (plainAll rfl) ?_
      repeat' (first | refine vcI ?_ | refine And.intro ?_ ?_ | (intro hq; (try simp at hq); (try (exfalso; omega)); (try (revert hq; intro))))
      exact .refl _
end Go.Ab
namespace Go.Ab
open Go.Proofs
set_option maxRecDepth 100000
set_option maxHeartbeats 8000000

def oneL (n k : Nat) : List Int := (List.range n).map fun r => if r < k then 7 * (r : Int) + 3 else 0
theorem oneL_len (n k : Nat) : (oneL n k).length = n := by simp [oneL]
theorem oneL_at {n k a : Nat} (h : a < n) : (oneL n k).getD a 0 = if a < k then 7 * (a : Int) + 3 else 0 := by
  simp [oneL, List.getD_eq_getElem?_getD, h]
theorem zero_ints {n : Nat} {f : Nat → Nat → PV} {sz : Nat} (hs : sz = 1) (hf : ∀ i, i < n → NEq (f i 0) (.int .i64 0)) : NEq (.own sz n f) (oints (oneL n 0)) := by
  refine NEq.owns hs (oneL_len n 0).symm fun i o hi ho => ?_
  rw [oneL_len] at hi
  obtain rfl : o = 0 := by omega
  rw [oneL_at hi]
  exact hf i hi
theorem put_set {l : List Int} {a b i : Nat} {c : PV} {v : Int} (hi : i < l.length) (hb : b < 1) (hc : NEq c (.int .i64 v)) : NEq (if a = i ∧ 0 ≤ b ∧ b < 0 + 1 then List.getD [c] (b - 0) .undef else .int .i64 (l.getD a 0)) (.int .i64 ((l.set i v).getD a 0)) := by
  obtain rfl : b = 0 := by omega
  rw [getD_set]
  by_cases e : a = i
  · rw [if_pos ⟨e, by omega, by omega⟩, if_pos ⟨e, hi⟩]; exact hc
  · rw [if_neg (fun h => e h.1), if_neg (fun h => e h.1)]; exact .refl _
theorem oneL_succ (n k : Nat) : (oneL n k).set k (7 * (k : Int) + 3) = oneL n (k + 1) := by
  apply List.ext_getElem
  · simp [oneL]
  · intro i h1 h2
    have hi : i < n := by simpa [oneL] using h2
    simp only [List.getElem_set, oneL, List.getElem_map, List.getElem_range]
    by_cases e : k = i
    · subst e; rw [if_pos rfl, if_pos (by omega)]
    · rw [if_neg e]
      by_cases h : i < k
      · rw [if_pos h, if_pos (by omega)]
      · rw [if_neg h, if_neg (by omega)]
def mem55 (o : DO) (one two : List Int) (v8 v9 : Nat) : Hp := [((1, 52), ⟨v9, oints two⟩), ((1, 49), ⟨v8, oints one⟩), ((1, 3), ⟨0, .obox 12 (rowL (dol o))⟩)]
theorem Same_spec (o : DO) (ho : o.small) (l : List Int) (hll : l.length ≤ 1048576) (ways : List Int) : CallsF Try.prog 5 [.agg (dol o), ints l, ints ways] (.bool true) := by
  refine callsF_ofS mx Try.call5 Try.func5 rfl Try.ntmps5 Try.results5 (by kernel_rfl) (by simp) fun lo => ?_
  repeat' (first | refine vcI ?_ | refine And.intro ?_ ?_ | (intro hq; (try simp at hq); (try (exfalso; omega)); (try (revert hq; intro))))
  refine CallS.frozen (.bool true) awake_spec (plainAll rfl) ?_
  repeat' (first | refine vcI ?_ | refine And.intro ?_ ?_ | (intro hq; (try simp at hq); (try (exfalso; omega)); (try (revert hq; intro))))
  rw [mk_opt]
  have hfs := few_spec o ho
  rcases hfew : fewB o with _ | _
  · rw [hfew] at hfs
    refine CallS.frozen (.bool false) hfs (plainAll rfl) ?_
    repeat' (first | refine vcI ?_ | refine And.intro ?_ ?_ | (intro hq; (try simp at hq); (try (exfalso; omega)); (try (revert hq; intro))))
    exact .refl _
  · rw [hfew] at hfs
    obtain ⟨hf, hr60⟩ := fewB_of hfew
    have hs := ho.2.2.2.2.1
    have hck := Check_spec o l hll hf hs
    refine CallS.frozen (.bool true) hfs (plainAll rfl) ?_
    repeat' (first | refine vcI ?_ | refine And.intro ?_ ?_ | (intro hq; (try simp at hq); (try (exfalso; omega)); (try (revert hq; intro))))
    · simp; omega
    · have hb : (l.length : Int) ≤ 300 ∧ (ways.length : Int) ≤ 100 := by assumption
      have hb1 : decide ((l.length : Int) > 300) = false := decide_eq_false (by omega)
      have hb2 : decide ((ways.length : Int) > 100) = false := decide_eq_false (by omega)
      rw [hb1, hb2, cOpt]
      by_cases hc : chkE o l = 0
      · rw [hc] at hck
        have hP := (chkE_zero hf hs).1 hc
        have H := hP.op.fl hf hs
        obtain ⟨n, hn⟩ : ∃ n : Nat, o.regs = (n : Int) := ⟨o.regs.toNat, (Int.toNat_of_nonneg (by have := hP.op.r1; omega)).symm⟩
        have hln : l.length = n := by have := hP.len; omega
        refine CallS.frozen (.int .i64 0) hck (plainAll rfl) ?_
        repeat' (first | refine vcI ?_ | refine And.intro ?_ ?_ | (intro hq; (try simp at hq); (try (exfalso; omega)); (try (revert hq; intro))))
        rw [hn]
        refine Exists.intro (oints (oneL n 0)) (And.intro (zero_ints rfl fun i hi => .refl _) (And.intro (shape_ints (by simp [oneL])) ?_))
        repeat' (first | refine vcI ?_ | refine And.intro ?_ ?_ | (intro hq; (try simp at hq); (try (exfalso; omega)); (try (revert hq; intro))))
        rw [hn]
        refine Exists.intro (oints (oneL n 0)) (And.intro (zero_ints rfl fun i hi => .refl _) (And.intro (shape_ints (by simp [oneL])) ?_))
        repeat' (first | refine vcI ?_ | refine And.intro ?_ ?_ | (intro hq; (try simp at hq); (try (exfalso; omega)); (try (revert hq; intro))))
        refine loopS3 mx (by decide) (by kernel_rfl) (fun (k v8 v9 : Nat) => k ≤ n) (fun k v8 v9 => [(10, .int .i64 k), (9, .ref (1, 52) v9 [] 1 0 n), (8, .ref (1, 49) v8 [] 1 0 n), (7, .bool true), (3, .ptr (1, 3) 0 [] 0 0), (1, ints l), (2, ints ways)]) (fun k v8 v9 => mem55 o (oneL n k) (oneL n 0) v8 v9) (fun k v8 v9 => n - k) 0 _ _ (by simp) ⟨by ((repeat' apply And.intro) <;> (first | exact True.intro | exact NEq.refl _ | (refine NEq.int ?_; first | exact rfl | omega | (rw [wrapI (by omega)]; first | exact rfl | omega)))), ⟨⟨rfl, .refl _⟩, ⟨rfl, .refl _⟩, ⟨rfl, .refl _⟩, trivial⟩, .nil⟩ ?_
        intro k v8 v9 nv hk
        have e7 : k < n → IntKind.i64.wrap (IntKind.i64.wrap (7 * (k : Int)) + 3) = 7 * (k : Int) + 3 := fun h => by
          have h1 : IntKind.i64.wrap (7 * (k : Int)) = 7 * (k : Int) := by rw [IntKind.wrap_i64]; omega
          rw [h1, IntKind.wrap_i64]; omega
        have hwk : IntKind.i64.wrap ((k : Int) + 1) = ((k + 1 : Nat) : Int) := wrapI (by omega)
        repeat' (first | refine vcI ?_ | refine And.intro ?_ ?_ | (intro hq; (try simp at hq); (try (exfalso; omega)); (try (revert hq; intro))))
        · rfl
        · have hkn : k < n := by omega
          have es : (oneL n k).set (0 + (k : Int).toNat) (IntKind.i64.wrap (IntKind.i64.wrap (7 * (k : Int)) + 3)) = oneL n (k + 1) := by
            rw [e7 hkn, Int.toNat_natCast, Nat.zero_add, oneL_succ]
          refine Exists.intro (oints ((oneL n k).set (0 + (k : Int).toNat) (IntKind.i64.wrap (IntKind.i64.wrap (7 * (k : Int)) + 3)))) (And.intro (NEq.owns rfl (by simp [oneL]) fun a b ha hb => put_set (by rw [oneL_len]; omega) hb (.refl _)) (And.intro (shape_ints (by simp [oneL])) ?_))
          rw [es]
          repeat' (first | refine vcI ?_ | refine And.intro ?_ ?_ | (intro hq; (try simp at hq); (try (exfalso; omega)); (try (revert hq; intro))))
          exact Exists.intro (k + 1, v8, v9) ⟨by dsimp only; omega, (by first | omega | (dsimp only; omega)), ⟨by ((repeat' apply And.intro) <;> (first | exact True.intro | exact NEq.refl _ | (refine NEq.int ?_; first | exact rfl | omega | (rw [wrapI (by omega)]; first | exact rfl | omega)))), ⟨⟨rfl, .refl _⟩, ⟨rfl, .refl _⟩, ⟨rfl, .refl _⟩, trivial⟩, .nil⟩⟩
        obtain rfl : k = n := by omega
        rw [mk_opt]
        have hlv := Live_spec o 0 hf hs
        rw [show liveE o 0 = (liveL o 0, 0) by unfold liveE; rw [if_pos hP.op, if_pos ⟨by omega, by have := hP.op.ne; omega⟩]; rfl] at hlv
        refine CallS.frozen (.tup [ints (liveL o 0), .int .i64 0]) hlv (plainAll rfl) ?_
        repeat' (first | refine vcI ?_ | refine And.intro ?_ ?_ | (intro hq; (try simp at hq); (try (exfalso; omega)); (try (revert hq; intro))))
        obtain ⟨one, hone⟩ : ∃ one, one = oneL k k := ⟨_, rfl⟩
        have h1l : one.length = k := by rw [hone, oneL_len]
        have hz : (oneL k 0).length = k := oneL_len _ _
        rw [← hone]
        refine loopS4 mx (by decide) (by kernel_rfl) (fun (j : Nat) (two : List Int) (v8 v9 : Nat) => j ≤ (liveL o 0).length ∧ two.length = k ∧ ∀ r ∈ (liveL o 0).take j, two.getD r.toNat 0 = one.getD r.toNat 0) (fun j two v8 v9 => [(13, .int .i64 j), (11, ints (liveL o 0)), (9, .ref (1, 52) v9 [] 1 0 k), (8, .ref (1, 49) v8 [] 1 0 k), (7, .bool true), (3, .ptr (1, 3) 0 [] 0 0), (1, ints l), (2, ints ways)]) (fun j two v8 v9 => mem55 o one two v8 v9) (fun j two v8 v9 => (liveL o 0).length - j) 0 (oneL k 0) _ _ ⟨by simp, hz, by simp⟩ ⟨by ((repeat' apply And.intro) <;> (first | exact True.intro | exact NEq.refl _ | (refine NEq.int ?_; first | exact rfl | omega | (rw [wrapI (by omega)]; first | exact rfl | omega)))), ⟨⟨rfl, .refl _⟩, ⟨rfl, .refl _⟩, ⟨rfl, .refl _⟩, trivial⟩, .nil⟩ ?_
        rintro j two v8 v9 nv ⟨hj, h2l, hI⟩
        have hf0 : ∀ i, i < (liveL o 0).length → 0 ≤ (liveL o 0).getD i 0 ∧ (liveL o 0).getD i 0 < (k : Int) ∧ l.getD ((liveL o 0).getD i 0).toNat 0 = (liveL o 0).getD i 0 := fun i hi => by
          have hm : (liveL o 0).getD i 0 ∈ liveL o 0 := by rw [List.getD_eq_getElem?_getD]; exact getD_mem _ hi
          obtain ⟨q, q1, q2, q3⟩ := mem_listW.1 hm
          have hlp : LiveP o 0 q := (bit_wordsP _ _).1 q2
          have h5 := (hlp.lt H).1
          have h6 := hP.live q hlp
          rw [q3, Int.toNat_natCast]
          exact ⟨by omega, by omega, h6⟩
        have hwj : IntKind.i64.wrap ((j : Int) + 1) = ((j + 1 : Nat) : Int) := wrapI (by have : (liveL o 0).length ≤ 250 := listW_len _ _; omega)
        repeat' (first | refine vcI ?_ | refine And.intro ?_ ?_ | (intro hq; (try simp at hq); (try (exfalso; omega)); (try (revert hq; intro))))
        · exact (hf0 j (by assumption)).1
        · have := hf0 j (by assumption); show (liveL o 0).getD j 0 < _; omega
        · exact (hf0 j (by assumption)).1
        · have := hf0 j (by assumption); show (liveL o 0).getD j 0 < _; omega
        · have := hf0 j (by assumption); show 0 ≤ l.getD ((liveL o 0).getD j 0).toNat 0; omega
        · have := hf0 j (by assumption); show l.getD ((liveL o 0).getD j 0).toNat 0 < _; omega
        · rfl
        · have hjl : j < (liveL o 0).length := by assumption
          obtain ⟨h1, h2, h3⟩ := hf0 j hjl
          have hj0 : (j : Int).toNat = j := rfl
          obtain ⟨q, hq⟩ : ∃ q : Nat, (liveL o 0).getD (j : Int).toNat 0 = (q : Int) := ⟨_, (Int.toNat_of_nonneg h1).symm⟩
          have hq2 : (liveL o 0).getD j 0 = (q : Int) := hq
          rw [hq2, Int.toNat_natCast] at h3
          rw [hq, Int.toNat_natCast, h3, Int.toNat_natCast]
          refine Exists.intro (oints (two.set (0 + q) (one.getD (0 + q) 0))) (And.intro (NEq.owns rfl (by simp [h2l]) fun a b ha hb => put_set (by omega) hb (.refl _)) (And.intro (by rw [Nat.zero_add]; exact shape_ints (by simp [h2l])) ?_))
          rw [Nat.zero_add]
          repeat' (first | refine vcI ?_ | refine And.intro ?_ ?_ | (intro hq; (try simp at hq); (try (exfalso; omega)); (try (revert hq; intro))))
          refine Exists.intro (j + 1, two.set q (one.getD q 0), v8, v9) ⟨⟨by dsimp only; omega, by simp; omega, fun r hr => ?_⟩, (by first | omega | (dsimp only; omega)), ⟨by ((repeat' apply And.intro) <;> (first | exact True.intro | exact NEq.refl _ | (refine NEq.int ?_; first | exact rfl | omega | (rw [wrapI (by omega)]; first | exact rfl | omega)))), ⟨⟨rfl, .refl _⟩, ⟨rfl, .refl _⟩, ⟨rfl, .refl _⟩, trivial⟩, .nil⟩⟩
          rw [take_succD 0 hjl, List.mem_append, List.mem_singleton] at hr
          show (two.set q (one.getD q 0)).getD r.toNat 0 = _
          rw [getD_set]
          by_cases e : r.toNat = q
          · rw [if_pos ⟨e, by omega⟩, e]
          · rw [if_neg (fun h => e h.1)]
            rcases hr with hr | hr
            · exact hI r hr
            · exact absurd (by have : r = (q : Int) := hr.trans hq2; omega) e
        obtain rfl : j = (liveL o 0).length := by omega
        rw [List.take_length] at hI
        have hag0 : Agree o l one two 0 := fun r hl => by
          have h5 := (hl.lt H).1
          have h6 := hP.live r hl
          have h7 := hI (r : Int) ((mem_liveL (by omega)).2 hl)
          rw [h6]
          exact h7.symm
        have hne := hP.op.ne
        repeat' (first | refine vcI ?_ | refine And.intro ?_ ?_ | (intro hq; (try simp at hq); (try (exfalso; omega)); (try (revert hq; intro))))
        refine loopS6 mx (by decide) (by kernel_rfl) (fun (m i : Nat) (one two : List Int) (v8 v9 : Nat) => m ≤ ways.length ∧ i < o.irs.length ∧ one.length = k ∧ two.length = k ∧ Agree o l one two i) (fun m i one two v8 v9 => [(15, .int .i64 m), (14, .int .i64 i), (9, .ref (1, 52) v9 [] 1 0 k), (8, .ref (1, 49) v8 [] 1 0 k), (7, .bool true), (3, .ptr (1, 3) 0 [] 0 0), (1, ints l), (2, ints ways)]) (fun m i one two v8 v9 => mem55 o one two v8 v9) (fun m i one two v8 v9 => ways.length - m) 0 0 one two v8 v9 ⟨by simp, hne, h1l, h2l, hag0⟩ ⟨by ((repeat' apply And.intro) <;> (first | exact True.intro | exact NEq.refl _ | (refine NEq.int ?_; first | exact rfl | omega | (rw [wrapI (by omega)]; first | exact rfl | omega)))), ⟨⟨rfl, .refl _⟩, ⟨rfl, .refl _⟩, ⟨rfl, .refl _⟩, trivial⟩, .nil⟩ ?_
        clear hI hag0 h2l h1l hone hz
        rintro m i one two v8 v9 nv ⟨hm, hi, h1l, h2l, hA⟩
        repeat' (first | refine vcI ?_ | refine And.intro ?_ ?_ | (intro hq; (try simp at hq); (try (exfalso; omega)); (try (revert hq; intro))))
        · have := hP.op.hd; omega
        · obtain ⟨x, hx⟩ : ∃ x, x = o.irs.getD i default := ⟨_, rfl⟩
          obtain ⟨us, hus⟩ : ∃ us, us = usedL (o.irs.getD i default) (o.descs.getD i []) := ⟨_, rfl⟩
          have hxa : (o.irs.getD i default).args.length ≤ 1048576 := ho.2.2.2.1 _ (by rw [List.getD_eq_getElem?_getD]; exact getD_mem _ hi)
          have hx20 : (o.irs.getD i default).args.length ≤ 20 := by
            have hsh := H.sh i hi
            simp only [shapedX, Bool.and_eq_true, decide_eq_true_eq] at hsh
            exact hsh.2.2.1
          have husl : us.length ≤ 22 := by rw [hus]; exact usedL_len _ _ hx20
          have hu : ∀ j, j < us.length → 0 ≤ us.getD j 0 ∧ us.getD j 0 < (k : Int) ∧ one.getD (us.getD j 0).toNat 0 = two.getD (l.getD (us.getD j 0).toNat 0).toNat 0 := fun j hj => by
            have hm : us.getD j 0 ∈ us := by rw [List.getD_eq_getElem?_getD]; exact getD_mem _ hj
            have hm2 : us.getD j 0 ∈ usedL (o.irs.getD i default) (o.descs.getD i []) ++ usesL (o.descs.getD i []) := List.mem_append_left _ (by rw [← hus]; exact hm)
            have h5 := H.use hi _ hm2
            have h6 := H.useR hi _ hm2
            exact ⟨h5.1, by omega, hA _ (.use hi (by rw [Int.toNat_of_nonneg h5.1]; exact hm2))⟩
          rw [cIr]
          refine CallS.own (oints (usedL (o.irs.getD i default) (o.descs.getD i []))) (fun id ver => .ref id ver [] 1 0 (usedL (o.irs.getD i default) (o.descs.getD i [])).length) (Used_spec (o.irs.getD i default) (o.descs.getD i []) hxa) (plainAll rfl) ?_
          rw [← hus]
          repeat' (first | refine vcI ?_ | refine And.intro ?_ ?_ | (intro hq; (try simp at hq); (try (exfalso; omega)); (try (revert hq; intro))))
          refine ghostS0 18 (1, 1000) (by decide) 1 (fun _ _ => .undef) rfl rfl fun va => ?_
          refine ghostS0 19 (1, 1001) (by decide) 1 (fun _ _ => .undef) rfl rfl fun vb => ?_
          obtain ⟨al, hal⟩ : ∃ al : Nat → List Int, al = fun j => (us.take j).map fun r => one.getD r.toNat 0 := ⟨_, rfl⟩
          have hall : ∀ j, j ≤ us.length → (al j).length = j := fun j hj => by rw [hal]; simp; omega
          have hals : ∀ j, j < us.length → al (j + 1) = al j ++ [one.getD (us.getD j 0).toNat 0] := fun j hj => by rw [hal]; simp only; rw [take_succD 0 hj, List.map_append]; rfl
          refine loopS5 mx (by decide) (by kernel_rfl) (fun (j va vb vu v16 : Nat) => j ≤ us.length) (fun j va vb vu v16 => [(20, .int .i64 j), (19, .ref (1, 1001) vb [] 1 0 (al j).length), (18, .ref (1, 1000) va [] 1 0 (al j).length), (17, .ref (1, 111) vu [] 1 0 us.length), (16, .ptr (1, 16) v16 [] 0 0), (15, .int .i64 m), (14, .int .i64 i), (9, .ref (1, 52) v9 [] 1 0 k), (8, .ref (1, 49) v8 [] 1 0 k), (7, .bool true), (3, .ptr (1, 3) 0 [] 0 0), (1, ints l), (2, ints ways)]) (fun j va vb vu v16 => ((1, 1001), ⟨vb, oints (al j)⟩) :: ((1, 1000), ⟨va, oints (al j)⟩) :: ((1, 111), ⟨vu, oints us⟩) :: ((1, 16), ⟨v16, .obox 16 (rowL (dil (o.irs.getD i default)))⟩) :: mem55 o one two v8 v9) (fun j va vb vu v16 => us.length - j) 0 va vb _ _ (by simp) ⟨⟨.refl _, .refs rfl rfl (hall 0 (by simp)).symm, .refs rfl rfl (hall 0 (by simp)).symm, .refl _, .refl _, .refl _, .refl _, .refl _, .refl _, .refl _, .refl _, .refl _, .refl _, trivial⟩, ⟨⟨rfl, ?_⟩, ⟨rfl, ?_⟩, ⟨rfl, .refl _⟩, ⟨rfl, .obox ?_⟩, ⟨rfl, .refl _⟩, ⟨rfl, .refl _⟩, ⟨rfl, .refl _⟩, trivial⟩, .nil⟩ ?_
          · exact .owns rfl (by rw [hal]; rfl) fun a b ha => absurd ha (by rw [hal]; simp)
          · exact .owns rfl (by rw [hal]; rfl) fun a b ha => absurd ha (by rw [hal]; simp)
          · intro q hq
            have hq' : q < 16 := hq
            rcases (by omega : q = 0 ∨ q = 1 ∨ q = 2 ∨ q = 3 ∨ q = 4 ∨ q = 5 ∨ q = 6 ∨ q = 7 ∨ q = 8 ∨ q = 9 ∨ q = 10 ∨ q = 11 ∨ q = 12 ∨ q = 13 ∨ q = 14 ∨ q = 15) with rfl | rfl | rfl | rfl | rfl | rfl | rfl | rfl | rfl | rfl | rfl | rfl | rfl | rfl | rfl | rfl <;> exact .refl _
          intro j va vb vu v16 nv hj
          have hwj : IntKind.i64.wrap ((j : Int) + 1) = ((j + 1 : Nat) : Int) := wrapI (by omega)
          have ej : 0 + (j : Int).toNat = j := by omega
          have hallj := hall j hj
          repeat' (first | refine vcI ?_ | refine And.intro ?_ ?_ | (intro hq; (try simp at hq); (try (exfalso; omega)); (try (revert hq; intro))))
          · have := hu j (by omega); rw [ej]; exact this.1
          · have := hu j (by omega); rw [ej]; omega
          · have hjl : j < us.length := by omega
            obtain ⟨u1, u2, u3⟩ := hu j hjl
            obtain ⟨u, huu⟩ : ∃ u : Nat, us.getD (0 + (j : Int).toNat) 0 = (u : Int) := ⟨_, (Int.toNat_of_nonneg (by rw [ej]; exact u1)).symm⟩
            have huj : us.getD j 0 = (u : Int) := by rw [← huu, ej]
            rw [huj, Int.toNat_natCast] at u3
            have hlu := hP.inn u (by omega)
            rw [huu]
            refine Exists.intro (oints [one.getD (0 + (u : Int).toNat) 0]) (And.intro ?_ (And.intro (by first | rfl | exact shape_prs (by simp) | exact shape_ints (by simp) | exact shape_odvs (by simp)) ?_))
            · exact one_ints _ rfl rfl (.refl _)
            repeat' (first | refine vcI ?_ | refine And.intro ?_ ?_ | (intro hq; (try simp at hq); (try (exfalso; omega)); (try (revert hq; intro))))
            refine Exists.intro (oints (al j ++ [one.getD (0 + (u : Int).toNat) 0])) (And.intro ?_ (And.intro (by first | rfl | exact shape_prs (by simp) | exact shape_ints (by simp) | exact shape_odvs (by simp)) ?_))
            · exact app_ints rfl rfl (fun i o hi ho => by (try dsimp only); rw [if_pos hi]; exact .refl _) (fun i o hi ho => by (try dsimp only); rw [if_neg (by omega), Nat.add_sub_cancel_left]; (try rw [cellV_pcell]); (try simp only [Nat.zero_add]); exact .refl _)
            repeat' (first | refine vcI ?_ | refine And.intro ?_ ?_ | (intro hq; (try simp at hq); (try (exfalso; omega)); (try (revert hq; intro))))
            · rw [huu]; exact hlu.1
            · rw [huu]; show l.getD u 0 < _; omega
            rw [huu]
            refine Exists.intro (oints [two.getD (0 + (l.getD (u : Int).toNat 0).toNat) 0]) (And.intro ?_ (And.intro (by first | rfl | exact shape_prs (by simp) | exact shape_ints (by simp) | exact shape_odvs (by simp)) ?_))
            · exact one_ints _ rfl rfl (.refl _)
            repeat' (first | refine vcI ?_ | refine And.intro ?_ ?_ | (intro hq; (try simp at hq); (try (exfalso; omega)); (try (revert hq; intro))))
            refine Exists.intro (oints (al j ++ [two.getD (0 + (l.getD (u : Int).toNat 0).toNat) 0])) (And.intro ?_ (And.intro (by first | rfl | exact shape_prs (by simp) | exact shape_ints (by simp) | exact shape_odvs (by simp)) ?_))
            · exact app_ints rfl rfl (fun i o hi ho => by (try dsimp only); rw [if_pos hi]; exact .refl _) (fun i o hi ho => by (try dsimp only); rw [if_neg (by omega), Nat.add_sub_cancel_left]; (try rw [cellV_pcell]); (try simp only [Nat.zero_add]); exact .refl _)
            repeat' (first | refine vcI ?_ | refine And.intro ?_ ?_ | (intro hq; (try simp at hq); (try (exfalso; omega)); (try (revert hq; intro))))
            have e1 : al (j + 1) = al j ++ [one.getD (0 + u) 0] := by rw [hals j hjl, huj, Nat.zero_add]; rfl
            have e2 : al (j + 1) = al j ++ [two.getD (0 + (l.getD u 0).toNat) 0] := by rw [hals j hjl, huj, Nat.zero_add, ← u3]; rfl
            refine Exists.intro (j + 1, _, _, vu, v16) ⟨by dsimp only; omega, (by first | omega | (dsimp only; omega)), ⟨⟨(by refine NEq.int ?_; first | exact rfl | omega | (rw [wrapI (by omega)]; first | exact rfl | omega)), .refs rfl rfl ?_, .refs rfl rfl ?_, .refl _, .refl _, .refl _, .refl _, .refl _, .refl _, .refl _, .refl _, .refl _, .refl _, trivial⟩, ⟨⟨rfl, ?_⟩, ⟨rfl, ?_⟩, ⟨rfl, .refl _⟩, ⟨rfl, .refl _⟩, ⟨rfl, .refl _⟩, ⟨rfl, .refl _⟩, ⟨rfl, .refl _⟩, trivial⟩, .nil⟩⟩
            · show _ = (al (j + 1)).length; rw [e2, List.length_append]; rfl
            · show _ = (al (j + 1)).length; rw [e1, List.length_append]; rfl
            · show NEq _ (oints (al (j + 1))); rw [e2]; exact .refl _
            · show NEq _ (oints (al (j + 1))); rw [e1]; exact .refl _
          · obtain rfl : j = us.length := by omega
            have hsm := sameInts_spec (al us.length) (al us.length)
            rw [decide_eq_true rfl] at hsm
            repeat' (first | refine vcI ?_ | refine And.intro ?_ ?_ | (intro hq; (try simp at hq); (try (exfalso; omega)); (try (revert hq; intro))))
            refine CallS.plain [ints (al us.length), ints (al us.length)] (.bool true) hsm (LeL.cons (view_ints (k := 7) rfl rfl) (LeL.cons (view_ints (k := 7) rfl rfl) LeL.nil)) trivial ?_
            repeat' (first | refine vcI ?_ | refine And.intro ?_ ?_ | (intro hq; (try simp at hq); (try (exfalso; omega)); (try (revert hq; intro))))
            have hop := H.op hi
            have hss := sets_spec (o.irs.getD i default).op
            rcases hsb : setsB (o.irs.getD i default).op with _ | _
            · rw [hsb] at hss
              refine CallS.frozen (.bool false) hss (plainAll rfl) ?_
              repeat' (first | refine vcI ?_ | refine And.intro ?_ ?_ | (intro hq; (try simp at hq); (try (exfalso; omega)); (try (revert hq; intro))))
              have hgA : ∀ k' ∈ goesL (o.irs.getD i default) i, Agree o l one two k'.toNat := fun k' hk' => hA.next H hP hi hk' (by rw [hsb]; decide)
              rw [mk_opt]
              obtain ⟨g, hg⟩ : ∃ g, g = goesL (o.irs.getD i default) i := ⟨_, rfl⟩
              have hx2 := Next_spec o i hf hs
              rw [show nextE o i = (goesL (o.irs.getD i default) i, 0) by unfold nextE; rw [if_pos hP.op, if_pos (by omega)]; rfl, ← hg] at hx2
              have hgl : g.length ≤ 2 := by rw [hg]; exact goesL_len _ _
              have hgo : ∀ x ∈ g, 0 ≤ x ∧ x < (o.irs.length : Int) ∧ Agree o l one two x.toNat := fun x hx => by
                rw [hg] at hx
                have h1 := H.go i hi x hx
                exact ⟨h1.1, h1.2, hgA x hx⟩
              refine CallS.frozen (.tup [ints g, .int .i64 0]) hx2 (plainAll rfl) ?_
              repeat' (first | refine vcI ?_ | refine And.intro ?_ ?_ | (intro hq; (try simp at hq); (try (exfalso; omega)); (try (revert hq; intro))))
              · exact .refl _
              · contradiction
              · contradiction
              all_goals
                have hg0 : 0 < g.length := List.length_pos_iff.2 (by assumption)
                have hway := wayI (L := (g.length : Int)) (w := ways.getD (m : Int).toNat 0) (by omega) (by omega)
              · exact hway.1
              · exact hway.2
              obtain ⟨y1, y2, y3⟩ := hgo (g.getD ((IntKind.i64.wrap ((ways.getD (m : Int).toNat 0).tmod (g.length : Int) + (g.length : Int))).tmod (g.length : Int)).toNat 0) (by rw [List.getD_eq_getElem?_getD]; exact getD_mem _ (by omega))
              obtain ⟨i', hi'⟩ : ∃ i' : Nat, g.getD ((IntKind.i64.wrap ((ways.getD (m : Int).toNat 0).tmod (g.length : Int) + (g.length : Int))).tmod (g.length : Int)).toNat 0 = (i' : Int) := ⟨_, (Int.toNat_of_nonneg y1).symm⟩
              rw [hi'] at y2 y3
              rw [Int.toNat_natCast] at y3
              rw [hi', mk_opt]
              have hlv2 := Live_spec o i' hf hs
              rw [show liveE o i' = (liveL o i', 0) by unfold liveE; rw [if_pos hP.op, if_pos ⟨by omega, y2⟩]; rfl] at hlv2
              refine CallS.frozen (.tup [ints (liveL o i'), .int .i64 0]) hlv2 (plainAll rfl) ?_
              have hL250 : (liveL o i').length ≤ 250 := listW_len _ _
              have hLl : ∀ j, j < (liveL o i').length → 0 ≤ (liveL o i').getD j 0 ∧ (liveL o i').getD j 0 < (k : Int) ∧ (one).getD ((liveL o i').getD j 0).toNat 0 = (two).getD (l.getD ((liveL o i').getD j 0).toNat 0).toNat 0 ∧ 0 ≤ l.getD ((liveL o i').getD j 0).toNat 0 ∧ l.getD ((liveL o i').getD j 0).toNat 0 < (k : Int) := fun j hj => by
                have hm : (liveL o i').getD j 0 ∈ liveL o i' := by rw [List.getD_eq_getElem?_getD]; exact getD_mem _ hj
                obtain ⟨q, q1, q2, q3⟩ := mem_listW.1 hm
                have hlp : LiveP o i' q := (bit_wordsP _ _).1 q2
                have h5 := (hlp.lt H).1
                have h6 := hP.inn q (by omega)
                rw [q3, Int.toNat_natCast]
                exact ⟨by omega, by omega, y3 q hlp, h6.1, by omega⟩
              repeat' (first | refine vcI ?_ | refine And.intro ?_ ?_ | (intro hq; (try simp at hq); (try (exfalso; omega)); (try (revert hq; intro))))
              refine loopS3 mx (by decide) (by kernel_rfl) (fun (j v8 v9 : Nat) => j ≤ (liveL o i').length) (fun j v8 v9 => [(25, .int .i64 j), (23, ints (liveL o i')), (15, .int .i64 m), (14, .int .i64 i'), (9, .ref (1, 52) v9 [] 1 0 k), (8, .ref (1, 49) v8 [] 1 0 k), (7, .bool true), (3, .ptr (1, 3) 0 [] 0 0), (1, ints l), (2, ints ways)]) (fun j v8 v9 => mem55 o (one) (two) v8 v9) (fun j v8 v9 => (liveL o i').length - j) 0 _ _ (by simp) ⟨by ((repeat' apply And.intro) <;> (first | exact True.intro | exact NEq.refl _ | (refine NEq.int ?_; first | exact rfl | omega | (rw [wrapI (by omega)]; first | exact rfl | omega)))), ⟨⟨rfl, .refl _⟩, ⟨rfl, .refl _⟩, ⟨rfl, .refl _⟩, trivial⟩, .nil⟩ ?_
              intro j v8 v9 nv hj
              have hwj : IntKind.i64.wrap ((j : Int) + 1) = ((j + 1 : Nat) : Int) := wrapI (by omega)
              have hwm : IntKind.i64.wrap ((m : Int) + 1) = ((m + 1 : Nat) : Int) := wrapI (by omega)
              repeat' (first | refine vcI ?_ | refine And.intro ?_ ?_ | (intro hq; (try simp at hq); (try (exfalso; omega)); (try (revert hq; intro))))
              · exact (hLl j (by assumption)).1
              · have := hLl j (by assumption); show (liveL o i').getD j 0 < _; omega
              · exact (hLl j (by assumption)).1
              · have := hLl j (by assumption); show (liveL o i').getD j 0 < _; omega
              · exact (hLl j (by assumption)).2.2.2.1
              · have := hLl j (by assumption); show l.getD ((liveL o i').getD j 0).toNat 0 < _; omega
              · rename_i hne
                exact (hne (hLl j (by assumption)).2.2.1).elim
              · exact Exists.intro (j + 1, v8, v9) ⟨by dsimp only; omega, (by first | omega | (dsimp only; omega)), ⟨by ((repeat' apply And.intro) <;> (first | exact True.intro | exact NEq.refl _ | (refine NEq.int ?_; first | exact rfl | omega | (rw [wrapI (by omega)]; first | exact rfl | omega)))), ⟨⟨rfl, .refl _⟩, ⟨rfl, .refl _⟩, ⟨rfl, .refl _⟩, trivial⟩, .nil⟩⟩
              · exact Exists.intro (m + 1, i', one, two, v8, v9) ⟨⟨by dsimp only; omega, by dsimp only; omega, h1l, h2l, y3⟩, (by first | omega | (dsimp only; omega)), ⟨by ((repeat' apply And.intro) <;> (first | exact True.intro | exact NEq.refl _ | (refine NEq.int ?_; first | exact rfl | omega | (rw [wrapI (by omega)]; first | exact rfl | omega)))), ⟨⟨rfl, .refl _⟩, ⟨rfl, .refl _⟩, ⟨rfl, .refl _⟩, trivial⟩, .nil⟩⟩
            · rw [hsb] at hss
              have hd := H.dR hi hsb
              refine CallS.frozen (.bool true) hss (plainAll rfl) ?_
              obtain ⟨d, hdd⟩ : ∃ d : Nat, (o.irs.getD i default).d = (d : Int) := ⟨_, (Int.toNat_of_nonneg hd.1).symm⟩
              have hld := hP.inn d (by omega)
              have hmx : CallsF Try.prog 20 [.int .i64 i, .int .i64 ((ways.getD (m : Int).toNat 0).tmod 1000), ints (al us.length)] _ := mixed_spec (i : Int) ((ways.getD (m : Int).toNat 0).tmod 1000) (al us.length) (by rw [hall _ (Nat.le_refl _)]; omega)
              obtain ⟨val, hval⟩ : ∃ val, val = mixL (i : Int) ((ways.getD (m : Int).toNat 0).tmod 1000) (al us.length) := ⟨_, rfl⟩
              rw [← hval] at hmx
              repeat' (first | refine vcI ?_ | refine And.intro ?_ ?_ | (intro hq; (try simp at hq); (try (exfalso; omega)); (try (revert hq; intro))))
              first
              | refine CallS.plain _ (.int .i64 val) hmx (LeL.cons (.refl _) (LeL.cons (.refl _) (LeL.cons (view_ints (k := 7) rfl rfl) LeL.nil))) trivial ?_
              | refine QS.plain _ (.int .i64 val) rfl hmx (LeL.cons (.refl _) (LeL.cons (.refl _) (LeL.cons (view_ints (k := 7) rfl rfl) LeL.nil))) trivial ?_
              rw [hdd]
              repeat' (first | refine vcI ?_ | refine And.intro ?_ ?_ | (intro hq; (try simp at hq); (try (exfalso; omega)); (try (revert hq; intro))))
              · rfl
              refine Exists.intro (oints (one.set (0 + (d : Int).toNat) val)) (And.intro (NEq.owns rfl (by simp [h1l]) fun a b ha hb => put_set (by omega) hb (.refl _)) (And.intro (shape_ints (by simp [h1l])) ?_))
              repeat' (first | refine vcI ?_ | refine And.intro ?_ ?_ | (intro hq; (try simp at hq); (try (exfalso; omega)); (try (revert hq; intro))))
              first
              | refine CallS.plain _ (.int .i64 val) hmx (LeL.cons (.refl _) (LeL.cons (.refl _) (LeL.cons (view_ints (k := 7) rfl rfl) LeL.nil))) trivial ?_
              | refine QS.plain _ (.int .i64 val) rfl hmx (LeL.cons (.refl _) (LeL.cons (.refl _) (LeL.cons (view_ints (k := 7) rfl rfl) LeL.nil))) trivial ?_
              rw [hdd]
              obtain ⟨ld, hldd⟩ : ∃ ld : Nat, l.getD (d : Int).toNat 0 = (ld : Int) := ⟨_, (Int.toNat_of_nonneg hld.1).symm⟩
              have hldd2 : l.getD d 0 = (ld : Int) := hldd
              rw [hldd]
              repeat' (first | refine vcI ?_ | refine And.intro ?_ ?_ | (intro hq; (try simp at hq); (try (exfalso; omega)); (try (revert hq; intro))))
              · rfl
              refine Exists.intro (oints (two.set (0 + (ld : Int).toNat) val)) (And.intro (NEq.owns rfl (by simp [h2l]) fun a b ha hb => put_set (by omega) hb (.refl _)) (And.intro (shape_ints (by simp [h2l])) ?_))
              have ed : 0 + (d : Int).toNat = d := by omega
              have eld : 0 + (ld : Int).toNat = ld := by omega
              rw [ed, eld]
              have hgA : ∀ k' ∈ goesL (o.irs.getD i default) i, Agree o l (one.set d val) (two.set ld val) k'.toNat := fun k' hk' => by
                have h9 := hA.set H hP (by omega) (by omega) hi hk' hsb val
                rw [hdd, Int.toNat_natCast, hldd2, Int.toNat_natCast] at h9
                exact h9
              repeat' (first | refine vcI ?_ | refine And.intro ?_ ?_ | (intro hq; (try simp at hq); (try (exfalso; omega)); (try (revert hq; intro))))
              rw [mk_opt]
              obtain ⟨g, hg⟩ : ∃ g, g = goesL (o.irs.getD i default) i := ⟨_, rfl⟩
              have hx2 := Next_spec o i hf hs
              rw [show nextE o i = (goesL (o.irs.getD i default) i, 0) by unfold nextE; rw [if_pos hP.op, if_pos (by omega)]; rfl, ← hg] at hx2
              have hgl : g.length ≤ 2 := by rw [hg]; exact goesL_len _ _
              have hgo : ∀ x ∈ g, 0 ≤ x ∧ x < (o.irs.length : Int) ∧ Agree o l (one.set d val) (two.set ld val) x.toNat := fun x hx => by
                rw [hg] at hx
                have h1 := H.go i hi x hx
                exact ⟨h1.1, h1.2, hgA x hx⟩
              refine CallS.frozen (.tup [ints g, .int .i64 0]) hx2 (plainAll rfl) ?_
              repeat' (first | refine vcI ?_ | refine And.intro ?_ ?_ | (intro hq; (try simp at hq); (try (exfalso; omega)); (try (revert hq; intro))))
              · exact .refl _
              · contradiction
              · contradiction
              all_goals
                have hg0 : 0 < g.length := List.length_pos_iff.2 (by assumption)
                have hway := wayI (L := (g.length : Int)) (w := ways.getD (m : Int).toNat 0) (by omega) (by omega)
              · exact hway.1
              · exact hway.2
              obtain ⟨y1, y2, y3⟩ := hgo (g.getD ((IntKind.i64.wrap ((ways.getD (m : Int).toNat 0).tmod (g.length : Int) + (g.length : Int))).tmod (g.length : Int)).toNat 0) (by rw [List.getD_eq_getElem?_getD]; exact getD_mem _ (by omega))
              obtain ⟨i', hi'⟩ : ∃ i' : Nat, g.getD ((IntKind.i64.wrap ((ways.getD (m : Int).toNat 0).tmod (g.length : Int) + (g.length : Int))).tmod (g.length : Int)).toNat 0 = (i' : Int) := ⟨_, (Int.toNat_of_nonneg y1).symm⟩
              rw [hi'] at y2 y3
              rw [Int.toNat_natCast] at y3
              rw [hi', mk_opt]
              have hlv2 := Live_spec o i' hf hs
              rw [show liveE o i' = (liveL o i', 0) by unfold liveE; rw [if_pos hP.op, if_pos ⟨by omega, y2⟩]; rfl] at hlv2
              refine CallS.frozen (.tup [ints (liveL o i'), .int .i64 0]) hlv2 (plainAll rfl) ?_
              have hL250 : (liveL o i').length ≤ 250 := listW_len _ _
              have hLl : ∀ j, j < (liveL o i').length → 0 ≤ (liveL o i').getD j 0 ∧ (liveL o i').getD j 0 < (k : Int) ∧ ((one.set d val)).getD ((liveL o i').getD j 0).toNat 0 = ((two.set ld val)).getD (l.getD ((liveL o i').getD j 0).toNat 0).toNat 0 ∧ 0 ≤ l.getD ((liveL o i').getD j 0).toNat 0 ∧ l.getD ((liveL o i').getD j 0).toNat 0 < (k : Int) := fun j hj => by
                have hm : (liveL o i').getD j 0 ∈ liveL o i' := by rw [List.getD_eq_getElem?_getD]; exact getD_mem _ hj
                obtain ⟨q, q1, q2, q3⟩ := mem_listW.1 hm
                have hlp : LiveP o i' q := (bit_wordsP _ _).1 q2
                have h5 := (hlp.lt H).1
                have h6 := hP.inn q (by omega)
                rw [q3, Int.toNat_natCast]
                exact ⟨by omega, by omega, y3 q hlp, h6.1, by omega⟩
              repeat' (first | refine vcI ?_ | refine And.intro ?_ ?_ | (intro hq; (try simp at hq); (try (exfalso; omega)); (try (revert hq; intro))))
              refine loopS3 mx (by decide) (by kernel_rfl) (fun (j v8 v9 : Nat) => j ≤ (liveL o i').length) (fun j v8 v9 => [(25, .int .i64 j), (23, ints (liveL o i')), (15, .int .i64 m), (14, .int .i64 i'), (9, .ref (1, 52) v9 [] 1 0 k), (8, .ref (1, 49) v8 [] 1 0 k), (7, .bool true), (3, .ptr (1, 3) 0 [] 0 0), (1, ints l), (2, ints ways)]) (fun j v8 v9 => mem55 o ((one.set d val)) ((two.set ld val)) v8 v9) (fun j v8 v9 => (liveL o i').length - j) 0 _ _ (by simp) ⟨by ((repeat' apply And.intro) <;> (first | exact True.intro | exact NEq.refl _ | (refine NEq.int ?_; first | exact rfl | omega | (rw [wrapI (by omega)]; first | exact rfl | omega)))), ⟨⟨rfl, .refl _⟩, ⟨rfl, .refl _⟩, ⟨rfl, .refl _⟩, trivial⟩, .nil⟩ ?_
              intro j v8 v9 nv hj
              have hwj : IntKind.i64.wrap ((j : Int) + 1) = ((j + 1 : Nat) : Int) := wrapI (by omega)
              have hwm : IntKind.i64.wrap ((m : Int) + 1) = ((m + 1 : Nat) : Int) := wrapI (by omega)
              repeat' (first | refine vcI ?_ | refine And.intro ?_ ?_ | (intro hq; (try simp at hq); (try (exfalso; omega)); (try (revert hq; intro))))
              · exact (hLl j (by assumption)).1
              · have := hLl j (by assumption); show (liveL o i').getD j 0 < _; omega
              · exact (hLl j (by assumption)).1
              · have := hLl j (by assumption); show (liveL o i').getD j 0 < _; omega
              · exact (hLl j (by assumption)).2.2.2.1
              · have := hLl j (by assumption); show l.getD ((liveL o i').getD j 0).toNat 0 < _; omega
              · rename_i hne
                exact (hne (hLl j (by assumption)).2.2.1).elim
              · exact Exists.intro (j + 1, v8, v9) ⟨by dsimp only; omega, (by first | omega | (dsimp only; omega)), ⟨by ((repeat' apply And.intro) <;> (first | exact True.intro | exact NEq.refl _ | (refine NEq.int ?_; first | exact rfl | omega | (rw [wrapI (by omega)]; first | exact rfl | omega)))), ⟨⟨rfl, .refl _⟩, ⟨rfl, .refl _⟩, ⟨rfl, .refl _⟩, trivial⟩, .nil⟩⟩
              · exact Exists.intro (m + 1, i', (one.set d val), (two.set ld val), v8, v9) ⟨⟨by dsimp only; omega, by dsimp only; omega, (by simp [h1l]), (by simp [h2l]), y3⟩, (by first | omega | (dsimp only; omega)), ⟨by ((repeat' apply And.intro) <;> (first | exact True.intro | exact NEq.refl _ | (refine NEq.int ?_; first | exact rfl | omega | (rw [wrapI (by omega)]; first | exact rfl | omega)))), ⟨⟨rfl, .refl _⟩, ⟨rfl, .refl _⟩, ⟨rfl, .refl _⟩, trivial⟩, .nil⟩⟩
        · exact .refl _
      · refine CallS.frozen (.int .i64 (chkE o l)) hck (plainAll rfl) ?_
        repeat' (first | refine vcI ?_ | refine And.intro ?_ ?_ | (intro hq; (try simp at hq); (try (exfalso; omega)); (try (revert hq; intro))))
        exact .refl _
    · exact .refl _
    · exact .refl _
end Go.Ab
namespace Go.Proofs.Ytbclepldghjacaa.regsSame
open Go Go.Ab Go.Proofs
open Go.Proofs.Ytbclepldghjacaa.Common
open Go.ChangeShapes Go.WideShapes Go.ChangeAt Go.RowKit
set_option maxRecDepth 100000

theorem params : ∀ t ∈ Try.f5.params.toList, t < Try.prog.types.size := by
  have h : Try.f5.params.toList.all (fun t => Nat.blt t Try.prog.types.size) = true := by kernel_rfl
  intro t ht
  simpa [Nat.blt_eq] using List.all_eq_true.1 h t ht

theorem contract (H : Type) (enc : TypeId × Value → H) (W : World) (base : Nat) (args : Array Value) (ds gs : List (DataW H)) (before : List MemPlace)
    (hval : ∀ (j : Nat) t v, Try.f5.params[j]? = some t → args[j]? = some v → Value.okWide Try.prog W .any base t v)
    (hW : DataW.Whole enc Try.prog Try.f5.params.toList Rows.regsSameSpec.vars false W args.toList ds gs before) (hk : Rows.uptoSmall H (ds ++ gs) = true) :
    Calls Try.prog 5 args W fun e W' => ∃ v, e = .returned v ∧ Rows.regsSameSpec.post enc Try.prog Try.f5 false true false false W args v W' := by
  have hW' := hW
  obtain ⟨p, q, hA0, hV, rfl, hfz, hnd⟩ := hW
  have hA : DataW.TrodAll enc Try.prog W 0 (fun _ => true) true Try.f5.params.toList args.toList ds p := hA0
  rw [Try.params5] at hA hval
  obtain ⟨v0, vs0, d0, ds0, p0, q0, hargs, rfl, rfl, h0, r0⟩ := trodAll_cons hA
  obtain ⟨v1, vs1, d1, ds1, p1, q1, rfl, rfl, rfl, h1, r1⟩ := trodAll_cons r0
  obtain ⟨v2, vs2, d2, ds2, p2, q2, rfl, rfl, rfl, h2, r2⟩ := trodAll_cons r1
  obtain ⟨rfl, rfl, rfl⟩ := trodAll_nil r2
  obtain rfl : args = #[v0, v1, v2] := by cases args; simp_all
  obtain ⟨rfl, rfl⟩ := trodVars_none hV
  have hs := small (by simpa using hk)
  obtain ⟨o, ho, e0⟩ := rOpt.argStruct Try.underlying39 (hval 0 _ v0 rfl rfl) h0 (hs _ (by simp))
  obtain ⟨l, hl, e1⟩ := rInts.argSlice Try.underlying40 ints (fun _ => rfl) (hval 1 _ v1 rfl rfl) h1 (hs _ (by simp))
  obtain ⟨ways, hw, e2⟩ := rInts.argSlice Try.underlying40 ints (fun _ => rfl) (hval 2 _ v2 rfl rfl) h2 (hs _ (by simp))
  exact law_of laidOut rowed sizes params rfl rfl rfl Try.underlying4 hW' (Same_spec o ho l hl ways) (.cons0 e0 (.cons0 e1 (.cons0 e2 .nil0)))

theorem lifted (os : Os) (started : os.Started) (H : Type) (enc : TypeId × Value → H) (F : Stop.Interp) :
    ReturnsInHanded {} Try.checked os 5 .any ((Rows.OpenSpec.upto Rows.regsSameSpec).pre6 enc Try.prog Try.f5 Rows.regsSameUptoRow.domain false) (((Rows.OpenSpec.upto Rows.regsSameSpec).at F).post enc Try.prog Try.f5 false true false false) := by
  refine returnsInHanded_of_cond (C := Try.checked) (s := Rows.OpenSpec.upto Rows.regsSameSpec) (k := Rows.uptoSmall) rfl own started (by kernel_rfl) Try.func5
    (OpenSpec.witness (enc := enc) (C := Try.checked) (s := Rows.OpenSpec.upto Rows.regsSameSpec) (k := Rows.uptoSmall) rfl false ⟨#[], #[.agg #[.int .i64 0, .int .i64 0, .int .i64 0, .int .i64 0, .int .i64 0, .string ⟨#[]⟩, .slice none 0 0, .slice none 0 0, .slice none 0 0, .slice none 0 0, .slice none 0 0, .int .i64 0], .slice none 0 0, .slice none 0 0], []⟩ 8 (by kernel_rfl) (by kernel_rfl) (by kernel_rfl)
      (x := ([.agg [.lit (.int .i64 0), .agg [.lit (.int .i64 0), .lit (.int .i64 0), .agg [.lit (.int .i64 0), .lit (.int .i64 0), .lit (.string [])]], .nil, .nil, .nil, .nil, .nil, .lit (.int .i64 0)], .nil, .nil], [], [])) (by kernel_rfl) rfl (by kernel_rfl)) ?_
  intro W base args ds gs before hval hW _ hk _
  exact contract H enc W base args ds gs before hval hW hk

theorem proved : Rows.RegsSameUptoSaid :=
  OpenClaim.holds_of_cond 5 Try.f5 rfl rfl rfl rfl rfl rfl rfl ⟨rfl, rfl, rfl, rfl, rfl⟩ rfl rfl rfl rfl rfl (by kernel_rfl) Try.func5 (by kernel_rfl)
    (of_decide_eq_true (by kernel_rfl)) (by unfold Func.isWrapper; first | (rw [if_pos (by decide +kernel)]; kernel_rfl) | (rw [if_neg (by decide +kernel)]; exact ⟨rfl, rfl⟩))
    (fun os started H enc _ F => lifted os started H enc F)
#print axioms proved
end Go.Proofs.Ytbclepldghjacaa.regsSame

/- Going on until nothing changes: the law. -/
import Derived.Test.YtbclepldghjacaaA4
set_option linter.unusedVariables false
set_option linter.unusedSimpArgs false
namespace Go.Ab
open Go.Proofs
set_option maxRecDepth 100000
set_option maxHeartbeats 4000000

theorem shaped_7 (o : DO) (lv : PV) (i : Nat) (H : ShH o i 7 ((o.irs.getD i default).a :: (o.irs.getD i default).args)) : CallsF Try.prog 55 [codeP o lv, .int .i64 i] (.bool (shapedX o (o.irs.getD i default) (o.descs.getD i []))) := by
  have hi := H.hi
  have hil := H.hil
  have hd := H.hd
  have hdl := H.hdl
  have hop1 : (o.irs[i]?.getD default).op = 7 := H.hop
  have hop2 : (o.irs.getD (i : Int).toNat default).op = 7 := H.hop
  have ha1 : (o.irs[i]?.getD default).args.length ≤ 6000 := H.ha
  refine callsF_ofS mx Try.call55 Try.func55 rfl Try.ntmps55 Try.results55 (by kernel_rfl) (by simp) fun lo => ?_
  repeat' (first | refine vcI ?_ | refine And.intro ?_ ?_ | (intro hq; (try simp at hq); (try (exfalso; omega)); (try (revert hq; intro))))
  · rw [hop2]; rfl
  · rename_i hq
    have h20 : ¬ (o.irs.getD i default).args.length ≤ 20 := by
      show ¬ (o.irs[i]?.getD default).args.length ≤ 20
      omega
    repeat' (first | refine vcI ?_ | refine And.intro ?_ ?_ | (intro hq; (try simp at hq); (try (exfalso; omega)); (try (revert hq; intro))))
    (refine NEq.of_eq ?_; show PV.bool _ = PV.bool _; congr 1)
    exact (shX_args h20).symm
  · rw [hop2]; decide
  · rw [cRow]; decide
  · rw [hop2]; rfl
  · rw [List.length_map, List.length_range, cRow]; decide
  · rename_i hq
    have h20 : (o.irs.getD i default).args.length ≤ 20 := by
      show (o.irs[i]?.getD default).args.length ≤ 20
      omega
    rw [hop2]
    repeat' (first | refine vcI ?_ | refine And.intro ?_ ?_ | (intro hq; (try simp at hq); (try (exfalso; omega)); (try (revert hq; intro))))
    have hsw : swB o (o.irs.getD i default) (o.descs.getD i []) = false := by unfold swB; rw [H.hop]; rfl
    refine QS.frozen (ints ((o.irs.getD i default).a :: (o.irs.getD i default).args)) (uAll_spec o lv i hi (by omega) (by have := H.ha; omega)) (plainAll rfl) ?_
    repeat' (first | refine vcI ?_ | refine And.intro ?_ ?_ | (intro hq; (try simp at hq); (try (exfalso; omega)); (try (revert hq; intro))))
    rcases hbu : badL o ((o.irs.getD i default).a :: (o.irs.getD i default).args) with _ | _
    · refine CallS.plain [ints ((o.irs.getD i default).a :: (o.irs.getD i default).args), badP o lv] (.bool false) (badL_spec o lv hbu) ?_ trivial ?_
      · refine LeL.cons (.refl _) (LeL.cons ?_ LeL.nil)
        refine .clos (.fptr fun q hq => ?_)
        obtain rfl : q = 0 := by have : q < 1 := hq; omega
        exact .refl _
      repeat' (first | refine vcI ?_ | refine And.intro ?_ ?_ | (intro hq; (try simp at hq); (try (exfalso; omega)); (try (revert hq; intro))))
      rcases hbr : regB o (o.irs.getD i default).d with _ | _
      · refine CallS.frozen (.bool false) (regB_spec o lv hbr) (plainAll rfl) ?_
        repeat' (first | refine vcI ?_ | refine And.intro ?_ ?_ | (intro hq; (try simp at hq); (try (exfalso; omega)); (try (revert hq; intro))))
        (refine NEq.of_eq ?_; show PV.bool _ = PV.bool _; congr 1)
        exact (shX_reg (by rw [H.hop]; rfl) hbr).symm
      · refine CallS.frozen (.bool true) (regB_spec o lv hbr) (plainAll rfl) ?_
        repeat' (first | refine vcI ?_ | refine And.intro ?_ ?_ | (intro hq; (try simp at hq); (try (exfalso; omega)); (try (revert hq; intro))))
        refine QS.frozen (ints (usesL (o.descs.getD i []))) (symUses _ H.hfs H.hfN) (plainAll rfl) ?_
        repeat' (first | refine vcI ?_ | refine And.intro ?_ ?_ | (intro hq; (try simp at hq); (try (exfalso; omega)); (try (revert hq; intro))))
        rcases hbw : badL o (usesL (o.descs.getD i [])) with _ | _
        · refine CallS.plain [ints (usesL (o.descs.getD i [])), badP o lv] (.bool false) (badL_spec o lv hbw) ?_ trivial ?_
          · refine LeL.cons (.refl _) (LeL.cons ?_ LeL.nil)
            refine .clos (.fptr fun q hq => ?_)
            obtain rfl : q = 0 := by have : q < 1 := hq; omega
            exact .refl _
          repeat' (first | refine vcI ?_ | refine And.intro ?_ ?_ | (intro hq; (try simp at hq); (try (exfalso; omega)); (try (revert hq; intro))))
          (refine NEq.of_eq ?_; show PV.bool _ = PV.bool _; congr 1)
          exact (shX_ok (by rw [H.hop]; decide) (by rw [H.hop]; decide) h20 hsw (by rw [H.hU]; exact hbu) (fun _ => hbr) hbw).symm
        · refine CallS.plain [ints (usesL (o.descs.getD i [])), badP o lv] (.bool true) (badL_spec o lv hbw) ?_ trivial ?_
          · refine LeL.cons (.refl _) (LeL.cons ?_ LeL.nil)
            refine .clos (.fptr fun q hq => ?_)
            obtain rfl : q = 0 := by have : q < 1 := hq; omega
            exact .refl _
          repeat' (first | refine vcI ?_ | refine And.intro ?_ ?_ | (intro hq; (try simp at hq); (try (exfalso; omega)); (try (revert hq; intro))))
          (refine NEq.of_eq ?_; show PV.bool _ = PV.bool _; congr 1)
          exact (shX_uses hbw).symm
    · refine CallS.plain [ints ((o.irs.getD i default).a :: (o.irs.getD i default).args), badP o lv] (.bool true) (badL_spec o lv hbu) ?_ trivial ?_
      · refine LeL.cons (.refl _) (LeL.cons ?_ LeL.nil)
        refine .clos (.fptr fun q hq => ?_)
        obtain rfl : q = 0 := by have : q < 1 := hq; omega
        exact .refl _
      repeat' (first | refine vcI ?_ | refine And.intro ?_ ?_ | (intro hq; (try simp at hq); (try (exfalso; omega)); (try (revert hq; intro))))
      (refine NEq.of_eq ?_; show PV.bool _ = PV.bool _; congr 1)
      exact (shX_bad (by rw [H.hU]; exact hbu)).symm

theorem shaped_8 (o : DO) (lv : PV) (i : Nat) (H : ShH o i 8 []) : CallsF Try.prog 55 [codeP o lv, .int .i64 i] (.bool (shapedX o (o.irs.getD i default) (o.descs.getD i []))) := by
  have hi := H.hi
  have hil := H.hil
  have hd := H.hd
  have hdl := H.hdl
  have hop1 : (o.irs[i]?.getD default).op = 8 := H.hop
  have hop2 : (o.irs.getD (i : Int).toNat default).op = 8 := H.hop
  have ha1 : (o.irs[i]?.getD default).args.length ≤ 6000 := H.ha
  refine callsF_ofS mx Try.call55 Try.func55 rfl Try.ntmps55 Try.results55 (by kernel_rfl) (by simp) fun lo => ?_
  repeat' (first | refine vcI ?_ | refine And.intro ?_ ?_ | (intro hq; (try simp at hq); (try (exfalso; omega)); (try (revert hq; intro))))
  · rw [hop2]; rfl
  · rename_i hq
    have h20 : ¬ (o.irs.getD i default).args.length ≤ 20 := by
      show ¬ (o.irs[i]?.getD default).args.length ≤ 20
      omega
    repeat' (first | refine vcI ?_ | refine And.intro ?_ ?_ | (intro hq; (try simp at hq); (try (exfalso; omega)); (try (revert hq; intro))))
    (refine NEq.of_eq ?_; show PV.bool _ = PV.bool _; congr 1)
    exact (shX_args h20).symm
  · rw [hop2]; decide
  · rw [cRow]; decide
  · rw [hop2]; rfl
  · rw [List.length_map, List.length_range, cRow]; decide
  · rename_i hq
    have h20 : (o.irs.getD i default).args.length ≤ 20 := by
      show (o.irs[i]?.getD default).args.length ≤ 20
      omega
    rw [hop2]
    repeat' (first | refine vcI ?_ | refine And.intro ?_ ?_ | (intro hq; (try simp at hq); (try (exfalso; omega)); (try (revert hq; intro))))
    have hsw : swB o (o.irs.getD i default) (o.descs.getD i []) = false := by unfold swB; rw [H.hop]; rfl
    refine QS.frozen (ints []) (uNone_spec _ _) (plainAll rfl) ?_
    repeat' (first | refine vcI ?_ | refine And.intro ?_ ?_ | (intro hq; (try simp at hq); (try (exfalso; omega)); (try (revert hq; intro))))
    rcases hbu : badL o [] with _ | _
    · refine CallS.plain [ints [], badP o lv] (.bool false) (badL_spec o lv hbu) ?_ trivial ?_
      · refine LeL.cons (.refl _) (LeL.cons ?_ LeL.nil)
        refine .clos (.fptr fun q hq => ?_)
        obtain rfl : q = 0 := by have : q < 1 := hq; omega
        exact .refl _
      repeat' (first | refine vcI ?_ | refine And.intro ?_ ?_ | (intro hq; (try simp at hq); (try (exfalso; omega)); (try (revert hq; intro))))
      refine QS.frozen (ints (usesL (o.descs.getD i []))) (symUses _ H.hfs H.hfN) (plainAll rfl) ?_
      repeat' (first | refine vcI ?_ | refine And.intro ?_ ?_ | (intro hq; (try simp at hq); (try (exfalso; omega)); (try (revert hq; intro))))
      rcases hbw : badL o (usesL (o.descs.getD i [])) with _ | _
      · refine CallS.plain [ints (usesL (o.descs.getD i [])), badP o lv] (.bool false) (badL_spec o lv hbw) ?_ trivial ?_
        · refine LeL.cons (.refl _) (LeL.cons ?_ LeL.nil)
          refine .clos (.fptr fun q hq => ?_)
          obtain rfl : q = 0 := by have : q < 1 := hq; omega
          exact .refl _
        repeat' (first | refine vcI ?_ | refine And.intro ?_ ?_ | (intro hq; (try simp at hq); (try (exfalso; omega)); (try (revert hq; intro))))
        (refine NEq.of_eq ?_; show PV.bool _ = PV.bool _; congr 1)
        exact (shX_ok (by rw [H.hop]; decide) (by rw [H.hop]; decide) h20 hsw (by rw [H.hU]; exact hbu) (fun e => by rw [H.hop] at e; cases e) hbw).symm
      · refine CallS.plain [ints (usesL (o.descs.getD i [])), badP o lv] (.bool true) (badL_spec o lv hbw) ?_ trivial ?_
        · refine LeL.cons (.refl _) (LeL.cons ?_ LeL.nil)
          refine .clos (.fptr fun q hq => ?_)
          obtain rfl : q = 0 := by have : q < 1 := hq; omega
          exact .refl _
        repeat' (first | refine vcI ?_ | refine And.intro ?_ ?_ | (intro hq; (try simp at hq); (try (exfalso; omega)); (try (revert hq; intro))))
        (refine NEq.of_eq ?_; show PV.bool _ = PV.bool _; congr 1)
        exact (shX_uses hbw).symm
    · refine CallS.plain [ints [], badP o lv] (.bool true) (badL_spec o lv hbu) ?_ trivial ?_
      · refine LeL.cons (.refl _) (LeL.cons ?_ LeL.nil)
        refine .clos (.fptr fun q hq => ?_)
        obtain rfl : q = 0 := by have : q < 1 := hq; omega
        exact .refl _
      repeat' (first | refine vcI ?_ | refine And.intro ?_ ?_ | (intro hq; (try simp at hq); (try (exfalso; omega)); (try (revert hq; intro))))
      (refine NEq.of_eq ?_; show PV.bool _ = PV.bool _; congr 1)
      exact (shX_bad (by rw [H.hU]; exact hbu)).symm

theorem shaped_11 (o : DO) (lv : PV) (i : Nat) (H : ShH o i 11 []) : CallsF Try.prog 55 [codeP o lv, .int .i64 i] (.bool (shapedX o (o.irs.getD i default) (o.descs.getD i []))) := by
  have hi := H.hi
  have hil := H.hil
  have hd := H.hd
  have hdl := H.hdl
  have hop1 : (o.irs[i]?.getD default).op = 11 := H.hop
  have hop2 : (o.irs.getD (i : Int).toNat default).op = 11 := H.hop
  have ha1 : (o.irs[i]?.getD default).args.length ≤ 6000 := H.ha
  refine callsF_ofS mx Try.call55 Try.func55 rfl Try.ntmps55 Try.results55 (by kernel_rfl) (by simp) fun lo => ?_
  repeat' (first | refine vcI ?_ | refine And.intro ?_ ?_ | (intro hq; (try simp at hq); (try (exfalso; omega)); (try (revert hq; intro))))
  · rw [hop2]; rfl
  · rename_i hq
    have h20 : ¬ (o.irs.getD i default).args.length ≤ 20 := by
      show ¬ (o.irs[i]?.getD default).args.length ≤ 20
      omega
    repeat' (first | refine vcI ?_ | refine And.intro ?_ ?_ | (intro hq; (try simp at hq); (try (exfalso; omega)); (try (revert hq; intro))))
    (refine NEq.of_eq ?_; show PV.bool _ = PV.bool _; congr 1)
    exact (shX_args h20).symm
  · rw [hop2]; decide
  · rw [cRow]; decide
  · rw [hop2]; rfl
  · rw [List.length_map, List.length_range, cRow]; decide
  · rename_i hq
    have h20 : (o.irs.getD i default).args.length ≤ 20 := by
      show (o.irs[i]?.getD default).args.length ≤ 20
      omega
    rw [hop2]
    repeat' (first | refine vcI ?_ | refine And.intro ?_ ?_ | (intro hq; (try simp at hq); (try (exfalso; omega)); (try (revert hq; intro))))
    have hsw : swB o (o.irs.getD i default) (o.descs.getD i []) = false := by unfold swB; rw [H.hop]; rfl
    refine QS.frozen (ints []) (uNone_spec _ _) (plainAll rfl) ?_
    repeat' (first | refine vcI ?_ | refine And.intro ?_ ?_ | (intro hq; (try simp at hq); (try (exfalso; omega)); (try (revert hq; intro))))
    rcases hbu : badL o [] with _ | _
    · refine CallS.plain [ints [], badP o lv] (.bool false) (badL_spec o lv hbu) ?_ trivial ?_
      · refine LeL.cons (.refl _) (LeL.cons ?_ LeL.nil)
        refine .clos (.fptr fun q hq => ?_)
        obtain rfl : q = 0 := by have : q < 1 := hq; omega
        exact .refl _
      repeat' (first | refine vcI ?_ | refine And.intro ?_ ?_ | (intro hq; (try simp at hq); (try (exfalso; omega)); (try (revert hq; intro))))
      refine QS.frozen (ints (usesL (o.descs.getD i []))) (symUses _ H.hfs H.hfN) (plainAll rfl) ?_
      repeat' (first | refine vcI ?_ | refine And.intro ?_ ?_ | (intro hq; (try simp at hq); (try (exfalso; omega)); (try (revert hq; intro))))
      rcases hbw : badL o (usesL (o.descs.getD i [])) with _ | _
      · refine CallS.plain [ints (usesL (o.descs.getD i [])), badP o lv] (.bool false) (badL_spec o lv hbw) ?_ trivial ?_
        · refine LeL.cons (.refl _) (LeL.cons ?_ LeL.nil)
          refine .clos (.fptr fun q hq => ?_)
          obtain rfl : q = 0 := by have : q < 1 := hq; omega
          exact .refl _
        repeat' (first | refine vcI ?_ | refine And.intro ?_ ?_ | (intro hq; (try simp at hq); (try (exfalso; omega)); (try (revert hq; intro))))
        (refine NEq.of_eq ?_; show PV.bool _ = PV.bool _; congr 1)
        exact (shX_ok (by rw [H.hop]; decide) (by rw [H.hop]; decide) h20 hsw (by rw [H.hU]; exact hbu) (fun e => by rw [H.hop] at e; cases e) hbw).symm
      · refine CallS.plain [ints (usesL (o.descs.getD i [])), badP o lv] (.bool true) (badL_spec o lv hbw) ?_ trivial ?_
        · refine LeL.cons (.refl _) (LeL.cons ?_ LeL.nil)
          refine .clos (.fptr fun q hq => ?_)
          obtain rfl : q = 0 := by have : q < 1 := hq; omega
          exact .refl _
        repeat' (first | refine vcI ?_ | refine And.intro ?_ ?_ | (intro hq; (try simp at hq); (try (exfalso; omega)); (try (revert hq; intro))))
        (refine NEq.of_eq ?_; show PV.bool _ = PV.bool _; congr 1)
        exact (shX_uses hbw).symm
    · refine CallS.plain [ints [], badP o lv] (.bool true) (badL_spec o lv hbu) ?_ trivial ?_
      · refine LeL.cons (.refl _) (LeL.cons ?_ LeL.nil)
        refine .clos (.fptr fun q hq => ?_)
        obtain rfl : q = 0 := by have : q < 1 := hq; omega
        exact .refl _
      repeat' (first | refine vcI ?_ | refine And.intro ?_ ?_ | (intro hq; (try simp at hq); (try (exfalso; omega)); (try (revert hq; intro))))
      (refine NEq.of_eq ?_; show PV.bool _ = PV.bool _; congr 1)
      exact (shX_bad (by rw [H.hU]; exact hbu)).symm

theorem shaped_16 (o : DO) (lv : PV) (i : Nat) (H : ShH o i 16 (o.irs.getD i default).args) : CallsF Try.prog 55 [codeP o lv, .int .i64 i] (.bool (shapedX o (o.irs.getD i default) (o.descs.getD i []))) := by
  have hi := H.hi
  have hil := H.hil
  have hd := H.hd
  have hdl := H.hdl
  have hop1 : (o.irs[i]?.getD default).op = 16 := H.hop
  have hop2 : (o.irs.getD (i : Int).toNat default).op = 16 := H.hop
  have ha1 : (o.irs[i]?.getD default).args.length ≤ 6000 := H.ha
  refine callsF_ofS mx Try.call55 Try.func55 rfl Try.ntmps55 Try.results55 (by kernel_rfl) (by simp) fun lo => ?_
  repeat' (first | refine vcI ?_ | refine And.intro ?_ ?_ | (intro hq; (try simp at hq); (try (exfalso; omega)); (try (revert hq; intro))))
  · rw [hop2]; rfl
  · rename_i hq
    have h20 : ¬ (o.irs.getD i default).args.length ≤ 20 := by
      show ¬ (o.irs[i]?.getD default).args.length ≤ 20
      omega
    repeat' (first | refine vcI ?_ | refine And.intro ?_ ?_ | (intro hq; (try simp at hq); (try (exfalso; omega)); (try (revert hq; intro))))
    (refine NEq.of_eq ?_; show PV.bool _ = PV.bool _; congr 1)
    exact (shX_args h20).symm
  · rw [hop2]; decide
  · rw [cRow]; decide
  · rw [hop2]; rfl
  · rw [List.length_map, List.length_range, cRow]; decide
  · rename_i hq
    have h20 : (o.irs.getD i default).args.length ≤ 20 := by
      show (o.irs[i]?.getD default).args.length ≤ 20
      omega
    rw [hop2]
    repeat' (first | refine vcI ?_ | refine And.intro ?_ ?_ | (intro hq; (try simp at hq); (try (exfalso; omega)); (try (revert hq; intro))))
    have hsw : swB o (o.irs.getD i default) (o.descs.getD i []) = false := by unfold swB; rw [H.hop]; rfl
    refine QS.frozen (ints (o.irs.getD i default).args) (uDrop_spec o lv i hi (by omega)) (plainAll rfl) ?_
    repeat' (first | refine vcI ?_ | refine And.intro ?_ ?_ | (intro hq; (try simp at hq); (try (exfalso; omega)); (try (revert hq; intro))))
    rcases hbu : badL o (o.irs.getD i default).args with _ | _
    · refine CallS.plain [ints (o.irs.getD i default).args, badP o lv] (.bool false) (badL_spec o lv hbu) ?_ trivial ?_
      · refine LeL.cons (.refl _) (LeL.cons ?_ LeL.nil)
        refine .clos (.fptr fun q hq => ?_)
        obtain rfl : q = 0 := by have : q < 1 := hq; omega
        exact .refl _
      repeat' (first | refine vcI ?_ | refine And.intro ?_ ?_ | (intro hq; (try simp at hq); (try (exfalso; omega)); (try (revert hq; intro))))
      refine QS.frozen (ints (usesL (o.descs.getD i []))) (symUses _ H.hfs H.hfN) (plainAll rfl) ?_
      repeat' (first | refine vcI ?_ | refine And.intro ?_ ?_ | (intro hq; (try simp at hq); (try (exfalso; omega)); (try (revert hq; intro))))
      rcases hbw : badL o (usesL (o.descs.getD i [])) with _ | _
      · refine CallS.plain [ints (usesL (o.descs.getD i [])), badP o lv] (.bool false) (badL_spec o lv hbw) ?_ trivial ?_
        · refine LeL.cons (.refl _) (LeL.cons ?_ LeL.nil)
          refine .clos (.fptr fun q hq => ?_)
          obtain rfl : q = 0 := by have : q < 1 := hq; omega
          exact .refl _
        repeat' (first | refine vcI ?_ | refine And.intro ?_ ?_ | (intro hq; (try simp at hq); (try (exfalso; omega)); (try (revert hq; intro))))
        (refine NEq.of_eq ?_; show PV.bool _ = PV.bool _; congr 1)
        exact (shX_ok (by rw [H.hop]; decide) (by rw [H.hop]; decide) h20 hsw (by rw [H.hU]; exact hbu) (fun e => by rw [H.hop] at e; cases e) hbw).symm
      · refine CallS.plain [ints (usesL (o.descs.getD i [])), badP o lv] (.bool true) (badL_spec o lv hbw) ?_ trivial ?_
        · refine LeL.cons (.refl _) (LeL.cons ?_ LeL.nil)
          refine .clos (.fptr fun q hq => ?_)
          obtain rfl : q = 0 := by have : q < 1 := hq; omega
          exact .refl _
        repeat' (first | refine vcI ?_ | refine And.intro ?_ ?_ | (intro hq; (try simp at hq); (try (exfalso; omega)); (try (revert hq; intro))))
        (refine NEq.of_eq ?_; show PV.bool _ = PV.bool _; congr 1)
        exact (shX_uses hbw).symm
    · refine CallS.plain [ints (o.irs.getD i default).args, badP o lv] (.bool true) (badL_spec o lv hbu) ?_ trivial ?_
      · refine LeL.cons (.refl _) (LeL.cons ?_ LeL.nil)
        refine .clos (.fptr fun q hq => ?_)
        obtain rfl : q = 0 := by have : q < 1 := hq; omega
        exact .refl _
      repeat' (first | refine vcI ?_ | refine And.intro ?_ ?_ | (intro hq; (try simp at hq); (try (exfalso; omega)); (try (revert hq; intro))))
      (refine NEq.of_eq ?_; show PV.bool _ = PV.bool _; congr 1)
      exact (shX_bad (by rw [H.hU]; exact hbu)).symm

theorem shaped_3 (o : DO) (lv : PV) (i : Nat) (H : ShH o i 3 [(o.irs.getD i default).a]) : CallsF Try.prog 55 [codeP o lv, .int .i64 i] (.bool (shapedX o (o.irs.getD i default) (o.descs.getD i []))) := by
  have hi := H.hi
  have hil := H.hil
  have hd := H.hd
  have hdl := H.hdl
  have hop1 : (o.irs[i]?.getD default).op = 3 := H.hop
  have hop2 : (o.irs.getD (i : Int).toNat default).op = 3 := H.hop
  have ha1 : (o.irs[i]?.getD default).args.length ≤ 6000 := H.ha
  refine callsF_ofS mx Try.call55 Try.func55 rfl Try.ntmps55 Try.results55 (by kernel_rfl) (by simp) fun lo => ?_
  repeat' (first | refine vcI ?_ | refine And.intro ?_ ?_ | (intro hq; (try simp at hq); (try (exfalso; omega)); (try (revert hq; intro))))
  · rw [hop2]; rfl
  · rename_i hq
    have h20 : ¬ (o.irs.getD i default).args.length ≤ 20 := by
      show ¬ (o.irs[i]?.getD default).args.length ≤ 20
      omega
    repeat' (first | refine vcI ?_ | refine And.intro ?_ ?_ | (intro hq; (try simp at hq); (try (exfalso; omega)); (try (revert hq; intro))))
    (refine NEq.of_eq ?_; show PV.bool _ = PV.bool _; congr 1)
    exact (shX_args h20).symm
  · rw [hop2]; decide
  · rw [cRow]; decide
  · rw [hop2]; rfl
  · rw [List.length_map, List.length_range, cRow]; decide
  · rename_i hq
    have h20 : (o.irs.getD i default).args.length ≤ 20 := by
      show (o.irs[i]?.getD default).args.length ≤ 20
      omega
    rw [hop2]
    repeat' (first | refine vcI ?_ | refine And.intro ?_ ?_ | (intro hq; (try simp at hq); (try (exfalso; omega)); (try (revert hq; intro))))
    rcases hins : insB o.irs.length (o.irs.getD i default).n with _ | _
    · have hsw : swB o (o.irs.getD i default) (o.descs.getD i []) = true := by unfold swB; rw [H.hop, hins]; rfl
      refine CallS.frozen (.bool false) (insIr_spec o.irs hins) (plainAll rfl) ?_
      repeat' (first | refine vcI ?_ | refine And.intro ?_ ?_ | (intro hq; (try simp at hq); (try (exfalso; omega)); (try (revert hq; intro))))
      (refine NEq.of_eq ?_; show PV.bool _ = PV.bool _; congr 1)
      exact (shX_sw hsw).symm
    · have hsw : swB o (o.irs.getD i default) (o.descs.getD i []) = false := by unfold swB; rw [H.hop, hins]; rfl
      refine CallS.frozen (.bool true) (insIr_spec o.irs hins) (plainAll rfl) ?_
      repeat' (first | refine vcI ?_ | refine And.intro ?_ ?_ | (intro hq; (try simp at hq); (try (exfalso; omega)); (try (revert hq; intro))))
      refine QS.frozen (ints [(o.irs.getD i default).a]) (uA_spec o lv i hi (by omega)) (plainAll rfl) ?_
      repeat' (first | refine vcI ?_ | refine And.intro ?_ ?_ | (intro hq; (try simp at hq); (try (exfalso; omega)); (try (revert hq; intro))))
      rcases hbu : badL o [(o.irs.getD i default).a] with _ | _
      · refine CallS.plain [ints [(o.irs.getD i default).a], badP o lv] (.bool false) (badL_spec o lv hbu) ?_ trivial ?_
        · refine LeL.cons (.refl _) (LeL.cons ?_ LeL.nil)
          refine .clos (.fptr fun q hq => ?_)
          obtain rfl : q = 0 := by have : q < 1 := hq; omega
          exact .refl _
        repeat' (first | refine vcI ?_ | refine And.intro ?_ ?_ | (intro hq; (try simp at hq); (try (exfalso; omega)); (try (revert hq; intro))))
        refine QS.frozen (ints (usesL (o.descs.getD i []))) (symUses _ H.hfs H.hfN) (plainAll rfl) ?_
        repeat' (first | refine vcI ?_ | refine And.intro ?_ ?_ | (intro hq; (try simp at hq); (try (exfalso; omega)); (try (revert hq; intro))))
        rcases hbw : badL o (usesL (o.descs.getD i [])) with _ | _
        · refine CallS.plain [ints (usesL (o.descs.getD i [])), badP o lv] (.bool false) (badL_spec o lv hbw) ?_ trivial ?_
          · refine LeL.cons (.refl _) (LeL.cons ?_ LeL.nil)
            refine .clos (.fptr fun q hq => ?_)
            obtain rfl : q = 0 := by have : q < 1 := hq; omega
            exact .refl _
          repeat' (first | refine vcI ?_ | refine And.intro ?_ ?_ | (intro hq; (try simp at hq); (try (exfalso; omega)); (try (revert hq; intro))))
          (refine NEq.of_eq ?_; show PV.bool _ = PV.bool _; congr 1)
          exact (shX_ok (by rw [H.hop]; decide) (by rw [H.hop]; decide) h20 hsw (by rw [H.hU]; exact hbu) (fun e => by rw [H.hop] at e; cases e) hbw).symm
        · refine CallS.plain [ints (usesL (o.descs.getD i [])), badP o lv] (.bool true) (badL_spec o lv hbw) ?_ trivial ?_
          · refine LeL.cons (.refl _) (LeL.cons ?_ LeL.nil)
            refine .clos (.fptr fun q hq => ?_)
            obtain rfl : q = 0 := by have : q < 1 := hq; omega
            exact .refl _
          repeat' (first | refine vcI ?_ | refine And.intro ?_ ?_ | (intro hq; (try simp at hq); (try (exfalso; omega)); (try (revert hq; intro))))
          (refine NEq.of_eq ?_; show PV.bool _ = PV.bool _; congr 1)
          exact (shX_uses hbw).symm
      · refine CallS.plain [ints [(o.irs.getD i default).a], badP o lv] (.bool true) (badL_spec o lv hbu) ?_ trivial ?_
        · refine LeL.cons (.refl _) (LeL.cons ?_ LeL.nil)
          refine .clos (.fptr fun q hq => ?_)
          obtain rfl : q = 0 := by have : q < 1 := hq; omega
          exact .refl _
        repeat' (first | refine vcI ?_ | refine And.intro ?_ ?_ | (intro hq; (try simp at hq); (try (exfalso; omega)); (try (revert hq; intro))))
        (refine NEq.of_eq ?_; show PV.bool _ = PV.bool _; congr 1)
        exact (shX_bad (by rw [H.hU]; exact hbu)).symm

theorem shaped_6 (o : DO) (lv : PV) (i : Nat) (H : ShH o i 6 ((o.irs.getD i default).a :: (o.irs.getD i default).args)) : CallsF Try.prog 55 [codeP o lv, .int .i64 i] (.bool (shapedX o (o.irs.getD i default) (o.descs.getD i []))) := by
  have hi := H.hi
  have hil := H.hil
  have hd := H.hd
  have hdl := H.hdl
  have hop1 : (o.irs[i]?.getD default).op = 6 := H.hop
  have hop2 : (o.irs.getD (i : Int).toNat default).op = 6 := H.hop
  have ha1 : (o.irs[i]?.getD default).args.length ≤ 6000 := H.ha
  refine callsF_ofS mx Try.call55 Try.func55 rfl Try.ntmps55 Try.results55 (by kernel_rfl) (by simp) fun lo => ?_
  repeat' (first | refine vcI ?_ | refine And.intro ?_ ?_ | (intro hq; (try simp at hq); (try (exfalso; omega)); (try (revert hq; intro))))
  · rw [hop2]; rfl
  · rename_i hq
    have h20 : ¬ (o.irs.getD i default).args.length ≤ 20 := by
      show ¬ (o.irs[i]?.getD default).args.length ≤ 20
      omega
    repeat' (first | refine vcI ?_ | refine And.intro ?_ ?_ | (intro hq; (try simp at hq); (try (exfalso; omega)); (try (revert hq; intro))))
    (refine NEq.of_eq ?_; show PV.bool _ = PV.bool _; congr 1)
    exact (shX_args h20).symm
  · rw [hop2]; decide
  · rw [cRow]; decide
  · rw [hop2]; rfl
  · rw [List.length_map, List.length_range, cRow]; decide
  · rename_i hq
    have h20 : (o.irs.getD i default).args.length ≤ 20 := by
      show (o.irs[i]?.getD default).args.length ≤ 20
      omega
    rw [hop2]
    repeat' (first | refine vcI ?_ | refine And.intro ?_ ?_ | (intro hq; (try simp at hq); (try (exfalso; omega)); (try (revert hq; intro))))
    rcases hins : insB o.irs.length (o.irs.getD i default).n with _ | _
    · have hsw : swB o (o.irs.getD i default) (o.descs.getD i []) = true := by unfold swB; rw [H.hop, hins]; rfl
      refine CallS.frozen (.bool false) (insIr_spec o.irs hins) (plainAll rfl) ?_
      repeat' (first | refine vcI ?_ | refine And.intro ?_ ?_ | (intro hq; (try simp at hq); (try (exfalso; omega)); (try (revert hq; intro))))
      (refine NEq.of_eq ?_; show PV.bool _ = PV.bool _; congr 1)
      exact (shX_sw hsw).symm
    · have hsw : swB o (o.irs.getD i default) (o.descs.getD i []) = false := by unfold swB; rw [H.hop, hins]; rfl
      refine CallS.frozen (.bool true) (insIr_spec o.irs hins) (plainAll rfl) ?_
      repeat' (first | refine vcI ?_ | refine And.intro ?_ ?_ | (intro hq; (try simp at hq); (try (exfalso; omega)); (try (revert hq; intro))))
      refine QS.frozen (ints ((o.irs.getD i default).a :: (o.irs.getD i default).args)) (uAll_spec o lv i hi (by omega) (by have := H.ha; omega)) (plainAll rfl) ?_
      repeat' (first | refine vcI ?_ | refine And.intro ?_ ?_ | (intro hq; (try simp at hq); (try (exfalso; omega)); (try (revert hq; intro))))
      rcases hbu : badL o ((o.irs.getD i default).a :: (o.irs.getD i default).args) with _ | _
      · refine CallS.plain [ints ((o.irs.getD i default).a :: (o.irs.getD i default).args), badP o lv] (.bool false) (badL_spec o lv hbu) ?_ trivial ?_
        · refine LeL.cons (.refl _) (LeL.cons ?_ LeL.nil)
          refine .clos (.fptr fun q hq => ?_)
          obtain rfl : q = 0 := by have : q < 1 := hq; omega
          exact .refl _
        repeat' (first | refine vcI ?_ | refine And.intro ?_ ?_ | (intro hq; (try simp at hq); (try (exfalso; omega)); (try (revert hq; intro))))
        rcases hbr : regB o (o.irs.getD i default).d with _ | _
        · refine CallS.frozen (.bool false) (regB_spec o lv hbr) (plainAll rfl) ?_
          repeat' (first | refine vcI ?_ | refine And.intro ?_ ?_ | (intro hq; (try simp at hq); (try (exfalso; omega)); (try (revert hq; intro))))
          (refine NEq.of_eq ?_; show PV.bool _ = PV.bool _; congr 1)
          exact (shX_reg (by rw [H.hop]; rfl) hbr).symm
        · refine CallS.frozen (.bool true) (regB_spec o lv hbr) (plainAll rfl) ?_
          repeat' (first | refine vcI ?_ | refine And.intro ?_ ?_ | (intro hq; (try simp at hq); (try (exfalso; omega)); (try (revert hq; intro))))
          refine QS.frozen (ints (usesL (o.descs.getD i []))) (symUses _ H.hfs H.hfN) (plainAll rfl) ?_
          repeat' (first | refine vcI ?_ | refine And.intro ?_ ?_ | (intro hq; (try simp at hq); (try (exfalso; omega)); (try (revert hq; intro))))
          rcases hbw : badL o (usesL (o.descs.getD i [])) with _ | _
          · refine CallS.plain [ints (usesL (o.descs.getD i [])), badP o lv] (.bool false) (badL_spec o lv hbw) ?_ trivial ?_
            · refine LeL.cons (.refl _) (LeL.cons ?_ LeL.nil)
              refine .clos (.fptr fun q hq => ?_)
              obtain rfl : q = 0 := by have : q < 1 := hq; omega
              exact .refl _
            repeat' (first | refine vcI ?_ | refine And.intro ?_ ?_ | (intro hq; (try simp at hq); (try (exfalso; omega)); (try (revert hq; intro))))
            (refine NEq.of_eq ?_; show PV.bool _ = PV.bool _; congr 1)
            exact (shX_ok (by rw [H.hop]; decide) (by rw [H.hop]; decide) h20 hsw (by rw [H.hU]; exact hbu) (fun _ => hbr) hbw).symm
          · refine CallS.plain [ints (usesL (o.descs.getD i [])), badP o lv] (.bool true) (badL_spec o lv hbw) ?_ trivial ?_
            · refine LeL.cons (.refl _) (LeL.cons ?_ LeL.nil)
              refine .clos (.fptr fun q hq => ?_)
              obtain rfl : q = 0 := by have : q < 1 := hq; omega
              exact .refl _
            repeat' (first | refine vcI ?_ | refine And.intro ?_ ?_ | (intro hq; (try simp at hq); (try (exfalso; omega)); (try (revert hq; intro))))
            (refine NEq.of_eq ?_; show PV.bool _ = PV.bool _; congr 1)
            exact (shX_uses hbw).symm
      · refine CallS.plain [ints ((o.irs.getD i default).a :: (o.irs.getD i default).args), badP o lv] (.bool true) (badL_spec o lv hbu) ?_ trivial ?_
        · refine LeL.cons (.refl _) (LeL.cons ?_ LeL.nil)
          refine .clos (.fptr fun q hq => ?_)
          obtain rfl : q = 0 := by have : q < 1 := hq; omega
          exact .refl _
        repeat' (first | refine vcI ?_ | refine And.intro ?_ ?_ | (intro hq; (try simp at hq); (try (exfalso; omega)); (try (revert hq; intro))))
        (refine NEq.of_eq ?_; show PV.bool _ = PV.bool _; congr 1)
        exact (shX_bad (by rw [H.hU]; exact hbu)).symm
end Go.Ab
namespace Go.Ab
open Go.Proofs
set_option maxRecDepth 100000
set_option maxHeartbeats 4000000

theorem shaped_9 (o : DO) (lv : PV) (i : Nat) (H : ShH o i 9 []) : CallsF Try.prog 55 [codeP o lv, .int .i64 i] (.bool (shapedX o (o.irs.getD i default) (o.descs.getD i []))) := by
  have hi := H.hi
  have hil := H.hil
  have hd := H.hd
  have hdl := H.hdl
  have hop1 : (o.irs[i]?.getD default).op = 9 := H.hop
  have hop2 : (o.irs.getD (i : Int).toNat default).op = 9 := H.hop
  have ha1 : (o.irs[i]?.getD default).args.length ≤ 6000 := H.ha
  refine callsF_ofS mx Try.call55 Try.func55 rfl Try.ntmps55 Try.results55 (by kernel_rfl) (by simp) fun lo => ?_
  repeat' (first | refine vcI ?_ | refine And.intro ?_ ?_ | (intro hq; (try simp at hq); (try (exfalso; omega)); (try (revert hq; intro))))
  · rw [hop2]; rfl
  · rename_i hq
    have h20 : ¬ (o.irs.getD i default).args.length ≤ 20 := by
      show ¬ (o.irs[i]?.getD default).args.length ≤ 20
      omega
    repeat' (first | refine vcI ?_ | refine And.intro ?_ ?_ | (intro hq; (try simp at hq); (try (exfalso; omega)); (try (revert hq; intro))))
    (refine NEq.of_eq ?_; show PV.bool _ = PV.bool _; congr 1)
    exact (shX_args h20).symm
  · rw [hop2]; decide
  · rw [cRow]; decide
  · rw [hop2]; rfl
  · rw [List.length_map, List.length_range, cRow]; decide
  · rename_i hq
    have h20 : (o.irs.getD i default).args.length ≤ 20 := by
      show (o.irs[i]?.getD default).args.length ≤ 20
      omega
    rw [hop2]
    repeat' (first | refine vcI ?_ | refine And.intro ?_ ?_ | (intro hq; (try simp at hq); (try (exfalso; omega)); (try (revert hq; intro))))
    rcases hins : insB o.irs.length (o.irs.getD i default).n with _ | _
    · have hsw : swB o (o.irs.getD i default) (o.descs.getD i []) = true := by unfold swB; rw [H.hop, hins]; rfl
      refine CallS.frozen (.bool false) (insIr_spec o.irs hins) (plainAll rfl) ?_
      repeat' (first | refine vcI ?_ | refine And.intro ?_ ?_ | (intro hq; (try simp at hq); (try (exfalso; omega)); (try (revert hq; intro))))
      (refine NEq.of_eq ?_; show PV.bool _ = PV.bool _; congr 1)
      exact (shX_sw hsw).symm
    · have hsw : swB o (o.irs.getD i default) (o.descs.getD i []) = false := by unfold swB; rw [H.hop, hins]; rfl
      refine CallS.frozen (.bool true) (insIr_spec o.irs hins) (plainAll rfl) ?_
      repeat' (first | refine vcI ?_ | refine And.intro ?_ ?_ | (intro hq; (try simp at hq); (try (exfalso; omega)); (try (revert hq; intro))))
      refine QS.frozen (ints []) (uNone_spec _ _) (plainAll rfl) ?_
      repeat' (first | refine vcI ?_ | refine And.intro ?_ ?_ | (intro hq; (try simp at hq); (try (exfalso; omega)); (try (revert hq; intro))))
      rcases hbu : badL o [] with _ | _
      · refine CallS.plain [ints [], badP o lv] (.bool false) (badL_spec o lv hbu) ?_ trivial ?_
        · refine LeL.cons (.refl _) (LeL.cons ?_ LeL.nil)
          refine .clos (.fptr fun q hq => ?_)
          obtain rfl : q = 0 := by have : q < 1 := hq; omega
          exact .refl _
        repeat' (first | refine vcI ?_ | refine And.intro ?_ ?_ | (intro hq; (try simp at hq); (try (exfalso; omega)); (try (revert hq; intro))))
        refine QS.frozen (ints (usesL (o.descs.getD i []))) (symUses _ H.hfs H.hfN) (plainAll rfl) ?_
        repeat' (first | refine vcI ?_ | refine And.intro ?_ ?_ | (intro hq; (try simp at hq); (try (exfalso; omega)); (try (revert hq; intro))))
        rcases hbw : badL o (usesL (o.descs.getD i [])) with _ | _
        · refine CallS.plain [ints (usesL (o.descs.getD i [])), badP o lv] (.bool false) (badL_spec o lv hbw) ?_ trivial ?_
          · refine LeL.cons (.refl _) (LeL.cons ?_ LeL.nil)
            refine .clos (.fptr fun q hq => ?_)
            obtain rfl : q = 0 := by have : q < 1 := hq; omega
            exact .refl _
          repeat' (first | refine vcI ?_ | refine And.intro ?_ ?_ | (intro hq; (try simp at hq); (try (exfalso; omega)); (try (revert hq; intro))))
          (refine NEq.of_eq ?_; show PV.bool _ = PV.bool _; congr 1)
          exact (shX_ok (by rw [H.hop]; decide) (by rw [H.hop]; decide) h20 hsw (by rw [H.hU]; exact hbu) (fun e => by rw [H.hop] at e; cases e) hbw).symm
        · refine CallS.plain [ints (usesL (o.descs.getD i [])), badP o lv] (.bool true) (badL_spec o lv hbw) ?_ trivial ?_
          · refine LeL.cons (.refl _) (LeL.cons ?_ LeL.nil)
            refine .clos (.fptr fun q hq => ?_)
            obtain rfl : q = 0 := by have : q < 1 := hq; omega
            exact .refl _
          repeat' (first | refine vcI ?_ | refine And.intro ?_ ?_ | (intro hq; (try simp at hq); (try (exfalso; omega)); (try (revert hq; intro))))
          (refine NEq.of_eq ?_; show PV.bool _ = PV.bool _; congr 1)
          exact (shX_uses hbw).symm
      · refine CallS.plain [ints [], badP o lv] (.bool true) (badL_spec o lv hbu) ?_ trivial ?_
        · refine LeL.cons (.refl _) (LeL.cons ?_ LeL.nil)
          refine .clos (.fptr fun q hq => ?_)
          obtain rfl : q = 0 := by have : q < 1 := hq; omega
          exact .refl _
        repeat' (first | refine vcI ?_ | refine And.intro ?_ ?_ | (intro hq; (try simp at hq); (try (exfalso; omega)); (try (revert hq; intro))))
        (refine NEq.of_eq ?_; show PV.bool _ = PV.bool _; congr 1)
        exact (shX_bad (by rw [H.hU]; exact hbu)).symm

theorem shaped_10 (o : DO) (lv : PV) (i : Nat) (H : ShH o i 10 (if (o.irs.getD i default).n = 0 then [(o.irs.getD i default).a] else [(o.irs.getD i default).a, IntKind.i64.wrap ((o.irs.getD i default).n - 1)])) : CallsF Try.prog 55 [codeP o lv, .int .i64 i] (.bool (shapedX o (o.irs.getD i default) (o.descs.getD i []))) := by
  have hi := H.hi
  have hil := H.hil
  have hd := H.hd
  have hdl := H.hdl
  have hop1 : (o.irs[i]?.getD default).op = 10 := H.hop
  have hop2 : (o.irs.getD (i : Int).toNat default).op = 10 := H.hop
  have ha1 : (o.irs[i]?.getD default).args.length ≤ 6000 := H.ha
  refine callsF_ofS mx Try.call55 Try.func55 rfl Try.ntmps55 Try.results55 (by kernel_rfl) (by simp) fun lo => ?_
  repeat' (first | refine vcI ?_ | refine And.intro ?_ ?_ | (intro hq; (try simp at hq); (try (exfalso; omega)); (try (revert hq; intro))))
  · rw [hop2]; rfl
  · rename_i hq
    have h20 : ¬ (o.irs.getD i default).args.length ≤ 20 := by
      show ¬ (o.irs[i]?.getD default).args.length ≤ 20
      omega
    repeat' (first | refine vcI ?_ | refine And.intro ?_ ?_ | (intro hq; (try simp at hq); (try (exfalso; omega)); (try (revert hq; intro))))
    (refine NEq.of_eq ?_; show PV.bool _ = PV.bool _; congr 1)
    exact (shX_args h20).symm
  · rw [hop2]; decide
  · rw [cRow]; decide
  · rw [hop2]; rfl
  · rw [List.length_map, List.length_range, cRow]; decide
  · rename_i hq
    have h20 : (o.irs.getD i default).args.length ≤ 20 := by
      show (o.irs[i]?.getD default).args.length ≤ 20
      omega
    rw [hop2]
    repeat' (first | refine vcI ?_ | refine And.intro ?_ ?_ | (intro hq; (try simp at hq); (try (exfalso; omega)); (try (revert hq; intro))))
    · rename_i h0
      show (((o.irs.getD (i : Int).toNat default).op == 10) == true && (((o.irs.getD (i : Int).toNat default).op == 10) == true && decide ((o.irs.getD (i : Int).toNat default).n < 0) == false)) = true
      have h1 : ¬ (o.irs.getD (i : Int).toNat default).n < 0 := by
        show ¬ (o.irs[i]?.getD default).n < 0
        omega
      rw [hop2, decide_eq_false h1]; rfl
    · rename_i h0
      have hsw : swB o (o.irs.getD i default) (o.descs.getD i []) = true := by
        unfold swB
        rw [H.hop]
        show (decide ((o.irs.getD i default).n < 0) || decide ((o.irs.getD i default).n > o.regs)) = true
        rw [Bool.or_eq_true, decide_eq_true_eq, decide_eq_true_eq]
        exact h0.2
      repeat' (first | refine vcI ?_ | refine And.intro ?_ ?_ | (intro hq; (try simp at hq); (try (exfalso; omega)); (try (revert hq; intro))))
      (refine NEq.of_eq ?_; show PV.bool _ = PV.bool _; congr 1)
      exact (shX_sw hsw).symm
    · rename_i h0 _
      have hsw : swB o (o.irs.getD i default) (o.descs.getD i []) = false := by
        unfold swB
        rw [H.hop]
        show (decide ((o.irs.getD i default).n < 0) || decide ((o.irs.getD i default).n > o.regs)) = false
        have h1 := h0 hop1
        have h2 : 0 ≤ (o.irs.getD i default).n ∧ (o.irs.getD i default).n ≤ o.regs := h1
        rw [decide_eq_false (by omega), decide_eq_false (by omega)]; rfl
      refine QS.frozen (ints (if (o.irs.getD i default).n = 0 then [(o.irs.getD i default).a] else [(o.irs.getD i default).a, IntKind.i64.wrap ((o.irs.getD i default).n - 1)])) (uRet_spec o lv i hi (by omega)) (plainAll rfl) ?_
      repeat' (first | refine vcI ?_ | refine And.intro ?_ ?_ | (intro hq; (try simp at hq); (try (exfalso; omega)); (try (revert hq; intro))))
      rcases hbu : badL o (if (o.irs.getD i default).n = 0 then [(o.irs.getD i default).a] else [(o.irs.getD i default).a, IntKind.i64.wrap ((o.irs.getD i default).n - 1)]) with _ | _
      · refine CallS.plain [ints (if (o.irs.getD i default).n = 0 then [(o.irs.getD i default).a] else [(o.irs.getD i default).a, IntKind.i64.wrap ((o.irs.getD i default).n - 1)]), badP o lv] (.bool false) (badL_spec o lv hbu) ?_ trivial ?_
        · refine LeL.cons (.refl _) (LeL.cons ?_ LeL.nil)
          refine .clos (.fptr fun q hq => ?_)
          obtain rfl : q = 0 := by have : q < 1 := hq; omega
          exact .refl _
        repeat' (first | refine vcI ?_ | refine And.intro ?_ ?_ | (intro hq; (try simp at hq); (try (exfalso; omega)); (try (revert hq; intro))))
        refine QS.frozen (ints (usesL (o.descs.getD i []))) (symUses _ H.hfs H.hfN) (plainAll rfl) ?_
        repeat' (first | refine vcI ?_ | refine And.intro ?_ ?_ | (intro hq; (try simp at hq); (try (exfalso; omega)); (try (revert hq; intro))))
        rcases hbw : badL o (usesL (o.descs.getD i [])) with _ | _
        · refine CallS.plain [ints (usesL (o.descs.getD i [])), badP o lv] (.bool false) (badL_spec o lv hbw) ?_ trivial ?_
          · refine LeL.cons (.refl _) (LeL.cons ?_ LeL.nil)
            refine .clos (.fptr fun q hq => ?_)
            obtain rfl : q = 0 := by have : q < 1 := hq; omega
            exact .refl _
          repeat' (first | refine vcI ?_ | refine And.intro ?_ ?_ | (intro hq; (try simp at hq); (try (exfalso; omega)); (try (revert hq; intro))))
          (refine NEq.of_eq ?_; show PV.bool _ = PV.bool _; congr 1)
          exact (shX_ok (by rw [H.hop]; decide) (by rw [H.hop]; decide) h20 hsw (by rw [H.hU]; exact hbu) (fun e => by rw [H.hop] at e; cases e) hbw).symm
        · refine CallS.plain [ints (usesL (o.descs.getD i [])), badP o lv] (.bool true) (badL_spec o lv hbw) ?_ trivial ?_
          · refine LeL.cons (.refl _) (LeL.cons ?_ LeL.nil)
            refine .clos (.fptr fun q hq => ?_)
            obtain rfl : q = 0 := by have : q < 1 := hq; omega
            exact .refl _
          repeat' (first | refine vcI ?_ | refine And.intro ?_ ?_ | (intro hq; (try simp at hq); (try (exfalso; omega)); (try (revert hq; intro))))
          (refine NEq.of_eq ?_; show PV.bool _ = PV.bool _; congr 1)
          exact (shX_uses hbw).symm
      · refine CallS.plain [ints (if (o.irs.getD i default).n = 0 then [(o.irs.getD i default).a] else [(o.irs.getD i default).a, IntKind.i64.wrap ((o.irs.getD i default).n - 1)]), badP o lv] (.bool true) (badL_spec o lv hbu) ?_ trivial ?_
        · refine LeL.cons (.refl _) (LeL.cons ?_ LeL.nil)
          refine .clos (.fptr fun q hq => ?_)
          obtain rfl : q = 0 := by have : q < 1 := hq; omega
          exact .refl _
        repeat' (first | refine vcI ?_ | refine And.intro ?_ ?_ | (intro hq; (try simp at hq); (try (exfalso; omega)); (try (revert hq; intro))))
        (refine NEq.of_eq ?_; show PV.bool _ = PV.bool _; congr 1)
        exact (shX_bad (by rw [H.hU]; exact hbu)).symm

theorem shaped_12 (o : DO) (lv : PV) (i : Nat) (H : ShH o i 12 []) : CallsF Try.prog 55 [codeP o lv, .int .i64 i] (.bool (shapedX o (o.irs.getD i default) (o.descs.getD i []))) := by
  have hi := H.hi
  have hil := H.hil
  have hd := H.hd
  have hdl := H.hdl
  have hop1 : (o.irs[i]?.getD default).op = 12 := H.hop
  have hop2 : (o.irs.getD (i : Int).toNat default).op = 12 := H.hop
  have ha1 : (o.irs[i]?.getD default).args.length ≤ 6000 := H.ha
  refine callsF_ofS mx Try.call55 Try.func55 rfl Try.ntmps55 Try.results55 (by kernel_rfl) (by simp) fun lo => ?_
  repeat' (first | refine vcI ?_ | refine And.intro ?_ ?_ | (intro hq; (try simp at hq); (try (exfalso; omega)); (try (revert hq; intro))))
  · rw [hop2]; rfl
  · rename_i hq
    have h20 : ¬ (o.irs.getD i default).args.length ≤ 20 := by
      show ¬ (o.irs[i]?.getD default).args.length ≤ 20
      omega
    repeat' (first | refine vcI ?_ | refine And.intro ?_ ?_ | (intro hq; (try simp at hq); (try (exfalso; omega)); (try (revert hq; intro))))
    (refine NEq.of_eq ?_; show PV.bool _ = PV.bool _; congr 1)
    exact (shX_args h20).symm
  · rw [hop2]; decide
  · rw [cRow]; decide
  · rw [hop2]; rfl
  · rw [List.length_map, List.length_range, cRow]; decide
  · rename_i hq
    have h20 : (o.irs.getD i default).args.length ≤ 20 := by
      show (o.irs[i]?.getD default).args.length ≤ 20
      omega
    rw [hop2]
    repeat' (first | refine vcI ?_ | refine And.intro ?_ ?_ | (intro hq; (try simp at hq); (try (exfalso; omega)); (try (revert hq; intro))))
    rcases hins : insB (o.descs.getD i []).length (o.irs.getD i default).n with _ | _
    · have hsw : swB o (o.irs.getD i default) (o.descs.getD i []) = true := by unfold swB; rw [H.hop, hins]; rfl
      refine CallS.frozen (.bool false) (insFr_spec (o.descs.getD i []) hins) (plainAll rfl) ?_
      repeat' (first | refine vcI ?_ | refine And.intro ?_ ?_ | (intro hq; (try simp at hq); (try (exfalso; omega)); (try (revert hq; intro))))
      (refine NEq.of_eq ?_; show PV.bool _ = PV.bool _; congr 1)
      exact (shX_sw hsw).symm
    · have hm : 0 ≤ (o.irs.getD i default).n ∧ (o.irs.getD i default).n < ((o.descs.getD i []).length : Int) := by simpa [insB] using hins
      refine CallS.frozen (.bool true) (insFr_spec (o.descs.getD i []) hins) (plainAll rfl) ?_
      repeat' (first | refine vcI ?_ | refine And.intro ?_ ?_ | (intro hq; (try simp at hq); (try (exfalso; omega)); (try (revert hq; intro))))
      · exact hm.1
      · exact hm.2
      rcases hins2 : insB (o.descs.getD i []).length ((o.descs.getD i []).getD (o.irs.getD i default).n.toNat default).up with _ | _
      · have hsw : swB o (o.irs.getD i default) (o.descs.getD i []) = false := by unfold swB; rw [H.hop, hins, hins2]; rfl
        refine CallS.frozen (.bool false) (insFr_spec (o.descs.getD i []) hins2) (plainAll rfl) ?_
        repeat' (first | refine vcI ?_ | refine And.intro ?_ ?_ | (intro hq; (try simp at hq); (try (exfalso; omega)); (try (revert hq; intro))))
        refine QS.frozen (ints []) (uNone_spec _ _) (plainAll rfl) ?_
        repeat' (first | refine vcI ?_ | refine And.intro ?_ ?_ | (intro hq; (try simp at hq); (try (exfalso; omega)); (try (revert hq; intro))))
        rcases hbu : badL o [] with _ | _
        · refine CallS.plain [ints [], badP o lv] (.bool false) (badL_spec o lv hbu) ?_ trivial ?_
          · refine LeL.cons (.refl _) (LeL.cons ?_ LeL.nil)
            refine .clos (.fptr fun q hq => ?_)
            obtain rfl : q = 0 := by have : q < 1 := hq; omega
            exact .refl _
          repeat' (first | refine vcI ?_ | refine And.intro ?_ ?_ | (intro hq; (try simp at hq); (try (exfalso; omega)); (try (revert hq; intro))))
          rcases hbr : regB o (o.irs.getD i default).d with _ | _
          · refine CallS.frozen (.bool false) (regB_spec o lv hbr) (plainAll rfl) ?_
            repeat' (first | refine vcI ?_ | refine And.intro ?_ ?_ | (intro hq; (try simp at hq); (try (exfalso; omega)); (try (revert hq; intro))))
            (refine NEq.of_eq ?_; show PV.bool _ = PV.bool _; congr 1)
            exact (shX_reg (by rw [H.hop]; rfl) hbr).symm
          · refine CallS.frozen (.bool true) (regB_spec o lv hbr) (plainAll rfl) ?_
            repeat' (first | refine vcI ?_ | refine And.intro ?_ ?_ | (intro hq; (try simp at hq); (try (exfalso; omega)); (try (revert hq; intro))))
            refine QS.frozen (ints (usesL (o.descs.getD i []))) (symUses _ H.hfs H.hfN) (plainAll rfl) ?_
            repeat' (first | refine vcI ?_ | refine And.intro ?_ ?_ | (intro hq; (try simp at hq); (try (exfalso; omega)); (try (revert hq; intro))))
            rcases hbw : badL o (usesL (o.descs.getD i [])) with _ | _
            · refine CallS.plain [ints (usesL (o.descs.getD i [])), badP o lv] (.bool false) (badL_spec o lv hbw) ?_ trivial ?_
              · refine LeL.cons (.refl _) (LeL.cons ?_ LeL.nil)
                refine .clos (.fptr fun q hq => ?_)
                obtain rfl : q = 0 := by have : q < 1 := hq; omega
                exact .refl _
              repeat' (first | refine vcI ?_ | refine And.intro ?_ ?_ | (intro hq; (try simp at hq); (try (exfalso; omega)); (try (revert hq; intro))))
              (refine NEq.of_eq ?_; show PV.bool _ = PV.bool _; congr 1)
              exact (shX_ok (by rw [H.hop]; decide) (by rw [H.hop]; decide) h20 hsw (by rw [H.hU]; exact hbu) (fun _ => hbr) hbw).symm
            · refine CallS.plain [ints (usesL (o.descs.getD i [])), badP o lv] (.bool true) (badL_spec o lv hbw) ?_ trivial ?_
              · refine LeL.cons (.refl _) (LeL.cons ?_ LeL.nil)
                refine .clos (.fptr fun q hq => ?_)
                obtain rfl : q = 0 := by have : q < 1 := hq; omega
                exact .refl _
              repeat' (first | refine vcI ?_ | refine And.intro ?_ ?_ | (intro hq; (try simp at hq); (try (exfalso; omega)); (try (revert hq; intro))))
              (refine NEq.of_eq ?_; show PV.bool _ = PV.bool _; congr 1)
              exact (shX_uses hbw).symm
        · refine CallS.plain [ints [], badP o lv] (.bool true) (badL_spec o lv hbu) ?_ trivial ?_
          · refine LeL.cons (.refl _) (LeL.cons ?_ LeL.nil)
            refine .clos (.fptr fun q hq => ?_)
            obtain rfl : q = 0 := by have : q < 1 := hq; omega
            exact .refl _
          repeat' (first | refine vcI ?_ | refine And.intro ?_ ?_ | (intro hq; (try simp at hq); (try (exfalso; omega)); (try (revert hq; intro))))
          (refine NEq.of_eq ?_; show PV.bool _ = PV.bool _; congr 1)
          exact (shX_bad (by rw [H.hU]; exact hbu)).symm
      · have hm2 : 0 ≤ ((o.descs.getD i []).getD (o.irs.getD i default).n.toNat default).up ∧ ((o.descs.getD i []).getD (o.irs.getD i default).n.toNat default).up < ((o.descs.getD i []).length : Int) := by simpa [insB] using hins2
        refine CallS.frozen (.bool true) (insFr_spec (o.descs.getD i []) hins2) (plainAll rfl) ?_
        repeat' (first | refine vcI ?_ | refine And.intro ?_ ?_ | (intro hq; (try simp at hq); (try (exfalso; omega)); (try (revert hq; intro))))
        · exact hm.1
        · exact hm.2
        · exact hm2.1
        · exact hm2.2
        · have hact : ((o.descs.getD i []).getD ((o.descs.getD i []).getD (o.irs.getD i default).n.toNat default).up.toNat default).act = 0 := by
            show ((o.descs[i]?.getD [])[((o.descs[i]?.getD [])[(o.irs[i]?.getD default).n.toNat]?.getD default).up.toNat]?.getD default).act = 0
            assumption
          have hsw : swB o (o.irs.getD i default) (o.descs.getD i []) = true := by
            unfold swB; rw [H.hop, hins, hins2, hact]; rfl
          repeat' (first | refine vcI ?_ | refine And.intro ?_ ?_ | (intro hq; (try simp at hq); (try (exfalso; omega)); (try (revert hq; intro))))
          (refine NEq.of_eq ?_; show PV.bool _ = PV.bool _; congr 1)
          exact (shX_sw hsw).symm
        · have hact : ¬ ((o.descs.getD i []).getD ((o.descs.getD i []).getD (o.irs.getD i default).n.toNat default).up.toNat default).act = 0 := by
            show ¬ ((o.descs[i]?.getD [])[((o.descs[i]?.getD [])[(o.irs[i]?.getD default).n.toNat]?.getD default).up.toNat]?.getD default).act = 0
            assumption
          have hsw : swB o (o.irs.getD i default) (o.descs.getD i []) = false := by
            unfold swB; rw [H.hop, hins, hins2]
            show (((o.descs.getD i []).getD ((o.descs.getD i []).getD (o.irs.getD i default).n.toNat default).up.toNat default).act == 0) = false
            simpa using hact
          refine QS.frozen (ints []) (uNone_spec _ _) (plainAll rfl) ?_
          repeat' (first | refine vcI ?_ | refine And.intro ?_ ?_ | (intro hq; (try simp at hq); (try (exfalso; omega)); (try (revert hq; intro))))
          rcases hbu : badL o [] with _ | _
          · refine CallS.plain [ints [], badP o lv] (.bool false) (badL_spec o lv hbu) ?_ trivial ?_
            · refine LeL.cons (.refl _) (LeL.cons ?_ LeL.nil)
              refine .clos (.fptr fun q hq => ?_)
              obtain rfl : q = 0 := by have : q < 1 := hq; omega
              exact .refl _
            repeat' (first | refine vcI ?_ | refine And.intro ?_ ?_ | (intro hq; (try simp at hq); (try (exfalso; omega)); (try (revert hq; intro))))
            rcases hbr : regB o (o.irs.getD i default).d with _ | _
            · refine CallS.frozen (.bool false) (regB_spec o lv hbr) (plainAll rfl) ?_
              repeat' (first | refine vcI ?_ | refine And.intro ?_ ?_ | (intro hq; (try simp at hq); (try (exfalso; omega)); (try (revert hq; intro))))
              (refine NEq.of_eq ?_; show PV.bool _ = PV.bool _; congr 1)
              exact (shX_reg (by rw [H.hop]; rfl) hbr).symm
            · refine CallS.frozen (.bool true) (regB_spec o lv hbr) (plainAll rfl) ?_
              repeat' (first | refine vcI ?_ | refine And.intro ?_ ?_ | (intro hq; (try simp at hq); (try (exfalso; omega)); (try (revert hq; intro))))
              refine QS.frozen (ints (usesL (o.descs.getD i []))) (symUses _ H.hfs H.hfN) (plainAll rfl) ?_
              repeat' (first | refine vcI ?_ | refine And.intro ?_ ?_ | (intro hq; (try simp at hq); (try (exfalso; omega)); (try (revert hq; intro))))
              rcases hbw : badL o (usesL (o.descs.getD i [])) with _ | _
              · refine CallS.plain [ints (usesL (o.descs.getD i [])), badP o lv] (.bool false) (badL_spec o lv hbw) ?_ trivial ?_
                · refine LeL.cons (.refl _) (LeL.cons ?_ LeL.nil)
                  refine .clos (.fptr fun q hq => ?_)
                  obtain rfl : q = 0 := by have : q < 1 := hq; omega
                  exact .refl _
                repeat' (first | refine vcI ?_ | refine And.intro ?_ ?_ | (intro hq; (try simp at hq); (try (exfalso; omega)); (try (revert hq; intro))))
                (refine NEq.of_eq ?_; show PV.bool _ = PV.bool _; congr 1)
                exact (shX_ok (by rw [H.hop]; decide) (by rw [H.hop]; decide) h20 hsw (by rw [H.hU]; exact hbu) (fun _ => hbr) hbw).symm
              · refine CallS.plain [ints (usesL (o.descs.getD i [])), badP o lv] (.bool true) (badL_spec o lv hbw) ?_ trivial ?_
                · refine LeL.cons (.refl _) (LeL.cons ?_ LeL.nil)
                  refine .clos (.fptr fun q hq => ?_)
                  obtain rfl : q = 0 := by have : q < 1 := hq; omega
                  exact .refl _
                repeat' (first | refine vcI ?_ | refine And.intro ?_ ?_ | (intro hq; (try simp at hq); (try (exfalso; omega)); (try (revert hq; intro))))
                (refine NEq.of_eq ?_; show PV.bool _ = PV.bool _; congr 1)
                exact (shX_uses hbw).symm
          · refine CallS.plain [ints [], badP o lv] (.bool true) (badL_spec o lv hbu) ?_ trivial ?_
            · refine LeL.cons (.refl _) (LeL.cons ?_ LeL.nil)
              refine .clos (.fptr fun q hq => ?_)
              obtain rfl : q = 0 := by have : q < 1 := hq; omega
              exact .refl _
            repeat' (first | refine vcI ?_ | refine And.intro ?_ ?_ | (intro hq; (try simp at hq); (try (exfalso; omega)); (try (revert hq; intro))))
            (refine NEq.of_eq ?_; show PV.bool _ = PV.bool _; congr 1)
            exact (shX_bad (by rw [H.hU]; exact hbu)).symm

theorem shaped_13 (o : DO) (lv : PV) (i : Nat) (H : ShH o i 13 [IntKind.i64.wrap (((o.descs.getD i []).getD (o.irs.getD i default).m.toNat default).act - 1)]) : CallsF Try.prog 55 [codeP o lv, .int .i64 i] (.bool (shapedX o (o.irs.getD i default) (o.descs.getD i []))) := by
  have hi := H.hi
  have hil := H.hil
  have hd := H.hd
  have hdl := H.hdl
  have hop1 : (o.irs[i]?.getD default).op = 13 := H.hop
  have hop2 : (o.irs.getD (i : Int).toNat default).op = 13 := H.hop
  have ha1 : (o.irs[i]?.getD default).args.length ≤ 6000 := H.ha
  refine callsF_ofS mx Try.call55 Try.func55 rfl Try.ntmps55 Try.results55 (by kernel_rfl) (by simp) fun lo => ?_
  repeat' (first | refine vcI ?_ | refine And.intro ?_ ?_ | (intro hq; (try simp at hq); (try (exfalso; omega)); (try (revert hq; intro))))
  · rw [hop2]; rfl
  · rename_i hq
    have h20 : ¬ (o.irs.getD i default).args.length ≤ 20 := by
      show ¬ (o.irs[i]?.getD default).args.length ≤ 20
      omega
    repeat' (first | refine vcI ?_ | refine And.intro ?_ ?_ | (intro hq; (try simp at hq); (try (exfalso; omega)); (try (revert hq; intro))))
    (refine NEq.of_eq ?_; show PV.bool _ = PV.bool _; congr 1)
    exact (shX_args h20).symm
  · rw [hop2]; decide
  · rw [cRow]; decide
  · rw [hop2]; rfl
  · rw [List.length_map, List.length_range, cRow]; decide
  · rename_i hq
    have h20 : (o.irs.getD i default).args.length ≤ 20 := by
      show (o.irs[i]?.getD default).args.length ≤ 20
      omega
    rw [hop2]
    repeat' (first | refine vcI ?_ | refine And.intro ?_ ?_ | (intro hq; (try simp at hq); (try (exfalso; omega)); (try (revert hq; intro))))
    rw [hop2]
    rcases hins : insB (o.descs.getD i []).length (o.irs.getD i default).m with _ | _
    · have hsw : swB o (o.irs.getD i default) (o.descs.getD i []) = true := by unfold swB; rw [H.hop, hins]; rfl
      refine CallS.frozen (.bool false) (insFr_spec (o.descs.getD i []) hins) (plainAll rfl) ?_
      repeat' (first | refine vcI ?_ | refine And.intro ?_ ?_ | (intro hq; (try simp at hq); (try (exfalso; omega)); (try (revert hq; intro))))
      (refine NEq.of_eq ?_; show PV.bool _ = PV.bool _; congr 1)
      exact (shX_sw hsw).symm
    · have hm : 0 ≤ (o.irs.getD i default).m ∧ (o.irs.getD i default).m < ((o.descs.getD i []).length : Int) := by simpa [insB] using hins
      refine CallS.frozen (.bool true) (insFr_spec (o.descs.getD i []) hins) (plainAll rfl) ?_
      repeat' (first | refine vcI ?_ | refine And.intro ?_ ?_ | (intro hq; (try simp at hq); (try (exfalso; omega)); (try (revert hq; intro))))
      · exact hm.1
      · exact hm.2
      · have hact : ((o.descs.getD i []).getD (o.irs.getD i default).m.toNat default).act = 0 := by
          show ((o.descs[i]?.getD [])[(o.irs[i]?.getD default).m.toNat]?.getD default).act = 0
          assumption
        have hsw : swB o (o.irs.getD i default) (o.descs.getD i []) = true := by
          unfold swB; rw [H.hop, hins, hact]; rfl
        repeat' (first | refine vcI ?_ | refine And.intro ?_ ?_ | (intro hq; (try simp at hq); (try (exfalso; omega)); (try (revert hq; intro))))
        (refine NEq.of_eq ?_; show PV.bool _ = PV.bool _; congr 1)
        exact (shX_sw hsw).symm
      · have hact : ¬ ((o.descs.getD i []).getD (o.irs.getD i default).m.toNat default).act = 0 := by
          show ¬ ((o.descs[i]?.getD [])[(o.irs[i]?.getD default).m.toNat]?.getD default).act = 0
          assumption
        have hsw : swB o (o.irs.getD i default) (o.descs.getD i []) = false := by
          unfold swB; rw [H.hop, hins]
          show (((o.descs.getD i []).getD (o.irs.getD i default).m.toNat default).act == 0) = false
          simpa using hact
        refine QS.frozen (ints [IntKind.i64.wrap (((o.descs.getD i []).getD (o.irs.getD i default).m.toNat default).act - 1)]) (uBlk_spec o lv i hi (by omega) hd (by omega) hm H.hfs.1) (plainAll rfl) ?_
        repeat' (first | refine vcI ?_ | refine And.intro ?_ ?_ | (intro hq; (try simp at hq); (try (exfalso; omega)); (try (revert hq; intro))))
        rcases hbu : badL o [IntKind.i64.wrap (((o.descs.getD i []).getD (o.irs.getD i default).m.toNat default).act - 1)] with _ | _
        · refine CallS.plain [ints [IntKind.i64.wrap (((o.descs.getD i []).getD (o.irs.getD i default).m.toNat default).act - 1)], badP o lv] (.bool false) (badL_spec o lv hbu) ?_ trivial ?_
          · refine LeL.cons (.refl _) (LeL.cons ?_ LeL.nil)
            refine .clos (.fptr fun q hq => ?_)
            obtain rfl : q = 0 := by have : q < 1 := hq; omega
            exact .refl _
          repeat' (first | refine vcI ?_ | refine And.intro ?_ ?_ | (intro hq; (try simp at hq); (try (exfalso; omega)); (try (revert hq; intro))))
          rcases hbr : regB o (o.irs.getD i default).d with _ | _
          · refine CallS.frozen (.bool false) (regB_spec o lv hbr) (plainAll rfl) ?_
            repeat' (first | refine vcI ?_ | refine And.intro ?_ ?_ | (intro hq; (try simp at hq); (try (exfalso; omega)); (try (revert hq; intro))))
            (refine NEq.of_eq ?_; show PV.bool _ = PV.bool _; congr 1)
            exact (shX_reg (by rw [H.hop]; rfl) hbr).symm
          · refine CallS.frozen (.bool true) (regB_spec o lv hbr) (plainAll rfl) ?_
            repeat' (first | refine vcI ?_ | refine And.intro ?_ ?_ | (intro hq; (try simp at hq); (try (exfalso; omega)); (try (revert hq; intro))))
            refine QS.frozen (ints (usesL (o.descs.getD i []))) (symUses _ H.hfs H.hfN) (plainAll rfl) ?_
            repeat' (first | refine vcI ?_ | refine And.intro ?_ ?_ | (intro hq; (try simp at hq); (try (exfalso; omega)); (try (revert hq; intro))))
            rcases hbw : badL o (usesL (o.descs.getD i [])) with _ | _
            · refine CallS.plain [ints (usesL (o.descs.getD i [])), badP o lv] (.bool false) (badL_spec o lv hbw) ?_ trivial ?_
              · refine LeL.cons (.refl _) (LeL.cons ?_ LeL.nil)
                refine .clos (.fptr fun q hq => ?_)
                obtain rfl : q = 0 := by have : q < 1 := hq; omega
                exact .refl _
              repeat' (first | refine vcI ?_ | refine And.intro ?_ ?_ | (intro hq; (try simp at hq); (try (exfalso; omega)); (try (revert hq; intro))))
              (refine NEq.of_eq ?_; show PV.bool _ = PV.bool _; congr 1)
              exact (shX_ok (by rw [H.hop]; decide) (by rw [H.hop]; decide) h20 hsw (by rw [H.hU]; exact hbu) (fun _ => hbr) hbw).symm
            · refine CallS.plain [ints (usesL (o.descs.getD i [])), badP o lv] (.bool true) (badL_spec o lv hbw) ?_ trivial ?_
              · refine LeL.cons (.refl _) (LeL.cons ?_ LeL.nil)
                refine .clos (.fptr fun q hq => ?_)
                obtain rfl : q = 0 := by have : q < 1 := hq; omega
                exact .refl _
              repeat' (first | refine vcI ?_ | refine And.intro ?_ ?_ | (intro hq; (try simp at hq); (try (exfalso; omega)); (try (revert hq; intro))))
              (refine NEq.of_eq ?_; show PV.bool _ = PV.bool _; congr 1)
              exact (shX_uses hbw).symm
        · refine CallS.plain [ints [IntKind.i64.wrap (((o.descs.getD i []).getD (o.irs.getD i default).m.toNat default).act - 1)], badP o lv] (.bool true) (badL_spec o lv hbu) ?_ trivial ?_
          · refine LeL.cons (.refl _) (LeL.cons ?_ LeL.nil)
            refine .clos (.fptr fun q hq => ?_)
            obtain rfl : q = 0 := by have : q < 1 := hq; omega
            exact .refl _
          repeat' (first | refine vcI ?_ | refine And.intro ?_ ?_ | (intro hq; (try simp at hq); (try (exfalso; omega)); (try (revert hq; intro))))
          (refine NEq.of_eq ?_; show PV.bool _ = PV.bool _; congr 1)
          exact (shX_bad (by rw [H.hU]; exact hbu)).symm
end Go.Ab
namespace Go.Ab
open Go.Proofs
set_option maxRecDepth 100000
set_option maxHeartbeats 4000000

theorem shaped_out (o : DO) (lv : PV) (i : Nat) (hi : i < o.irs.length) (hil : o.irs.length ≤ 6000) (hd : i < o.descs.length) (hdl : o.descs.length ≤ 6000) (ha : (o.irs.getD i default).args.length ≤ 6000) (hop : (o.irs.getD i default).op < 1 ∨ 16 < (o.irs.getD i default).op) : CallsF Try.prog 55 [codeP o lv, .int .i64 i] (.bool (shapedX o (o.irs.getD i default) (o.descs.getD i []))) := by
  have hop1 : (o.irs[i]?.getD default).op < 1 ∨ 16 < (o.irs[i]?.getD default).op := hop
  have ha1 : (o.irs[i]?.getD default).args.length ≤ 6000 := ha
  have hres : shapedX o (o.irs.getD i default) (o.descs.getD i []) = false := by
    unfold shapedX
    rcases hop with h | h
    · rw [decide_eq_false (show ¬ 1 ≤ (o.irs.getD i default).op by omega)]; rfl
    · rw [decide_eq_false (show ¬ (o.irs.getD i default).op ≤ 16 by omega), Bool.false_and, Bool.and_false]
  rw [hres]
  refine callsF_ofS mx Try.call55 Try.func55 rfl Try.ntmps55 Try.results55 (by kernel_rfl) (by simp) fun lo => ?_
  repeat' (first | refine vcI ?_ | refine And.intro ?_ ?_ | (intro hq; (try simp at hq); (try (exfalso; omega)); (try (revert hq; intro))))
  all_goals (refine NEq.of_eq ?_; show PV.bool _ = PV.bool _; congr 1)

theorem shaped_13n (o : DO) (lv : PV) (i : Nat) (H : ShH o i 13 (usedL (o.irs.getD i default) (o.descs.getD i []))) (hm : ¬ (0 ≤ (o.irs.getD i default).m ∧ (o.irs.getD i default).m < ((o.descs.getD i []).length : Int))) : CallsF Try.prog 55 [codeP o lv, .int .i64 i] (.bool (shapedX o (o.irs.getD i default) (o.descs.getD i []))) := by
  have hi := H.hi
  have hil := H.hil
  have hd := H.hd
  have hdl := H.hdl
  have hop1 : (o.irs[i]?.getD default).op = 13 := H.hop
  have hop2 : (o.irs.getD (i : Int).toNat default).op = 13 := H.hop
  have ha1 : (o.irs[i]?.getD default).args.length ≤ 6000 := H.ha
  refine callsF_ofS mx Try.call55 Try.func55 rfl Try.ntmps55 Try.results55 (by kernel_rfl) (by simp) fun lo => ?_
  repeat' (first | refine vcI ?_ | refine And.intro ?_ ?_ | (intro hq; (try simp at hq); (try (exfalso; omega)); (try (revert hq; intro))))
  · rw [hop2]; rfl
  · rename_i hq
    have h20 : ¬ (o.irs.getD i default).args.length ≤ 20 := by
      show ¬ (o.irs[i]?.getD default).args.length ≤ 20
      omega
    repeat' (first | refine vcI ?_ | refine And.intro ?_ ?_ | (intro hq; (try simp at hq); (try (exfalso; omega)); (try (revert hq; intro))))
    (refine NEq.of_eq ?_; show PV.bool _ = PV.bool _; congr 1)
    exact (shX_args h20).symm
  · rw [hop2]; decide
  · rw [cRow]; decide
  · rw [hop2]; rfl
  · rw [List.length_map, List.length_range, cRow]; decide
  · rename_i hq
    have h20 : (o.irs.getD i default).args.length ≤ 20 := by
      show (o.irs[i]?.getD default).args.length ≤ 20
      omega
    rw [hop2]
    repeat' (first | refine vcI ?_ | refine And.intro ?_ ?_ | (intro hq; (try simp at hq); (try (exfalso; omega)); (try (revert hq; intro))))
    rw [hop2]
    have hins : insB (o.descs.getD i []).length (o.irs.getD i default).m = false := by
      unfold insB
      exact decide_eq_false hm
    have hsw : swB o (o.irs.getD i default) (o.descs.getD i []) = true := by unfold swB; rw [H.hop, hins]; rfl
    refine CallS.frozen (.bool false) (insFr_spec (o.descs.getD i []) hins) (plainAll rfl) ?_
    repeat' (first | refine vcI ?_ | refine And.intro ?_ ?_ | (intro hq; (try simp at hq); (try (exfalso; omega)); (try (revert hq; intro))))
    (refine NEq.of_eq ?_; show PV.bool _ = PV.bool _; congr 1)
    exact (shX_sw hsw).symm

theorem shaped_spec (o : DO) (lv : PV) (i : Nat) (hi : i < o.irs.length) (hd : i < o.descs.length) (hf : fewN o ≤ 6000) (hs : ∀ l ∈ o.descs, l.length ≤ 1048576 ∧ ∀ f ∈ l, f.small) : CallsF Try.prog 55 [codeP o lv, .int .i64 i] (.bool (shapedX o (o.irs.getD i default) (o.descs.getD i []))) := by
  have hil : o.irs.length ≤ 6000 := by unfold fewN at hf; omega
  have hdl : o.descs.length ≤ 6000 := by unfold fewN at hf; omega
  have ha : (o.irs.getD i default).args.length ≤ 6000 := by
    have := sumL_mem (f := fun x : DI => x.args.length) (getD_mem default hi)
    rw [List.getD_eq_getElem?_getD]
    unfold fewN at hf; omega
  have hfN : frN (o.descs.getD i []) ≤ 6000 := by
    have := sumL_mem (f := frN) (getD_mem [] hd)
    rw [List.getD_eq_getElem?_getD]
    unfold fewN at hf; omega
  have mk : ∀ (k : Int) (u : List Int), (o.irs.getD i default).op = k → usedL (o.irs.getD i default) (o.descs.getD i []) = u → ShH o i k u := fun k u h1 h2 => ⟨hi, hil, hd, hdl, h1, h2, hs _ (getD_mem [] hd), hfN, ha⟩
  by_cases hop : (o.irs.getD i default).op < 1 ∨ 16 < (o.irs.getD i default).op
  · exact shaped_out o lv i hi hil hd hdl ha hop
  rcases (by omega : (o.irs.getD i default).op = 1 ∨ (o.irs.getD i default).op = 2 ∨ (o.irs.getD i default).op = 3 ∨ (o.irs.getD i default).op = 4 ∨ (o.irs.getD i default).op = 5 ∨ (o.irs.getD i default).op = 6 ∨ (o.irs.getD i default).op = 7 ∨ (o.irs.getD i default).op = 8 ∨ (o.irs.getD i default).op = 9 ∨ (o.irs.getD i default).op = 10 ∨ (o.irs.getD i default).op = 11 ∨ (o.irs.getD i default).op = 12 ∨ (o.irs.getD i default).op = 13 ∨ (o.irs.getD i default).op = 14 ∨ (o.irs.getD i default).op = 15 ∨ (o.irs.getD i default).op = 16) with h | h | h | h | h | h | h | h | h | h | h | h | h | h | h | h
  · exact shaped_1 o lv i (mk _ _ h (by simp only [usedL, h]; simp))
  · exact shaped_2 o lv i (mk _ _ h (by simp only [usedL, h]; simp))
  · exact shaped_3 o lv i (mk _ _ h (by simp only [usedL, h]; simp))
  · exact shaped_4 o lv i (mk _ _ h (by simp only [usedL, h]; simp))
  · exact shaped_5 o lv i (mk _ _ h (by simp only [usedL, h]; simp))
  · exact shaped_6 o lv i (mk _ _ h (by simp only [usedL, h]; simp))
  · exact shaped_7 o lv i (mk _ _ h (by simp only [usedL, h]; simp))
  · exact shaped_8 o lv i (mk _ _ h (by simp only [usedL, h]; simp))
  · exact shaped_9 o lv i (mk _ _ h (by simp only [usedL, h]; simp))
  · exact shaped_10 o lv i (mk _ _ h (by simp only [usedL, h]; simp))
  · exact shaped_11 o lv i (mk _ _ h (by simp only [usedL, h]; simp))
  · exact shaped_12 o lv i (mk _ _ h (by simp only [usedL, h]; simp))
  · by_cases hm : 0 ≤ (o.irs.getD i default).m ∧ (o.irs.getD i default).m < ((o.descs.getD i []).length : Int)
    · exact shaped_13 o lv i (mk _ _ h (by simp only [usedL, h]; simp only [hm]; simp))
    · exact shaped_13n o lv i (mk _ _ h rfl) hm
  · exact shaped_14 o lv i (mk _ _ h (by simp only [usedL, h]; simp))
  · exact shaped_15 o lv i (mk _ _ h (by simp only [usedL, h]; simp))
  · exact shaped_16 o lv i (mk _ _ h (by simp only [usedL, h]; simp))
end Go.Ab
namespace Go.Ab
open Go.Proofs
set_option maxRecDepth 100000
set_option maxHeartbeats 1000000

theorem sortNil_spec : CallsF Try.prog 63 [.nils] (.tup []) := by
  refine ⟨Try.call63, fun w B cs hr ha => ?_⟩
  have hsz : cs.size = 1 := by have := ha.len; simpa using this.symm
  obtain ⟨vx, rfl⟩ : ∃ vx, cs = #[vx] := ⟨cs[0], by apply Array.ext <;> simp_all⟩
  have hv := ha.val 0 (by simp)
  simp only [List.getD_cons_zero, Array.getD_eq_getD_getElem?] at hv
  have hv' : VR w B H0 V0 .nils vx := by simpa using hv
  cases hv'
  refine (Any.slices_Sort_int_none Try.lays189 none 0 w).mono fun e w' ⟨h1, h2⟩ => ?_
  subst h1 h2
  exact ⟨_, B, rfl, .tup (by simp) (fun i hi => absurd hi (by simp)), Mono.refl ..⟩
theorem compactNil_spec : CallsF Try.prog 64 [.nils] .nils := by
  refine callsF_ofS mx Try.call64 Try.func64 rfl Try.ntmps64 Try.results64 (by kernel_rfl) (by simp) fun lo => ?_
  repeat' (first | refine vcI ?_ | refine And.intro ?_ ?_ | (intro hq; (try simp at hq); (try (exfalso; omega)); (try (revert hq; intro))))
  exact .refl _
theorem compact1_27 (x : Int) (v nv : Nat) (S : Hp) : CallsA Try.prog 64 [.ref (1, 27) v [] 1 0 1] ([((1, 27), ⟨v, oints [x]⟩)] ++ S) nv
    fun y hp' nv' => ∃ L', hp' = L' ++ S ∧ (y = .ref (1, 27) v [] 1 0 1 ∧ L' = [((1, 27), ⟨v, oints [x]⟩)]) := by
  refine callsA_ofS (lv := 2) (by decide) mx Try.call64 Try.func64 rfl Try.ntmps64 Try.results64 (by kernel_rfl) (by simp) fun lo => ?_
  repeat' (first | refine vcI ?_ | refine And.intro ?_ ?_ | (intro hq; (try simp at hq); (try (exfalso; omega)); (try (revert hq; intro))))
  exact ⟨_, _, ⟨rfl, rfl⟩, .refl _, ⟨⟨rfl, .refl _⟩, trivial⟩, .names rfl⟩
theorem compact1_41 (x : Int) (v nv : Nat) (S : Hp) : CallsA Try.prog 64 [.ref (1, 41) v [] 1 0 1] ([((1, 41), ⟨v, oints [x]⟩)] ++ S) nv
    fun y hp' nv' => ∃ L', hp' = L' ++ S ∧ (y = .ref (1, 41) v [] 1 0 1 ∧ L' = [((1, 41), ⟨v, oints [x]⟩)]) := by
  refine callsA_ofS (lv := 2) (by decide) mx Try.call64 Try.func64 rfl Try.ntmps64 Try.results64 (by kernel_rfl) (by simp) fun lo => ?_
  repeat' (first | refine vcI ?_ | refine And.intro ?_ ?_ | (intro hq; (try simp at hq); (try (exfalso; omega)); (try (revert hq; intro))))
  exact ⟨_, _, ⟨rfl, rfl⟩, .refl _, ⟨⟨rfl, .refl _⟩, trivial⟩, .names rfl⟩
theorem compact2_27 (x y : Int) (v nv : Nat) (S : Hp) : CallsA Try.prog 64 [.ref (1, 27) v [] 1 0 2] ([((1, 27), ⟨v, oints [x, y]⟩)] ++ S) nv
    fun z hp' nv' => ∃ L', hp' = L' ++ S ∧ (z = .ref (1, 27) v [] 1 0 (if x = y then 1 else 2) ∧ L' = [((1, 27), ⟨v, oints (if x = y then [x, 0] else [x, y])⟩)]) := by
  refine callsA_ofS (lv := 2) (by decide) mx Try.call64 Try.func64 rfl Try.ntmps64 Try.results64 (by kernel_rfl) (by simp) fun lo => ?_
  repeat' (first | refine vcI ?_ | refine And.intro ?_ ?_ | (intro hq; (try simp at hq); (try (exfalso; omega)); (try (revert hq; intro))))
  refine loopS mx (by decide) (by kernel_rfl) (fun k : Nat => k = 1 ∨ (k = 2 ∧ x ≠ y)) (fun k => [(3, .int .i64 k), (0, .ref (1, 27) v [] 1 0 2)]) (fun _ => [((1, 27), ⟨v, oints [x, y]⟩)]) (fun k => 2 - k) 1 (.inl rfl) ⟨by ((repeat' apply And.intro) <;> (first | exact True.intro | exact NEq.refl _ | (refine NEq.int ?_; first | exact rfl | omega | (rw [wrapI (by omega)]; first | exact rfl | omega)))), ⟨⟨rfl, .refl _⟩, trivial⟩, .names rfl⟩ ?_
  rintro k nv (rfl | ⟨rfl, hne⟩)
  · repeat' (first | refine vcI ?_ | refine And.intro ?_ ?_ | (intro hq; (try simp at hq); (try (exfalso; omega)); (try (revert hq; intro))))
    · decide
    · decide
    · rename_i hxy
      have hxy' : x = y := Eq.symm hxy
      subst hxy'
      refine loopS mx (by decide) (by kernel_rfl) (fun _ : Unit => True) (fun _ => [(5, .int .i64 1), (4, .ref (1, 27) v [] 1 1 2), (3, .int .i64 1), (0, .ref (1, 27) v [] 1 0 2)]) (fun _ => [((1, 27), ⟨v, oints [x, x]⟩)]) (fun _ => 0) () trivial ⟨by ((repeat' apply And.intro) <;> (first | exact True.intro | exact NEq.refl _ | (refine NEq.int ?_; first | exact rfl | omega | (rw [wrapI (by omega)]; first | exact rfl | omega)))), ⟨⟨rfl, .refl _⟩, trivial⟩, .names rfl⟩ ?_
      intro u nv _
      repeat' (first | refine vcI ?_ | refine And.intro ?_ ?_ | (intro hq; (try simp at hq); (try (exfalso; omega)); (try (revert hq; intro))))
      · rfl
      refine Exists.intro (oints [x, 0]) (And.intro ?_ (And.intro (by first | rfl | exact shape_prs (by simp) | exact shape_ints (by simp) | exact shape_odvs (by simp)) ?_))
      · refine NEq.owns rfl rfl fun i o hi ho => ?_
        obtain rfl : o = 0 := by omega
        obtain rfl | rfl : i = 0 ∨ i = 1 := by simp at hi; omega
        · exact .refl _
        · exact .refl _
      repeat' (first | refine vcI ?_ | refine And.intro ?_ ?_ | (intro hq; (try simp at hq); (try (exfalso; omega)); (try (revert hq; intro))))
      rw [if_pos rfl, if_pos rfl]
      exact ⟨_, _, ⟨rfl, rfl⟩, .refl _, ⟨⟨rfl, .refl _⟩, trivial⟩, .names rfl⟩
    · rename_i hxy
      have hxy' : ¬ x = y := fun e => hxy (Eq.symm e)
      exact Exists.intro 2 ⟨.inr ⟨rfl, hxy'⟩, (by first | omega | (dsimp only; omega)), ⟨⟨(by refine NEq.int ?_; first | exact rfl | omega | (rw [wrapI (by omega)]; first | exact rfl | omega)), .refl _, trivial⟩, ⟨⟨rfl, .refl _⟩, trivial⟩, .names rfl⟩⟩
  · repeat' (first | refine vcI ?_ | refine And.intro ?_ ?_ | (intro hq; (try simp at hq); (try (exfalso; omega)); (try (revert hq; intro))))
    rw [if_neg hne, if_neg hne]
    exact ⟨_, _, ⟨rfl, rfl⟩, .refl _, ⟨⟨rfl, .refl _⟩, trivial⟩, .names rfl⟩
end Go.Ab
namespace Go.Ab
open Go.Proofs
set_option maxRecDepth 100000
set_option maxHeartbeats 4000000

def goesL (x : DI) (i : Nat) : List Int :=
  if x.op = 9 then [x.n] else if x.op = 10 ∨ x.op = 11 then []
  else if x.op = 3 ∨ x.op = 6 then (if x.n = (i : Int) + 1 then [(i : Int) + 1] else if x.n < (i : Int) + 1 then [x.n, (i : Int) + 1] else [(i : Int) + 1, x.n])
  else [(i : Int) + 1]
/-- What stands behind in the same memory. -/
def padL (x : DI) (i : Nat) : List Int := if (x.op = 3 ∨ x.op = 6) ∧ x.n = (i : Int) + 1 then [0] else []
theorem keepS_pre {L : Hp} {r : RId} {v n m : Nat} {l : List Int} (h : lkH L r = some ⟨v, oints l⟩) (hn : n = m) : keepS (fun id ver => .ref id ver [] 1 0 m) (oints l) (.ref r v [] 1 0 n) L :=
  .inl ⟨r, v, _, h, setH L r none, fun j => lookH_setH L r j none, fun id ver => ⟨.refs rfl rfl hn, KpR_ints⟩⟩
theorem sortI_one (x : Int) : sortI [x] = [x] := sortI_sorted (by simp)
theorem sortI_two (x y : Int) : sortI [x, y] = if y < x then [y, x] else [x, y] := by
  by_cases h : y < x
  · rw [if_pos h, sortI_perm (List.Perm.swap y x []), sortI_sorted (by simp [h])]
  · rw [if_neg h]
    by_cases e : x = y
    · subst e
      exact (List.mergeSort_of_pairwise (by simp) : sortI [x, x] = [x, x])
    · exact sortI_sorted (by simp; omega)

theorem nexts_1 (o : DO) (lv : PV) (i : Nat) (hi : i < o.irs.length) (hil : o.irs.length ≤ 6000) (hop : (o.irs.getD i default).op = 1) : CallsO Try.prog 46 [codeP o lv, .int .i64 i] (oints (goesL (o.irs.getD i default) i ++ padL (o.irs.getD i default) i)) (fun id ver => .ref id ver [] 1 0 (goesL (o.irs.getD i default) i).length) := by
  have hop1 : (o.irs[i]?.getD default).op = 1 := hop
  have hop2 : (o.irs.getD (i : Int).toNat default).op = 1 := hop
  have w1 : IntKind.i64.wrap ((i : Int) + 1) = (i : Int) + 1 := wrapI (by omega)
  have e1 : goesL (o.irs.getD i default) i = [(i : Int) + 1] := by simp only [goesL, hop]; simp
  have e2 : padL (o.irs.getD i default) i = [] := by simp only [padL, hop]; simp
  rw [e1, e2]
  refine callsO_ofS mx Try.call46 Try.func46 rfl Try.ntmps46 Try.results46 (by kernel_rfl) (by simp) fun lo => ?_
  repeat' (first | refine vcI ?_ | refine And.intro ?_ ?_ | (intro hq; (try simp at hq); (try (exfalso; omega)); (try (revert hq; intro))))
  · rw [hop2]; decide
  · rw [cRow]; decide
  · rw [hop2]; rfl
  · rw [List.length_map, List.length_range, cRow]; decide
  rw [hop2]
  repeat' (first | refine vcI ?_ | refine And.intro ?_ ?_ | (intro hq; (try simp at hq); (try (exfalso; omega)); (try (revert hq; intro))))
  refine Exists.intro (oints [(i : Int) + 1]) (And.intro ?_ (And.intro (by first | rfl | exact shape_prs (by simp) | exact shape_ints (by simp) | exact shape_odvs (by simp)) ?_))
  · exact one_ints _ rfl rfl (by exact NEq.int w1)
  repeat' (first | refine vcI ?_ | refine And.intro ?_ ?_ | (intro hq; (try simp at hq); (try (exfalso; omega)); (try (revert hq; intro))))
  refine Exists.intro (oints [(i : Int) + 1]) (And.intro ?_ (And.intro (by first | rfl | exact shape_prs (by simp) | exact shape_ints (by simp) | exact shape_odvs (by simp)) ?_))
  · exact one_ints _ rfl rfl (.refl _)
  repeat' (first | refine vcI ?_ | refine And.intro ?_ ?_ | (intro hq; (try simp at hq); (try (exfalso; omega)); (try (revert hq; intro))))
  refine CallS.onA (L0 := [((1, 27), ⟨_, oints [(i : Int) + 1]⟩)]) (M := _) (sort_at rfl (sort_spec [(i : Int) + 1] (by simp) (1, 27) _ _ _)) (fun r => rfl) ?_
  rintro x L' nv' ⟨rfl, rfl⟩
  rw [sortI_one]
  repeat' (first | refine vcI ?_ | refine And.intro ?_ ?_ | (intro hq; (try simp at hq); (try (exfalso; omega)); (try (revert hq; intro))))
  refine CallS.onA (L0 := [((1, 27), ⟨_, oints [(i : Int) + 1]⟩)]) (M := _) (compact1_27 ((i : Int) + 1) _ _ _) (fun r => rfl) ?_
  rintro x L' nv' ⟨rfl, rfl⟩
  repeat' (first | refine vcI ?_ | refine And.intro ?_ ?_ | (intro hq; (try simp at hq); (try (exfalso; omega)); (try (revert hq; intro))))
  exact keepS_pre rfl rfl

theorem nexts_2 (o : DO) (lv : PV) (i : Nat) (hi : i < o.irs.length) (hil : o.irs.length ≤ 6000) (hop : (o.irs.getD i default).op = 2) : CallsO Try.prog 46 [codeP o lv, .int .i64 i] (oints (goesL (o.irs.getD i default) i ++ padL (o.irs.getD i default) i)) (fun id ver => .ref id ver [] 1 0 (goesL (o.irs.getD i default) i).length) := by
  have hop1 : (o.irs[i]?.getD default).op = 2 := hop
  have hop2 : (o.irs.getD (i : Int).toNat default).op = 2 := hop
  have w1 : IntKind.i64.wrap ((i : Int) + 1) = (i : Int) + 1 := wrapI (by omega)
  have e1 : goesL (o.irs.getD i default) i = [(i : Int) + 1] := by simp only [goesL, hop]; simp
  have e2 : padL (o.irs.getD i default) i = [] := by simp only [padL, hop]; simp
  rw [e1, e2]
  refine callsO_ofS mx Try.call46 Try.func46 rfl Try.ntmps46 Try.results46 (by kernel_rfl) (by simp) fun lo => ?_
  repeat' (first | refine vcI ?_ | refine And.intro ?_ ?_ | (intro hq; (try simp at hq); (try (exfalso; omega)); (try (revert hq; intro))))
  · rw [hop2]; decide
  · rw [cRow]; decide
  · rw [hop2]; rfl
  · rw [List.length_map, List.length_range, cRow]; decide
  rw [hop2]
  repeat' (first | refine vcI ?_ | refine And.intro ?_ ?_ | (intro hq; (try simp at hq); (try (exfalso; omega)); (try (revert hq; intro))))
  refine Exists.intro (oints [(i : Int) + 1]) (And.intro ?_ (And.intro (by first | rfl | exact shape_prs (by simp) | exact shape_ints (by simp) | exact shape_odvs (by simp)) ?_))
  · exact one_ints _ rfl rfl (by exact NEq.int w1)
  repeat' (first | refine vcI ?_ | refine And.intro ?_ ?_ | (intro hq; (try simp at hq); (try (exfalso; omega)); (try (revert hq; intro))))
  refine Exists.intro (oints [(i : Int) + 1]) (And.intro ?_ (And.intro (by first | rfl | exact shape_prs (by simp) | exact shape_ints (by simp) | exact shape_odvs (by simp)) ?_))
  · exact one_ints _ rfl rfl (.refl _)
  repeat' (first | refine vcI ?_ | refine And.intro ?_ ?_ | (intro hq; (try simp at hq); (try (exfalso; omega)); (try (revert hq; intro))))
  refine CallS.onA (L0 := [((1, 27), ⟨_, oints [(i : Int) + 1]⟩)]) (M := _) (sort_at rfl (sort_spec [(i : Int) + 1] (by simp) (1, 27) _ _ _)) (fun r => rfl) ?_
  rintro x L' nv' ⟨rfl, rfl⟩
  rw [sortI_one]
  repeat' (first | refine vcI ?_ | refine And.intro ?_ ?_ | (intro hq; (try simp at hq); (try (exfalso; omega)); (try (revert hq; intro))))
  refine CallS.onA (L0 := [((1, 27), ⟨_, oints [(i : Int) + 1]⟩)]) (M := _) (compact1_27 ((i : Int) + 1) _ _ _) (fun r => rfl) ?_
  rintro x L' nv' ⟨rfl, rfl⟩
  repeat' (first | refine vcI ?_ | refine And.intro ?_ ?_ | (intro hq; (try simp at hq); (try (exfalso; omega)); (try (revert hq; intro))))
  exact keepS_pre rfl rfl

theorem nexts_3 (o : DO) (lv : PV) (i : Nat) (hi : i < o.irs.length) (hil : o.irs.length ≤ 6000) (hop : (o.irs.getD i default).op = 3) : CallsO Try.prog 46 [codeP o lv, .int .i64 i] (oints (goesL (o.irs.getD i default) i ++ padL (o.irs.getD i default) i)) (fun id ver => .ref id ver [] 1 0 (goesL (o.irs.getD i default) i).length) := by
  have hop1 : (o.irs[i]?.getD default).op = 3 := hop
  have hop2 : (o.irs.getD (i : Int).toNat default).op = 3 := hop
  have w1 : IntKind.i64.wrap ((i : Int) + 1) = (i : Int) + 1 := wrapI (by omega)
  refine callsO_ofS mx Try.call46 Try.func46 rfl Try.ntmps46 Try.results46 (by kernel_rfl) (by simp) fun lo => ?_
  repeat' (first | refine vcI ?_ | refine And.intro ?_ ?_ | (intro hq; (try simp at hq); (try (exfalso; omega)); (try (revert hq; intro))))
  · rw [hop2]; decide
  · rw [cRow]; decide
  · rw [hop2]; rfl
  · rw [List.length_map, List.length_range, cRow]; decide
  rw [hop2]
  repeat' (first | refine vcI ?_ | refine And.intro ?_ ?_ | (intro hq; (try simp at hq); (try (exfalso; omega)); (try (revert hq; intro))))
  refine Exists.intro (oints [(i : Int) + 1]) (And.intro ?_ (And.intro (by first | rfl | exact shape_prs (by simp) | exact shape_ints (by simp) | exact shape_odvs (by simp)) ?_))
  · exact one_ints _ rfl rfl (by exact NEq.int w1)
  repeat' (first | refine vcI ?_ | refine And.intro ?_ ?_ | (intro hq; (try simp at hq); (try (exfalso; omega)); (try (revert hq; intro))))
  refine Exists.intro (oints [(i : Int) + 1]) (And.intro ?_ (And.intro (by first | rfl | exact shape_prs (by simp) | exact shape_ints (by simp) | exact shape_odvs (by simp)) ?_))
  · exact one_ints _ rfl rfl (.refl _)
  repeat' (first | refine vcI ?_ | refine And.intro ?_ ?_ | (intro hq; (try simp at hq); (try (exfalso; omega)); (try (revert hq; intro))))
  refine Exists.intro (oints [(o.irs.getD i default).n]) (And.intro ?_ (And.intro (by first | rfl | exact shape_prs (by simp) | exact shape_ints (by simp) | exact shape_odvs (by simp)) ?_))
  · exact one_ints _ rfl rfl (.refl _)
  repeat' (first | refine vcI ?_ | refine And.intro ?_ ?_ | (intro hq; (try simp at hq); (try (exfalso; omega)); (try (revert hq; intro))))
  refine Exists.intro (oints [(i : Int) + 1, (o.irs.getD i default).n]) (And.intro ?_ (And.intro (by first | rfl | exact shape_prs (by simp) | exact shape_ints (by simp) | exact shape_odvs (by simp)) ?_))
  · exact two_ints _ _ rfl rfl (.refl _) (.refl _)
  repeat' (first | refine vcI ?_ | refine And.intro ?_ ?_ | (intro hq; (try simp at hq); (try (exfalso; omega)); (try (revert hq; intro))))
  refine CallS.onA (L0 := [((1, 27), ⟨_, oints [(i : Int) + 1, (o.irs.getD i default).n]⟩)]) (M := _) (sort_at rfl (sort_spec [(i : Int) + 1, (o.irs.getD i default).n] (by simp) (1, 27) _ _ _)) (fun r => rfl) ?_
  rintro x L' nv' ⟨rfl, rfl⟩
  rcases (by omega : (o.irs.getD i default).n = (i : Int) + 1 ∨ (o.irs.getD i default).n < (i : Int) + 1 ∨ (i : Int) + 1 < (o.irs.getD i default).n) with hn | hn | hn
  · have e1 : goesL (o.irs.getD i default) i = [(i : Int) + 1] := by unfold goesL; rw [if_neg (by omega), if_neg (by omega), if_pos (by omega), if_pos hn]
    have e2 : padL (o.irs.getD i default) i = [0] := by unfold padL; rw [if_pos ⟨by omega, hn⟩]
    have es : sortI [(i : Int) + 1, (o.irs.getD i default).n] = [(i : Int) + 1, (i : Int) + 1] := by rw [sortI_two]; rw [hn, if_neg (by omega)]
    rw [e1, e2, es]
    repeat' (first | refine vcI ?_ | refine And.intro ?_ ?_ | (intro hq; (try simp at hq); (try (exfalso; omega)); (try (revert hq; intro))))
    refine CallS.onA (L0 := [((1, 27), ⟨_, oints [(i : Int) + 1, (i : Int) + 1]⟩)]) (M := _) (compact2_27 ((i : Int) + 1) ((i : Int) + 1) _ _ _) (fun r => rfl) ?_
    rintro x L' nv' ⟨rfl, rfl⟩
    rw [if_pos rfl, if_pos rfl]
    repeat' (first | refine vcI ?_ | refine And.intro ?_ ?_ | (intro hq; (try simp at hq); (try (exfalso; omega)); (try (revert hq; intro))))
    exact keepS_pre rfl rfl
  · have e1 : goesL (o.irs.getD i default) i = [(o.irs.getD i default).n, (i : Int) + 1] := by unfold goesL; rw [if_neg (by omega), if_neg (by omega), if_pos (by omega), if_neg (by omega), if_pos hn]
    have e2 : padL (o.irs.getD i default) i = [] := by unfold padL; rw [if_neg (fun h => by omega)]
    have es : sortI [(i : Int) + 1, (o.irs.getD i default).n] = [(o.irs.getD i default).n, (i : Int) + 1] := by rw [sortI_two]; rw [if_pos hn]
    rw [e1, e2, es]
    repeat' (first | refine vcI ?_ | refine And.intro ?_ ?_ | (intro hq; (try simp at hq); (try (exfalso; omega)); (try (revert hq; intro))))
    refine CallS.onA (L0 := [((1, 27), ⟨_, oints [(o.irs.getD i default).n, (i : Int) + 1]⟩)]) (M := _) (compact2_27 ((o.irs.getD i default).n) ((i : Int) + 1) _ _ _) (fun r => rfl) ?_
    rintro x L' nv' ⟨rfl, rfl⟩
    rw [if_neg (by omega), if_neg (by omega)]
    repeat' (first | refine vcI ?_ | refine And.intro ?_ ?_ | (intro hq; (try simp at hq); (try (exfalso; omega)); (try (revert hq; intro))))
    exact keepS_pre rfl rfl
  · have e1 : goesL (o.irs.getD i default) i = [(i : Int) + 1, (o.irs.getD i default).n] := by unfold goesL; rw [if_neg (by omega), if_neg (by omega), if_pos (by omega), if_neg (by omega), if_neg (by omega)]
    have e2 : padL (o.irs.getD i default) i = [] := by unfold padL; rw [if_neg (fun h => by omega)]
    have es : sortI [(i : Int) + 1, (o.irs.getD i default).n] = [(i : Int) + 1, (o.irs.getD i default).n] := by rw [sortI_two]; rw [if_neg (by omega)]
    rw [e1, e2, es]
    repeat' (first | refine vcI ?_ | refine And.intro ?_ ?_ | (intro hq; (try simp at hq); (try (exfalso; omega)); (try (revert hq; intro))))
    refine CallS.onA (L0 := [((1, 27), ⟨_, oints [(i : Int) + 1, (o.irs.getD i default).n]⟩)]) (M := _) (compact2_27 ((i : Int) + 1) ((o.irs.getD i default).n) _ _ _) (fun r => rfl) ?_
    rintro x L' nv' ⟨rfl, rfl⟩
    rw [if_neg (by omega), if_neg (by omega)]
    repeat' (first | refine vcI ?_ | refine And.intro ?_ ?_ | (intro hq; (try simp at hq); (try (exfalso; omega)); (try (revert hq; intro))))
    exact keepS_pre rfl rfl

theorem nexts_4 (o : DO) (lv : PV) (i : Nat) (hi : i < o.irs.length) (hil : o.irs.length ≤ 6000) (hop : (o.irs.getD i default).op = 4) : CallsO Try.prog 46 [codeP o lv, .int .i64 i] (oints (goesL (o.irs.getD i default) i ++ padL (o.irs.getD i default) i)) (fun id ver => .ref id ver [] 1 0 (goesL (o.irs.getD i default) i).length) := by
  have hop1 : (o.irs[i]?.getD default).op = 4 := hop
  have hop2 : (o.irs.getD (i : Int).toNat default).op = 4 := hop
  have w1 : IntKind.i64.wrap ((i : Int) + 1) = (i : Int) + 1 := wrapI (by omega)
  have e1 : goesL (o.irs.getD i default) i = [(i : Int) + 1] := by simp only [goesL, hop]; simp
  have e2 : padL (o.irs.getD i default) i = [] := by simp only [padL, hop]; simp
  rw [e1, e2]
  refine callsO_ofS mx Try.call46 Try.func46 rfl Try.ntmps46 Try.results46 (by kernel_rfl) (by simp) fun lo => ?_
  repeat' (first | refine vcI ?_ | refine And.intro ?_ ?_ | (intro hq; (try simp at hq); (try (exfalso; omega)); (try (revert hq; intro))))
  · rw [hop2]; decide
  · rw [cRow]; decide
  · rw [hop2]; rfl
  · rw [List.length_map, List.length_range, cRow]; decide
  rw [hop2]
  repeat' (first | refine vcI ?_ | refine And.intro ?_ ?_ | (intro hq; (try simp at hq); (try (exfalso; omega)); (try (revert hq; intro))))
  refine Exists.intro (oints [(i : Int) + 1]) (And.intro ?_ (And.intro (by first | rfl | exact shape_prs (by simp) | exact shape_ints (by simp) | exact shape_odvs (by simp)) ?_))
  · exact one_ints _ rfl rfl (by exact NEq.int w1)
  repeat' (first | refine vcI ?_ | refine And.intro ?_ ?_ | (intro hq; (try simp at hq); (try (exfalso; omega)); (try (revert hq; intro))))
  refine Exists.intro (oints [(i : Int) + 1]) (And.intro ?_ (And.intro (by first | rfl | exact shape_prs (by simp) | exact shape_ints (by simp) | exact shape_odvs (by simp)) ?_))
  · exact one_ints _ rfl rfl (.refl _)
  repeat' (first | refine vcI ?_ | refine And.intro ?_ ?_ | (intro hq; (try simp at hq); (try (exfalso; omega)); (try (revert hq; intro))))
  refine CallS.onA (L0 := [((1, 27), ⟨_, oints [(i : Int) + 1]⟩)]) (M := _) (sort_at rfl (sort_spec [(i : Int) + 1] (by simp) (1, 27) _ _ _)) (fun r => rfl) ?_
  rintro x L' nv' ⟨rfl, rfl⟩
  rw [sortI_one]
  repeat' (first | refine vcI ?_ | refine And.intro ?_ ?_ | (intro hq; (try simp at hq); (try (exfalso; omega)); (try (revert hq; intro))))
  refine CallS.onA (L0 := [((1, 27), ⟨_, oints [(i : Int) + 1]⟩)]) (M := _) (compact1_27 ((i : Int) + 1) _ _ _) (fun r => rfl) ?_
  rintro x L' nv' ⟨rfl, rfl⟩
  repeat' (first | refine vcI ?_ | refine And.intro ?_ ?_ | (intro hq; (try simp at hq); (try (exfalso; omega)); (try (revert hq; intro))))
  exact keepS_pre rfl rfl

theorem nexts_5 (o : DO) (lv : PV) (i : Nat) (hi : i < o.irs.length) (hil : o.irs.length ≤ 6000) (hop : (o.irs.getD i default).op = 5) : CallsO Try.prog 46 [codeP o lv, .int .i64 i] (oints (goesL (o.irs.getD i default) i ++ padL (o.irs.getD i default) i)) (fun id ver => .ref id ver [] 1 0 (goesL (o.irs.getD i default) i).length) := by
  have hop1 : (o.irs[i]?.getD default).op = 5 := hop
  have hop2 : (o.irs.getD (i : Int).toNat default).op = 5 := hop
  have w1 : IntKind.i64.wrap ((i : Int) + 1) = (i : Int) + 1 := wrapI (by omega)
  have e1 : goesL (o.irs.getD i default) i = [(i : Int) + 1] := by simp only [goesL, hop]; simp
  have e2 : padL (o.irs.getD i default) i = [] := by simp only [padL, hop]; simp
  rw [e1, e2]
  refine callsO_ofS mx Try.call46 Try.func46 rfl Try.ntmps46 Try.results46 (by kernel_rfl) (by simp) fun lo => ?_
  repeat' (first | refine vcI ?_ | refine And.intro ?_ ?_ | (intro hq; (try simp at hq); (try (exfalso; omega)); (try (revert hq; intro))))
  · rw [hop2]; decide
  · rw [cRow]; decide
  · rw [hop2]; rfl
  · rw [List.length_map, List.length_range, cRow]; decide
  rw [hop2]
  repeat' (first | refine vcI ?_ | refine And.intro ?_ ?_ | (intro hq; (try simp at hq); (try (exfalso; omega)); (try (revert hq; intro))))
  refine Exists.intro (oints [(i : Int) + 1]) (And.intro ?_ (And.intro (by first | rfl | exact shape_prs (by simp) | exact shape_ints (by simp) | exact shape_odvs (by simp)) ?_))
  · exact one_ints _ rfl rfl (by exact NEq.int w1)
  repeat' (first | refine vcI ?_ | refine And.intro ?_ ?_ | (intro hq; (try simp at hq); (try (exfalso; omega)); (try (revert hq; intro))))
  refine Exists.intro (oints [(i : Int) + 1]) (And.intro ?_ (And.intro (by first | rfl | exact shape_prs (by simp) | exact shape_ints (by simp) | exact shape_odvs (by simp)) ?_))
  · exact one_ints _ rfl rfl (.refl _)
  repeat' (first | refine vcI ?_ | refine And.intro ?_ ?_ | (intro hq; (try simp at hq); (try (exfalso; omega)); (try (revert hq; intro))))
  refine CallS.onA (L0 := [((1, 27), ⟨_, oints [(i : Int) + 1]⟩)]) (M := _) (sort_at rfl (sort_spec [(i : Int) + 1] (by simp) (1, 27) _ _ _)) (fun r => rfl) ?_
  rintro x L' nv' ⟨rfl, rfl⟩
  rw [sortI_one]
  repeat' (first | refine vcI ?_ | refine And.intro ?_ ?_ | (intro hq; (try simp at hq); (try (exfalso; omega)); (try (revert hq; intro))))
  refine CallS.onA (L0 := [((1, 27), ⟨_, oints [(i : Int) + 1]⟩)]) (M := _) (compact1_27 ((i : Int) + 1) _ _ _) (fun r => rfl) ?_
  rintro x L' nv' ⟨rfl, rfl⟩
  repeat' (first | refine vcI ?_ | refine And.intro ?_ ?_ | (intro hq; (try simp at hq); (try (exfalso; omega)); (try (revert hq; intro))))
  exact keepS_pre rfl rfl

theorem nexts_6 (o : DO) (lv : PV) (i : Nat) (hi : i < o.irs.length) (hil : o.irs.length ≤ 6000) (hop : (o.irs.getD i default).op = 6) : CallsO Try.prog 46 [codeP o lv, .int .i64 i] (oints (goesL (o.irs.getD i default) i ++ padL (o.irs.getD i default) i)) (fun id ver => .ref id ver [] 1 0 (goesL (o.irs.getD i default) i).length) := by
  have hop1 : (o.irs[i]?.getD default).op = 6 := hop
  have hop2 : (o.irs.getD (i : Int).toNat default).op = 6 := hop
  have w1 : IntKind.i64.wrap ((i : Int) + 1) = (i : Int) + 1 := wrapI (by omega)
  refine callsO_ofS mx Try.call46 Try.func46 rfl Try.ntmps46 Try.results46 (by kernel_rfl) (by simp) fun lo => ?_
  repeat' (first | refine vcI ?_ | refine And.intro ?_ ?_ | (intro hq; (try simp at hq); (try (exfalso; omega)); (try (revert hq; intro))))
  · rw [hop2]; decide
  · rw [cRow]; decide
  · rw [hop2]; rfl
  · rw [List.length_map, List.length_range, cRow]; decide
  rw [hop2]
  repeat' (first | refine vcI ?_ | refine And.intro ?_ ?_ | (intro hq; (try simp at hq); (try (exfalso; omega)); (try (revert hq; intro))))
  refine Exists.intro (oints [(i : Int) + 1]) (And.intro ?_ (And.intro (by first | rfl | exact shape_prs (by simp) | exact shape_ints (by simp) | exact shape_odvs (by simp)) ?_))
  · exact one_ints _ rfl rfl (by exact NEq.int w1)
  repeat' (first | refine vcI ?_ | refine And.intro ?_ ?_ | (intro hq; (try simp at hq); (try (exfalso; omega)); (try (revert hq; intro))))
  refine Exists.intro (oints [(i : Int) + 1]) (And.intro ?_ (And.intro (by first | rfl | exact shape_prs (by simp) | exact shape_ints (by simp) | exact shape_odvs (by simp)) ?_))
  · exact one_ints _ rfl rfl (.refl _)
  repeat' (first | refine vcI ?_ | refine And.intro ?_ ?_ | (intro hq; (try simp at hq); (try (exfalso; omega)); (try (revert hq; intro))))
  refine Exists.intro (oints [(o.irs.getD i default).n]) (And.intro ?_ (And.intro (by first | rfl | exact shape_prs (by simp) | exact shape_ints (by simp) | exact shape_odvs (by simp)) ?_))
  · exact one_ints _ rfl rfl (.refl _)
  repeat' (first | refine vcI ?_ | refine And.intro ?_ ?_ | (intro hq; (try simp at hq); (try (exfalso; omega)); (try (revert hq; intro))))
  refine Exists.intro (oints [(i : Int) + 1, (o.irs.getD i default).n]) (And.intro ?_ (And.intro (by first | rfl | exact shape_prs (by simp) | exact shape_ints (by simp) | exact shape_odvs (by simp)) ?_))
  · exact two_ints _ _ rfl rfl (.refl _) (.refl _)
  repeat' (first | refine vcI ?_ | refine And.intro ?_ ?_ | (intro hq; (try simp at hq); (try (exfalso; omega)); (try (revert hq; intro))))
  refine CallS.onA (L0 := [((1, 27), ⟨_, oints [(i : Int) + 1, (o.irs.getD i default).n]⟩)]) (M := _) (sort_at rfl (sort_spec [(i : Int) + 1, (o.irs.getD i default).n] (by simp) (1, 27) _ _ _)) (fun r => rfl) ?_
  rintro x L' nv' ⟨rfl, rfl⟩
  rcases (by omega : (o.irs.getD i default).n = (i : Int) + 1 ∨ (o.irs.getD i default).n < (i : Int) + 1 ∨ (i : Int) + 1 < (o.irs.getD i default).n) with hn | hn | hn
  · have e1 : goesL (o.irs.getD i default) i = [(i : Int) + 1] := by unfold goesL; rw [if_neg (by omega), if_neg (by omega), if_pos (by omega), if_pos hn]
    have e2 : padL (o.irs.getD i default) i = [0] := by unfold padL; rw [if_pos ⟨by omega, hn⟩]
    have es : sortI [(i : Int) + 1, (o.irs.getD i default).n] = [(i : Int) + 1, (i : Int) + 1] := by rw [sortI_two]; rw [hn, if_neg (by omega)]
    rw [e1, e2, es]
    repeat' (first | refine vcI ?_ | refine And.intro ?_ ?_ | (intro hq; (try simp at hq); (try (exfalso; omega)); (try (revert hq; intro))))
    refine CallS.onA (L0 := [((1, 27), ⟨_, oints [(i : Int) + 1, (i : Int) + 1]⟩)]) (M := _) (compact2_27 ((i : Int) + 1) ((i : Int) + 1) _ _ _) (fun r => rfl) ?_
    rintro x L' nv' ⟨rfl, rfl⟩
    rw [if_pos rfl, if_pos rfl]
    repeat' (first | refine vcI ?_ | refine And.intro ?_ ?_ | (intro hq; (try simp at hq); (try (exfalso; omega)); (try (revert hq; intro))))
    exact keepS_pre rfl rfl
  · have e1 : goesL (o.irs.getD i default) i = [(o.irs.getD i default).n, (i : Int) + 1] := by unfold goesL; rw [if_neg (by omega), if_neg (by omega), if_pos (by omega), if_neg (by omega), if_pos hn]
    have e2 : padL (o.irs.getD i default) i = [] := by unfold padL; rw [if_neg (fun h => by omega)]
    have es : sortI [(i : Int) + 1, (o.irs.getD i default).n] = [(o.irs.getD i default).n, (i : Int) + 1] := by rw [sortI_two]; rw [if_pos hn]
    rw [e1, e2, es]
    repeat' (first | refine vcI ?_ | refine And.intro ?_ ?_ | (intro hq; (try simp at hq); (try (exfalso; omega)); (try (revert hq; intro))))
    refine CallS.onA (L0 := [((1, 27), ⟨_, oints [(o.irs.getD i default).n, (i : Int) + 1]⟩)]) (M := _) (compact2_27 ((o.irs.getD i default).n) ((i : Int) + 1) _ _ _) (fun r => rfl) ?_
    rintro x L' nv' ⟨rfl, rfl⟩
    rw [if_neg (by omega), if_neg (by omega)]
    repeat' (first | refine vcI ?_ | refine And.intro ?_ ?_ | (intro hq; (try simp at hq); (try (exfalso; omega)); (try (revert hq; intro))))
    exact keepS_pre rfl rfl
  · have e1 : goesL (o.irs.getD i default) i = [(i : Int) + 1, (o.irs.getD i default).n] := by unfold goesL; rw [if_neg (by omega), if_neg (by omega), if_pos (by omega), if_neg (by omega), if_neg (by omega)]
    have e2 : padL (o.irs.getD i default) i = [] := by unfold padL; rw [if_neg (fun h => by omega)]
    have es : sortI [(i : Int) + 1, (o.irs.getD i default).n] = [(i : Int) + 1, (o.irs.getD i default).n] := by rw [sortI_two]; rw [if_neg (by omega)]
    rw [e1, e2, es]
    repeat' (first | refine vcI ?_ | refine And.intro ?_ ?_ | (intro hq; (try simp at hq); (try (exfalso; omega)); (try (revert hq; intro))))
    refine CallS.onA (L0 := [((1, 27), ⟨_, oints [(i : Int) + 1, (o.irs.getD i default).n]⟩)]) (M := _) (compact2_27 ((i : Int) + 1) ((o.irs.getD i default).n) _ _ _) (fun r => rfl) ?_
    rintro x L' nv' ⟨rfl, rfl⟩
    rw [if_neg (by omega), if_neg (by omega)]
    repeat' (first | refine vcI ?_ | refine And.intro ?_ ?_ | (intro hq; (try simp at hq); (try (exfalso; omega)); (try (revert hq; intro))))
    exact keepS_pre rfl rfl

theorem nexts_7 (o : DO) (lv : PV) (i : Nat) (hi : i < o.irs.length) (hil : o.irs.length ≤ 6000) (hop : (o.irs.getD i default).op = 7) : CallsO Try.prog 46 [codeP o lv, .int .i64 i] (oints (goesL (o.irs.getD i default) i ++ padL (o.irs.getD i default) i)) (fun id ver => .ref id ver [] 1 0 (goesL (o.irs.getD i default) i).length) := by
  have hop1 : (o.irs[i]?.getD default).op = 7 := hop
  have hop2 : (o.irs.getD (i : Int).toNat default).op = 7 := hop
  have w1 : IntKind.i64.wrap ((i : Int) + 1) = (i : Int) + 1 := wrapI (by omega)
  have e1 : goesL (o.irs.getD i default) i = [(i : Int) + 1] := by simp only [goesL, hop]; simp
  have e2 : padL (o.irs.getD i default) i = [] := by simp only [padL, hop]; simp
  rw [e1, e2]
  refine callsO_ofS mx Try.call46 Try.func46 rfl Try.ntmps46 Try.results46 (by kernel_rfl) (by simp) fun lo => ?_
  repeat' (first | refine vcI ?_ | refine And.intro ?_ ?_ | (intro hq; (try simp at hq); (try (exfalso; omega)); (try (revert hq; intro))))
  · rw [hop2]; decide
  · rw [cRow]; decide
  · rw [hop2]; rfl
  · rw [List.length_map, List.length_range, cRow]; decide
  rw [hop2]
  repeat' (first | refine vcI ?_ | refine And.intro ?_ ?_ | (intro hq; (try simp at hq); (try (exfalso; omega)); (try (revert hq; intro))))
  refine Exists.intro (oints [(i : Int) + 1]) (And.intro ?_ (And.intro (by first | rfl | exact shape_prs (by simp) | exact shape_ints (by simp) | exact shape_odvs (by simp)) ?_))
  · exact one_ints _ rfl rfl (by exact NEq.int w1)
  repeat' (first | refine vcI ?_ | refine And.intro ?_ ?_ | (intro hq; (try simp at hq); (try (exfalso; omega)); (try (revert hq; intro))))
  refine Exists.intro (oints [(i : Int) + 1]) (And.intro ?_ (And.intro (by first | rfl | exact shape_prs (by simp) | exact shape_ints (by simp) | exact shape_odvs (by simp)) ?_))
  · exact one_ints _ rfl rfl (.refl _)
  repeat' (first | refine vcI ?_ | refine And.intro ?_ ?_ | (intro hq; (try simp at hq); (try (exfalso; omega)); (try (revert hq; intro))))
  refine CallS.onA (L0 := [((1, 27), ⟨_, oints [(i : Int) + 1]⟩)]) (M := _) (sort_at rfl (sort_spec [(i : Int) + 1] (by simp) (1, 27) _ _ _)) (fun r => rfl) ?_
  rintro x L' nv' ⟨rfl, rfl⟩
  rw [sortI_one]
  repeat' (first | refine vcI ?_ | refine And.intro ?_ ?_ | (intro hq; (try simp at hq); (try (exfalso; omega)); (try (revert hq; intro))))
  refine CallS.onA (L0 := [((1, 27), ⟨_, oints [(i : Int) + 1]⟩)]) (M := _) (compact1_27 ((i : Int) + 1) _ _ _) (fun r => rfl) ?_
  rintro x L' nv' ⟨rfl, rfl⟩
  repeat' (first | refine vcI ?_ | refine And.intro ?_ ?_ | (intro hq; (try simp at hq); (try (exfalso; omega)); (try (revert hq; intro))))
  exact keepS_pre rfl rfl

theorem nexts_8 (o : DO) (lv : PV) (i : Nat) (hi : i < o.irs.length) (hil : o.irs.length ≤ 6000) (hop : (o.irs.getD i default).op = 8) : CallsO Try.prog 46 [codeP o lv, .int .i64 i] (oints (goesL (o.irs.getD i default) i ++ padL (o.irs.getD i default) i)) (fun id ver => .ref id ver [] 1 0 (goesL (o.irs.getD i default) i).length) := by
  have hop1 : (o.irs[i]?.getD default).op = 8 := hop
  have hop2 : (o.irs.getD (i : Int).toNat default).op = 8 := hop
  have w1 : IntKind.i64.wrap ((i : Int) + 1) = (i : Int) + 1 := wrapI (by omega)
  have e1 : goesL (o.irs.getD i default) i = [(i : Int) + 1] := by simp only [goesL, hop]; simp
  have e2 : padL (o.irs.getD i default) i = [] := by simp only [padL, hop]; simp
  rw [e1, e2]
  refine callsO_ofS mx Try.call46 Try.func46 rfl Try.ntmps46 Try.results46 (by kernel_rfl) (by simp) fun lo => ?_
  repeat' (first | refine vcI ?_ | refine And.intro ?_ ?_ | (intro hq; (try simp at hq); (try (exfalso; omega)); (try (revert hq; intro))))
  · rw [hop2]; decide
  · rw [cRow]; decide
  · rw [hop2]; rfl
  · rw [List.length_map, List.length_range, cRow]; decide
  rw [hop2]
  repeat' (first | refine vcI ?_ | refine And.intro ?_ ?_ | (intro hq; (try simp at hq); (try (exfalso; omega)); (try (revert hq; intro))))
  refine Exists.intro (oints [(i : Int) + 1]) (And.intro ?_ (And.intro (by first | rfl | exact shape_prs (by simp) | exact shape_ints (by simp) | exact shape_odvs (by simp)) ?_))
  · exact one_ints _ rfl rfl (by exact NEq.int w1)
  repeat' (first | refine vcI ?_ | refine And.intro ?_ ?_ | (intro hq; (try simp at hq); (try (exfalso; omega)); (try (revert hq; intro))))
  refine Exists.intro (oints [(i : Int) + 1]) (And.intro ?_ (And.intro (by first | rfl | exact shape_prs (by simp) | exact shape_ints (by simp) | exact shape_odvs (by simp)) ?_))
  · exact one_ints _ rfl rfl (.refl _)
  repeat' (first | refine vcI ?_ | refine And.intro ?_ ?_ | (intro hq; (try simp at hq); (try (exfalso; omega)); (try (revert hq; intro))))
  refine CallS.onA (L0 := [((1, 27), ⟨_, oints [(i : Int) + 1]⟩)]) (M := _) (sort_at rfl (sort_spec [(i : Int) + 1] (by simp) (1, 27) _ _ _)) (fun r => rfl) ?_
  rintro x L' nv' ⟨rfl, rfl⟩
  rw [sortI_one]
  repeat' (first | refine vcI ?_ | refine And.intro ?_ ?_ | (intro hq; (try simp at hq); (try (exfalso; omega)); (try (revert hq; intro))))
  refine CallS.onA (L0 := [((1, 27), ⟨_, oints [(i : Int) + 1]⟩)]) (M := _) (compact1_27 ((i : Int) + 1) _ _ _) (fun r => rfl) ?_
  rintro x L' nv' ⟨rfl, rfl⟩
  repeat' (first | refine vcI ?_ | refine And.intro ?_ ?_ | (intro hq; (try simp at hq); (try (exfalso; omega)); (try (revert hq; intro))))
  exact keepS_pre rfl rfl

theorem nexts_9 (o : DO) (lv : PV) (i : Nat) (hi : i < o.irs.length) (hil : o.irs.length ≤ 6000) (hop : (o.irs.getD i default).op = 9) : CallsO Try.prog 46 [codeP o lv, .int .i64 i] (oints (goesL (o.irs.getD i default) i ++ padL (o.irs.getD i default) i)) (fun id ver => .ref id ver [] 1 0 (goesL (o.irs.getD i default) i).length) := by
  have hop1 : (o.irs[i]?.getD default).op = 9 := hop
  have hop2 : (o.irs.getD (i : Int).toNat default).op = 9 := hop
  have w1 : IntKind.i64.wrap ((i : Int) + 1) = (i : Int) + 1 := wrapI (by omega)
  have e1 : goesL (o.irs.getD i default) i = [(o.irs.getD i default).n] := by simp only [goesL, hop]; simp
  have e2 : padL (o.irs.getD i default) i = [] := by simp only [padL, hop]; simp
  rw [e1, e2]
  refine callsO_ofS mx Try.call46 Try.func46 rfl Try.ntmps46 Try.results46 (by kernel_rfl) (by simp) fun lo => ?_
  repeat' (first | refine vcI ?_ | refine And.intro ?_ ?_ | (intro hq; (try simp at hq); (try (exfalso; omega)); (try (revert hq; intro))))
  · rw [hop2]; decide
  · rw [cRow]; decide
  · rw [hop2]; rfl
  · rw [List.length_map, List.length_range, cRow]; decide
  rw [hop2]
  repeat' (first | refine vcI ?_ | refine And.intro ?_ ?_ | (intro hq; (try simp at hq); (try (exfalso; omega)); (try (revert hq; intro))))
  refine Exists.intro (oints [(o.irs.getD i default).n]) (And.intro ?_ (And.intro (by first | rfl | exact shape_prs (by simp) | exact shape_ints (by simp) | exact shape_odvs (by simp)) ?_))
  · exact one_ints _ rfl rfl (.refl _)
  repeat' (first | refine vcI ?_ | refine And.intro ?_ ?_ | (intro hq; (try simp at hq); (try (exfalso; omega)); (try (revert hq; intro))))
  refine Exists.intro (oints [(o.irs.getD i default).n]) (And.intro ?_ (And.intro (by first | rfl | exact shape_prs (by simp) | exact shape_ints (by simp) | exact shape_odvs (by simp)) ?_))
  · exact one_ints _ rfl rfl (.refl _)
  repeat' (first | refine vcI ?_ | refine And.intro ?_ ?_ | (intro hq; (try simp at hq); (try (exfalso; omega)); (try (revert hq; intro))))
  refine CallS.onA (L0 := [((1, 41), ⟨_, oints [(o.irs.getD i default).n]⟩)]) (M := _) (sort_at rfl (sort_spec [(o.irs.getD i default).n] (by simp) (1, 41) _ _ _)) (fun r => rfl) ?_
  rintro x L' nv' ⟨rfl, rfl⟩
  rw [sortI_one]
  repeat' (first | refine vcI ?_ | refine And.intro ?_ ?_ | (intro hq; (try simp at hq); (try (exfalso; omega)); (try (revert hq; intro))))
  refine CallS.onA (L0 := [((1, 41), ⟨_, oints [(o.irs.getD i default).n]⟩)]) (M := _) (compact1_41 (o.irs.getD i default).n _ _ _) (fun r => rfl) ?_
  rintro x L' nv' ⟨rfl, rfl⟩
  repeat' (first | refine vcI ?_ | refine And.intro ?_ ?_ | (intro hq; (try simp at hq); (try (exfalso; omega)); (try (revert hq; intro))))
  exact keepS_pre rfl rfl

theorem nexts_10 (o : DO) (lv : PV) (i : Nat) (hi : i < o.irs.length) (hil : o.irs.length ≤ 6000) (hop : (o.irs.getD i default).op = 10) : CallsO Try.prog 46 [codeP o lv, .int .i64 i] (oints (goesL (o.irs.getD i default) i ++ padL (o.irs.getD i default) i)) (fun id ver => .ref id ver [] 1 0 (goesL (o.irs.getD i default) i).length) := by
  have hop1 : (o.irs[i]?.getD default).op = 10 := hop
  have hop2 : (o.irs.getD (i : Int).toNat default).op = 10 := hop
  have w1 : IntKind.i64.wrap ((i : Int) + 1) = (i : Int) + 1 := wrapI (by omega)
  have e1 : goesL (o.irs.getD i default) i = [] := by simp only [goesL, hop]; simp
  have e2 : padL (o.irs.getD i default) i = [] := by simp only [padL, hop]; simp
  rw [e1, e2]
  refine callsO_ofS mx Try.call46 Try.func46 rfl Try.ntmps46 Try.results46 (by kernel_rfl) (by simp) fun lo => ?_
  repeat' (first | refine vcI ?_ | refine And.intro ?_ ?_ | (intro hq; (try simp at hq); (try (exfalso; omega)); (try (revert hq; intro))))
  · rw [hop2]; decide
  · rw [cRow]; decide
  · rw [hop2]; rfl
  · rw [List.length_map, List.length_range, cRow]; decide
  rw [hop2]
  repeat' (first | refine vcI ?_ | refine And.intro ?_ ?_ | (intro hq; (try simp at hq); (try (exfalso; omega)); (try (revert hq; intro))))
  refine CallS.frozen (.tup []) sortNil_spec (plainAll rfl) ?_
  repeat' (first | refine vcI ?_ | refine And.intro ?_ ?_ | (intro hq; (try simp at hq); (try (exfalso; omega)); (try (revert hq; intro))))
  refine CallS.frozen .nils compactNil_spec (plainAll rfl) ?_
  repeat' (first | refine vcI ?_ | refine And.intro ?_ ?_ | (intro hq; (try simp at hq); (try (exfalso; omega)); (try (revert hq; intro))))
  exact keepS_nil

theorem nexts_11 (o : DO) (lv : PV) (i : Nat) (hi : i < o.irs.length) (hil : o.irs.length ≤ 6000) (hop : (o.irs.getD i default).op = 11) : CallsO Try.prog 46 [codeP o lv, .int .i64 i] (oints (goesL (o.irs.getD i default) i ++ padL (o.irs.getD i default) i)) (fun id ver => .ref id ver [] 1 0 (goesL (o.irs.getD i default) i).length) := by
  have hop1 : (o.irs[i]?.getD default).op = 11 := hop
  have hop2 : (o.irs.getD (i : Int).toNat default).op = 11 := hop
  have w1 : IntKind.i64.wrap ((i : Int) + 1) = (i : Int) + 1 := wrapI (by omega)
  have e1 : goesL (o.irs.getD i default) i = [] := by simp only [goesL, hop]; simp
  have e2 : padL (o.irs.getD i default) i = [] := by simp only [padL, hop]; simp
  rw [e1, e2]
  refine callsO_ofS mx Try.call46 Try.func46 rfl Try.ntmps46 Try.results46 (by kernel_rfl) (by simp) fun lo => ?_
  repeat' (first | refine vcI ?_ | refine And.intro ?_ ?_ | (intro hq; (try simp at hq); (try (exfalso; omega)); (try (revert hq; intro))))
  · rw [hop2]; decide
  · rw [cRow]; decide
  · rw [hop2]; rfl
  · rw [List.length_map, List.length_range, cRow]; decide
  rw [hop2]
  repeat' (first | refine vcI ?_ | refine And.intro ?_ ?_ | (intro hq; (try simp at hq); (try (exfalso; omega)); (try (revert hq; intro))))
  refine CallS.frozen (.tup []) sortNil_spec (plainAll rfl) ?_
  repeat' (first | refine vcI ?_ | refine And.intro ?_ ?_ | (intro hq; (try simp at hq); (try (exfalso; omega)); (try (revert hq; intro))))
  refine CallS.frozen .nils compactNil_spec (plainAll rfl) ?_
  repeat' (first | refine vcI ?_ | refine And.intro ?_ ?_ | (intro hq; (try simp at hq); (try (exfalso; omega)); (try (revert hq; intro))))
  exact keepS_nil

theorem nexts_12 (o : DO) (lv : PV) (i : Nat) (hi : i < o.irs.length) (hil : o.irs.length ≤ 6000) (hop : (o.irs.getD i default).op = 12) : CallsO Try.prog 46 [codeP o lv, .int .i64 i] (oints (goesL (o.irs.getD i default) i ++ padL (o.irs.getD i default) i)) (fun id ver => .ref id ver [] 1 0 (goesL (o.irs.getD i default) i).length) := by
  have hop1 : (o.irs[i]?.getD default).op = 12 := hop
  have hop2 : (o.irs.getD (i : Int).toNat default).op = 12 := hop
  have w1 : IntKind.i64.wrap ((i : Int) + 1) = (i : Int) + 1 := wrapI (by omega)
  have e1 : goesL (o.irs.getD i default) i = [(i : Int) + 1] := by simp only [goesL, hop]; simp
  have e2 : padL (o.irs.getD i default) i = [] := by simp only [padL, hop]; simp
  rw [e1, e2]
  refine callsO_ofS mx Try.call46 Try.func46 rfl Try.ntmps46 Try.results46 (by kernel_rfl) (by simp) fun lo => ?_
  repeat' (first | refine vcI ?_ | refine And.intro ?_ ?_ | (intro hq; (try simp at hq); (try (exfalso; omega)); (try (revert hq; intro))))
  · rw [hop2]; decide
  · rw [cRow]; decide
  · rw [hop2]; rfl
  · rw [List.length_map, List.length_range, cRow]; decide
  rw [hop2]
  repeat' (first | refine vcI ?_ | refine And.intro ?_ ?_ | (intro hq; (try simp at hq); (try (exfalso; omega)); (try (revert hq; intro))))
  refine Exists.intro (oints [(i : Int) + 1]) (And.intro ?_ (And.intro (by first | rfl | exact shape_prs (by simp) | exact shape_ints (by simp) | exact shape_odvs (by simp)) ?_))
  · exact one_ints _ rfl rfl (by exact NEq.int w1)
  repeat' (first | refine vcI ?_ | refine And.intro ?_ ?_ | (intro hq; (try simp at hq); (try (exfalso; omega)); (try (revert hq; intro))))
  refine Exists.intro (oints [(i : Int) + 1]) (And.intro ?_ (And.intro (by first | rfl | exact shape_prs (by simp) | exact shape_ints (by simp) | exact shape_odvs (by simp)) ?_))
  · exact one_ints _ rfl rfl (.refl _)
  repeat' (first | refine vcI ?_ | refine And.intro ?_ ?_ | (intro hq; (try simp at hq); (try (exfalso; omega)); (try (revert hq; intro))))
  refine CallS.onA (L0 := [((1, 27), ⟨_, oints [(i : Int) + 1]⟩)]) (M := _) (sort_at rfl (sort_spec [(i : Int) + 1] (by simp) (1, 27) _ _ _)) (fun r => rfl) ?_
  rintro x L' nv' ⟨rfl, rfl⟩
  rw [sortI_one]
  repeat' (first | refine vcI ?_ | refine And.intro ?_ ?_ | (intro hq; (try simp at hq); (try (exfalso; omega)); (try (revert hq; intro))))
  refine CallS.onA (L0 := [((1, 27), ⟨_, oints [(i : Int) + 1]⟩)]) (M := _) (compact1_27 ((i : Int) + 1) _ _ _) (fun r => rfl) ?_
  rintro x L' nv' ⟨rfl, rfl⟩
  repeat' (first | refine vcI ?_ | refine And.intro ?_ ?_ | (intro hq; (try simp at hq); (try (exfalso; omega)); (try (revert hq; intro))))
  exact keepS_pre rfl rfl

theorem nexts_13 (o : DO) (lv : PV) (i : Nat) (hi : i < o.irs.length) (hil : o.irs.length ≤ 6000) (hop : (o.irs.getD i default).op = 13) : CallsO Try.prog 46 [codeP o lv, .int .i64 i] (oints (goesL (o.irs.getD i default) i ++ padL (o.irs.getD i default) i)) (fun id ver => .ref id ver [] 1 0 (goesL (o.irs.getD i default) i).length) := by
  have hop1 : (o.irs[i]?.getD default).op = 13 := hop
  have hop2 : (o.irs.getD (i : Int).toNat default).op = 13 := hop
  have w1 : IntKind.i64.wrap ((i : Int) + 1) = (i : Int) + 1 := wrapI (by omega)
  have e1 : goesL (o.irs.getD i default) i = [(i : Int) + 1] := by simp only [goesL, hop]; simp
  have e2 : padL (o.irs.getD i default) i = [] := by simp only [padL, hop]; simp
  rw [e1, e2]
  refine callsO_ofS mx Try.call46 Try.func46 rfl Try.ntmps46 Try.results46 (by kernel_rfl) (by simp) fun lo => ?_
  repeat' (first | refine vcI ?_ | refine And.intro ?_ ?_ | (intro hq; (try simp at hq); (try (exfalso; omega)); (try (revert hq; intro))))
  · rw [hop2]; decide
  · rw [cRow]; decide
  · rw [hop2]; rfl
  · rw [List.length_map, List.length_range, cRow]; decide
  rw [hop2]
  repeat' (first | refine vcI ?_ | refine And.intro ?_ ?_ | (intro hq; (try simp at hq); (try (exfalso; omega)); (try (revert hq; intro))))
  refine Exists.intro (oints [(i : Int) + 1]) (And.intro ?_ (And.intro (by first | rfl | exact shape_prs (by simp) | exact shape_ints (by simp) | exact shape_odvs (by simp)) ?_))
  · exact one_ints _ rfl rfl (by exact NEq.int w1)
  repeat' (first | refine vcI ?_ | refine And.intro ?_ ?_ | (intro hq; (try simp at hq); (try (exfalso; omega)); (try (revert hq; intro))))
  refine Exists.intro (oints [(i : Int) + 1]) (And.intro ?_ (And.intro (by first | rfl | exact shape_prs (by simp) | exact shape_ints (by simp) | exact shape_odvs (by simp)) ?_))
  · exact one_ints _ rfl rfl (.refl _)
  repeat' (first | refine vcI ?_ | refine And.intro ?_ ?_ | (intro hq; (try simp at hq); (try (exfalso; omega)); (try (revert hq; intro))))
  refine CallS.onA (L0 := [((1, 27), ⟨_, oints [(i : Int) + 1]⟩)]) (M := _) (sort_at rfl (sort_spec [(i : Int) + 1] (by simp) (1, 27) _ _ _)) (fun r => rfl) ?_
  rintro x L' nv' ⟨rfl, rfl⟩
  rw [sortI_one]
  repeat' (first | refine vcI ?_ | refine And.intro ?_ ?_ | (intro hq; (try simp at hq); (try (exfalso; omega)); (try (revert hq; intro))))
  refine CallS.onA (L0 := [((1, 27), ⟨_, oints [(i : Int) + 1]⟩)]) (M := _) (compact1_27 ((i : Int) + 1) _ _ _) (fun r => rfl) ?_
  rintro x L' nv' ⟨rfl, rfl⟩
  repeat' (first | refine vcI ?_ | refine And.intro ?_ ?_ | (intro hq; (try simp at hq); (try (exfalso; omega)); (try (revert hq; intro))))
  exact keepS_pre rfl rfl

theorem nexts_14 (o : DO) (lv : PV) (i : Nat) (hi : i < o.irs.length) (hil : o.irs.length ≤ 6000) (hop : (o.irs.getD i default).op = 14) : CallsO Try.prog 46 [codeP o lv, .int .i64 i] (oints (goesL (o.irs.getD i default) i ++ padL (o.irs.getD i default) i)) (fun id ver => .ref id ver [] 1 0 (goesL (o.irs.getD i default) i).length) := by
  have hop1 : (o.irs[i]?.getD default).op = 14 := hop
  have hop2 : (o.irs.getD (i : Int).toNat default).op = 14 := hop
  have w1 : IntKind.i64.wrap ((i : Int) + 1) = (i : Int) + 1 := wrapI (by omega)
  have e1 : goesL (o.irs.getD i default) i = [(i : Int) + 1] := by simp only [goesL, hop]; simp
  have e2 : padL (o.irs.getD i default) i = [] := by simp only [padL, hop]; simp
  rw [e1, e2]
  refine callsO_ofS mx Try.call46 Try.func46 rfl Try.ntmps46 Try.results46 (by kernel_rfl) (by simp) fun lo => ?_
  repeat' (first | refine vcI ?_ | refine And.intro ?_ ?_ | (intro hq; (try simp at hq); (try (exfalso; omega)); (try (revert hq; intro))))
  · rw [hop2]; decide
  · rw [cRow]; decide
  · rw [hop2]; rfl
  · rw [List.length_map, List.length_range, cRow]; decide
  rw [hop2]
  repeat' (first | refine vcI ?_ | refine And.intro ?_ ?_ | (intro hq; (try simp at hq); (try (exfalso; omega)); (try (revert hq; intro))))
  refine Exists.intro (oints [(i : Int) + 1]) (And.intro ?_ (And.intro (by first | rfl | exact shape_prs (by simp) | exact shape_ints (by simp) | exact shape_odvs (by simp)) ?_))
  · exact one_ints _ rfl rfl (by exact NEq.int w1)
  repeat' (first | refine vcI ?_ | refine And.intro ?_ ?_ | (intro hq; (try simp at hq); (try (exfalso; omega)); (try (revert hq; intro))))
  refine Exists.intro (oints [(i : Int) + 1]) (And.intro ?_ (And.intro (by first | rfl | exact shape_prs (by simp) | exact shape_ints (by simp) | exact shape_odvs (by simp)) ?_))
  · exact one_ints _ rfl rfl (.refl _)
  repeat' (first | refine vcI ?_ | refine And.intro ?_ ?_ | (intro hq; (try simp at hq); (try (exfalso; omega)); (try (revert hq; intro))))
  refine CallS.onA (L0 := [((1, 27), ⟨_, oints [(i : Int) + 1]⟩)]) (M := _) (sort_at rfl (sort_spec [(i : Int) + 1] (by simp) (1, 27) _ _ _)) (fun r => rfl) ?_
  rintro x L' nv' ⟨rfl, rfl⟩
  rw [sortI_one]
  repeat' (first | refine vcI ?_ | refine And.intro ?_ ?_ | (intro hq; (try simp at hq); (try (exfalso; omega)); (try (revert hq; intro))))
  refine CallS.onA (L0 := [((1, 27), ⟨_, oints [(i : Int) + 1]⟩)]) (M := _) (compact1_27 ((i : Int) + 1) _ _ _) (fun r => rfl) ?_
  rintro x L' nv' ⟨rfl, rfl⟩
  repeat' (first | refine vcI ?_ | refine And.intro ?_ ?_ | (intro hq; (try simp at hq); (try (exfalso; omega)); (try (revert hq; intro))))
  exact keepS_pre rfl rfl

theorem nexts_15 (o : DO) (lv : PV) (i : Nat) (hi : i < o.irs.length) (hil : o.irs.length ≤ 6000) (hop : (o.irs.getD i default).op = 15) : CallsO Try.prog 46 [codeP o lv, .int .i64 i] (oints (goesL (o.irs.getD i default) i ++ padL (o.irs.getD i default) i)) (fun id ver => .ref id ver [] 1 0 (goesL (o.irs.getD i default) i).length) := by
  have hop1 : (o.irs[i]?.getD default).op = 15 := hop
  have hop2 : (o.irs.getD (i : Int).toNat default).op = 15 := hop
  have w1 : IntKind.i64.wrap ((i : Int) + 1) = (i : Int) + 1 := wrapI (by omega)
  have e1 : goesL (o.irs.getD i default) i = [(i : Int) + 1] := by simp only [goesL, hop]; simp
  have e2 : padL (o.irs.getD i default) i = [] := by simp only [padL, hop]; simp
  rw [e1, e2]
  refine callsO_ofS mx Try.call46 Try.func46 rfl Try.ntmps46 Try.results46 (by kernel_rfl) (by simp) fun lo => ?_
  repeat' (first | refine vcI ?_ | refine And.intro ?_ ?_ | (intro hq; (try simp at hq); (try (exfalso; omega)); (try (revert hq; intro))))
  · rw [hop2]; decide
  · rw [cRow]; decide
  · rw [hop2]; rfl
  · rw [List.length_map, List.length_range, cRow]; decide
  rw [hop2]
  repeat' (first | refine vcI ?_ | refine And.intro ?_ ?_ | (intro hq; (try simp at hq); (try (exfalso; omega)); (try (revert hq; intro))))
  refine Exists.intro (oints [(i : Int) + 1]) (And.intro ?_ (And.intro (by first | rfl | exact shape_prs (by simp) | exact shape_ints (by simp) | exact shape_odvs (by simp)) ?_))
  · exact one_ints _ rfl rfl (by exact NEq.int w1)
  repeat' (first | refine vcI ?_ | refine And.intro ?_ ?_ | (intro hq; (try simp at hq); (try (exfalso; omega)); (try (revert hq; intro))))
  refine Exists.intro (oints [(i : Int) + 1]) (And.intro ?_ (And.intro (by first | rfl | exact shape_prs (by simp) | exact shape_ints (by simp) | exact shape_odvs (by simp)) ?_))
  · exact one_ints _ rfl rfl (.refl _)
  repeat' (first | refine vcI ?_ | refine And.intro ?_ ?_ | (intro hq; (try simp at hq); (try (exfalso; omega)); (try (revert hq; intro))))
  refine CallS.onA (L0 := [((1, 27), ⟨_, oints [(i : Int) + 1]⟩)]) (M := _) (sort_at rfl (sort_spec [(i : Int) + 1] (by simp) (1, 27) _ _ _)) (fun r => rfl) ?_
  rintro x L' nv' ⟨rfl, rfl⟩
  rw [sortI_one]
  repeat' (first | refine vcI ?_ | refine And.intro ?_ ?_ | (intro hq; (try simp at hq); (try (exfalso; omega)); (try (revert hq; intro))))
  refine CallS.onA (L0 := [((1, 27), ⟨_, oints [(i : Int) + 1]⟩)]) (M := _) (compact1_27 ((i : Int) + 1) _ _ _) (fun r => rfl) ?_
  rintro x L' nv' ⟨rfl, rfl⟩
  repeat' (first | refine vcI ?_ | refine And.intro ?_ ?_ | (intro hq; (try simp at hq); (try (exfalso; omega)); (try (revert hq; intro))))
  exact keepS_pre rfl rfl

theorem nexts_16 (o : DO) (lv : PV) (i : Nat) (hi : i < o.irs.length) (hil : o.irs.length ≤ 6000) (hop : (o.irs.getD i default).op = 16) : CallsO Try.prog 46 [codeP o lv, .int .i64 i] (oints (goesL (o.irs.getD i default) i ++ padL (o.irs.getD i default) i)) (fun id ver => .ref id ver [] 1 0 (goesL (o.irs.getD i default) i).length) := by
  have hop1 : (o.irs[i]?.getD default).op = 16 := hop
  have hop2 : (o.irs.getD (i : Int).toNat default).op = 16 := hop
  have w1 : IntKind.i64.wrap ((i : Int) + 1) = (i : Int) + 1 := wrapI (by omega)
  have e1 : goesL (o.irs.getD i default) i = [(i : Int) + 1] := by simp only [goesL, hop]; simp
  have e2 : padL (o.irs.getD i default) i = [] := by simp only [padL, hop]; simp
  rw [e1, e2]
  refine callsO_ofS mx Try.call46 Try.func46 rfl Try.ntmps46 Try.results46 (by kernel_rfl) (by simp) fun lo => ?_
  repeat' (first | refine vcI ?_ | refine And.intro ?_ ?_ | (intro hq; (try simp at hq); (try (exfalso; omega)); (try (revert hq; intro))))
  · rw [hop2]; decide
  · rw [cRow]; decide
  · rw [hop2]; rfl
  · rw [List.length_map, List.length_range, cRow]; decide
  rw [hop2]
  repeat' (first | refine vcI ?_ | refine And.intro ?_ ?_ | (intro hq; (try simp at hq); (try (exfalso; omega)); (try (revert hq; intro))))
  refine Exists.intro (oints [(i : Int) + 1]) (And.intro ?_ (And.intro (by first | rfl | exact shape_prs (by simp) | exact shape_ints (by simp) | exact shape_odvs (by simp)) ?_))
  · exact one_ints _ rfl rfl (by exact NEq.int w1)
  repeat' (first | refine vcI ?_ | refine And.intro ?_ ?_ | (intro hq; (try simp at hq); (try (exfalso; omega)); (try (revert hq; intro))))
  refine Exists.intro (oints [(i : Int) + 1]) (And.intro ?_ (And.intro (by first | rfl | exact shape_prs (by simp) | exact shape_ints (by simp) | exact shape_odvs (by simp)) ?_))
  · exact one_ints _ rfl rfl (.refl _)
  repeat' (first | refine vcI ?_ | refine And.intro ?_ ?_ | (intro hq; (try simp at hq); (try (exfalso; omega)); (try (revert hq; intro))))
  refine CallS.onA (L0 := [((1, 27), ⟨_, oints [(i : Int) + 1]⟩)]) (M := _) (sort_at rfl (sort_spec [(i : Int) + 1] (by simp) (1, 27) _ _ _)) (fun r => rfl) ?_
  rintro x L' nv' ⟨rfl, rfl⟩
  rw [sortI_one]
  repeat' (first | refine vcI ?_ | refine And.intro ?_ ?_ | (intro hq; (try simp at hq); (try (exfalso; omega)); (try (revert hq; intro))))
  refine CallS.onA (L0 := [((1, 27), ⟨_, oints [(i : Int) + 1]⟩)]) (M := _) (compact1_27 ((i : Int) + 1) _ _ _) (fun r => rfl) ?_
  rintro x L' nv' ⟨rfl, rfl⟩
  repeat' (first | refine vcI ?_ | refine And.intro ?_ ?_ | (intro hq; (try simp at hq); (try (exfalso; omega)); (try (revert hq; intro))))
  exact keepS_pre rfl rfl

theorem nexts_spec (o : DO) (lv : PV) (i : Nat) (hi : i < o.irs.length) (hil : o.irs.length ≤ 6000) (hop : 1 ≤ (o.irs.getD i default).op ∧ (o.irs.getD i default).op ≤ 16) : CallsO Try.prog 46 [codeP o lv, .int .i64 i] (oints (goesL (o.irs.getD i default) i ++ padL (o.irs.getD i default) i)) (fun id ver => .ref id ver [] 1 0 (goesL (o.irs.getD i default) i).length) := by
  rcases (by omega : (o.irs.getD i default).op = 1 ∨ (o.irs.getD i default).op = 2 ∨ (o.irs.getD i default).op = 3 ∨ (o.irs.getD i default).op = 4 ∨ (o.irs.getD i default).op = 5 ∨ (o.irs.getD i default).op = 6 ∨ (o.irs.getD i default).op = 7 ∨ (o.irs.getD i default).op = 8 ∨ (o.irs.getD i default).op = 9 ∨ (o.irs.getD i default).op = 10 ∨ (o.irs.getD i default).op = 11 ∨ (o.irs.getD i default).op = 12 ∨ (o.irs.getD i default).op = 13 ∨ (o.irs.getD i default).op = 14 ∨ (o.irs.getD i default).op = 15 ∨ (o.irs.getD i default).op = 16) with h | h | h | h | h | h | h | h | h | h | h | h | h | h | h | h
  · exact nexts_1 o lv i hi hil h
  · exact nexts_2 o lv i hi hil h
  · exact nexts_3 o lv i hi hil h
  · exact nexts_4 o lv i hi hil h
  · exact nexts_5 o lv i hi hil h
  · exact nexts_6 o lv i hi hil h
  · exact nexts_7 o lv i hi hil h
  · exact nexts_8 o lv i hi hil h
  · exact nexts_9 o lv i hi hil h
  · exact nexts_10 o lv i hi hil h
  · exact nexts_11 o lv i hi hil h
  · exact nexts_12 o lv i hi hil h
  · exact nexts_13 o lv i hi hil h
  · exact nexts_14 o lv i hi hil h
  · exact nexts_15 o lv i hi hil h
  · exact nexts_16 o lv i hi hil h
end Go.Ab
namespace Go.Ab
open Go.Proofs
set_option maxRecDepth 100000
set_option maxHeartbeats 1000000

def two2 (a b : List Int) : PV := .frz 1 2 fun i _ => match i with | 0 => ints a | _ => ints b
theorem Grow_spec (n : Nat) (h0 : 0 < n) (hn : n ≤ 1048576) : CallsO Try.prog 100 [.nils, .int .i64 n] (oints (List.replicate n 0)) (fun id ver => .ref id ver [] 1 0 0) := by
  have w0 : IntKind.i64.wrap (0 - 0) = 0 := rfl
  have w1 : IntKind.i64.wrap ((n : Int) - IntKind.i64.wrap (0 - 0)) = n := by rw [w0]; exact wrapI (by omega)
  have w2 : IntKind.i64.wrap ((n : Int) - IntKind.i64.wrap 0) = n := w1
  have hlen : (List.replicate n (0 : Int)).length = n := List.length_replicate ..
  refine callsO_ofS mx Try.call100 Try.func100 rfl Try.ntmps100 Try.results100 (by kernel_rfl) (by simp) fun lo => ?_
  repeat' (first | refine vcI ?_ | refine And.intro ?_ ?_ | (intro hq; (try simp at hq); (try (exfalso; omega)); (try (revert hq; intro))))
  rw [w1]
  refine Exists.intro (oints (List.replicate n 0)) (And.intro ?_ (And.intro (shape_ints (by rw [hlen]; rfl)) ?_))
  · refine NEq.owns rfl (by rw [hlen]; rfl) fun i o hi ho => ?_
    obtain rfl : o = 0 := by omega
    rw [hlen] at hi
    have : (List.replicate n (0 : Int)).getD i 0 = 0 := by simp [hi]
    rw [this]
    exact .refl _
  repeat' (first | refine vcI ?_ | refine And.intro ?_ ?_ | (intro hq; (try simp at hq); (try (exfalso; omega)); (try (revert hq; intro))))
  exact keepS_pre rfl rfl
theorem Grow0_spec : CallsF Try.prog 100 [.nils, .int .i64 0] .nils := by
  refine callsF_ofS mx Try.call100 Try.func100 rfl Try.ntmps100 Try.results100 (by kernel_rfl) (by simp) fun lo => ?_
  repeat' (first | refine vcI ?_ | refine And.intro ?_ ?_ | (intro hq; (try simp at hq); (try (exfalso; omega)); (try (revert hq; intro))))
  exact .refl _
/-- Concat of two lists, of which one has elements. -/
theorem Concat_spec (a b : List Int) (ha : a.length ≤ 40000) (hb : b.length ≤ 40000) (h0 : 0 < a.length + b.length) : CallsO Try.prog 88 [two2 a b] (oints (a ++ b)) (fun id ver => .ref id ver [] 1 0 (a ++ b).length) := by
  refine callsO_ofS mx Try.call88 Try.func88 rfl Try.ntmps88 Try.results88 (by kernel_rfl) (by simp) fun lo => ?_
  repeat' (first | refine vcI ?_ | refine And.intro ?_ ?_ | (intro hq; (try simp at hq); (try (exfalso; omega)); (try (revert hq; intro))))
  have wa : IntKind.i64.wrap (a.length : Int) = a.length := wrapI (by omega)
  have wb : IntKind.i64.wrap ((a.length : Int) + b.length) = (a.length : Int) + b.length := wrapI (by omega)
  refine loopS2 mx (by decide) (by kernel_rfl) (fun (k z : Nat) => k ≤ 2 ∧ z = (if k = 0 then 0 else if k = 1 then a.length else a.length + b.length)) (fun k z => [(11, .int .i64 k), (10, .int .i64 2), (9, two2 a b), (3, .int .i64 z), (0, two2 a b)]) (fun _ _ => []) (fun k _ => 2 - k) 0 0 ⟨by simp, rfl⟩ ⟨by ((repeat' apply And.intro) <;> (first | exact True.intro | exact NEq.refl _ | (refine NEq.int ?_; first | exact rfl | omega | (rw [wrapI (by omega)]; first | exact rfl | omega)))), trivial, .nil⟩ ?_
  rintro k z nv ⟨hk, hz⟩
  rcases (by omega : k = 0 ∨ k = 1 ∨ k = 2) with rfl | rfl | rfl
  · obtain rfl : z = 0 := hz
    repeat' (first | refine vcI ?_ | refine And.intro ?_ ?_ | (intro hq; (try simp at hq); (try (exfalso; omega)); (try (revert hq; intro))))
    exact Exists.intro (1, a.length) ⟨⟨by omega, rfl⟩, (by first | omega | (dsimp only; omega)), ⟨by ((repeat' apply And.intro) <;> (first | exact True.intro | exact NEq.refl _ | (refine NEq.int ?_; first | exact rfl | omega | (rw [wrapI (by omega)]; first | exact rfl | omega)))), trivial, .nil⟩⟩
  · obtain rfl : z = a.length := hz
    repeat' (first | refine vcI ?_ | refine And.intro ?_ ?_ | (intro hq; (try simp at hq); (try (exfalso; omega)); (try (revert hq; intro))))
    exact Exists.intro (2, a.length + b.length) ⟨⟨by omega, rfl⟩, (by first | omega | (dsimp only; omega)), ⟨by ((repeat' apply And.intro) <;> (first | exact True.intro | exact NEq.refl _ | (refine NEq.int ?_; first | exact rfl | omega | (rw [wrapI (by omega)]; first | exact rfl | omega)))), trivial, .nil⟩⟩
  · obtain rfl : z = a.length + b.length := hz
    repeat' (first | refine vcI ?_ | refine And.intro ?_ ?_ | (intro hq; (try simp at hq); (try (exfalso; omega)); (try (revert hq; intro))))
    refine CallS.own (oints (List.replicate (a.length + b.length) 0)) (fun id ver => .ref id ver [] 1 0 0) (Grow_spec (a.length + b.length) h0 (by omega)) (plainAll rfl) ?_
    repeat' (first | refine vcI ?_ | refine And.intro ?_ ?_ | (intro hq; (try simp at hq); (try (exfalso; omega)); (try (revert hq; intro))))
    refine loopS3 mx (by decide) (by kernel_rfl) (fun (k z v : Nat) => k ≤ 2 ∧ z = (if k = 0 then 0 else if k = 1 then a.length else a.length + b.length)) (fun k z v => [(27, .int .i64 k), (26, .int .i64 2), (25, two2 a b), (6, .ref (1, 24) v [] 1 0 z)]) (fun k z v => [((1, 24), ⟨v, oints ((a ++ b).take z ++ List.replicate (a.length + b.length - z) 0)⟩)]) (fun k z v => 2 - k) 0 0 _ ⟨by simp, rfl⟩ ⟨by ((repeat' apply And.intro) <;> (first | exact True.intro | exact NEq.refl _ | (refine NEq.int ?_; first | exact rfl | omega | (rw [wrapI (by omega)]; first | exact rfl | omega)))), ⟨⟨rfl, ?_⟩, trivial⟩, .nil⟩ ?_
    · exact .refl _
    rintro k z v nv ⟨hk, hz⟩
    rcases (by omega : k = 0 ∨ k = 1 ∨ k = 2) with rfl | rfl | rfl
    · obtain rfl : z = 0 := hz
      repeat' (first | refine vcI ?_ | refine And.intro ?_ ?_ | (intro hq; (try simp at hq); (try (exfalso; omega)); (try (revert hq; intro))))
      · rfl
      · rename_i h
        subst h
        exact Exists.intro (1, 0, v) ⟨⟨by omega, rfl⟩, (by first | omega | (dsimp only; omega)), ⟨⟨(by refine NEq.int ?_; first | exact rfl | omega | (rw [wrapI (by omega)]; first | exact rfl | omega)), .refl _, .refl _, .refl _, trivial⟩, ⟨⟨rfl, .refl _⟩, trivial⟩, .nil⟩⟩
      · simp
      · rfl
      refine Exists.intro (oints ((a ++ b).take a.length ++ List.replicate (a.length + b.length - a.length) 0)) (And.intro ?_ (And.intro (shape_ints (by simp)) ?_))
      · refine NEq.owns rfl (by simp) fun i o hi ho => ?_
        obtain rfl : o = 0 := by omega
        simp only [List.take_zero, List.nil_append, List.take_left] at hi ⊢
        rw [getD_app]
        by_cases c : i < a.length
        · rw [if_pos c, if_pos ⟨Nat.zero_le _, by omega⟩]; exact .refl _
        · rw [if_neg c, if_neg (by omega)]
          have hi' : i < a.length + b.length := by simpa using hi
          have e1 : (List.replicate (a.length + b.length - 0) (0 : Int)).getD i 0 = 0 := by simp [hi']
          have e2 : (List.replicate (a.length + b.length - a.length) (0 : Int)).getD (i - a.length) 0 = 0 := by
            rw [List.getD_eq_getElem?_getD, List.getElem?_replicate]
            split <;> rfl
          rw [e1, e2]; exact .refl _
      repeat' (first | refine vcI ?_ | refine And.intro ?_ ?_ | (intro hq; (try simp at hq); (try (exfalso; omega)); (try (revert hq; intro))))
      exact Exists.intro (1, a.length, v) ⟨⟨by omega, rfl⟩, (by first | omega | (dsimp only; omega)), ⟨⟨(by refine NEq.int ?_; first | exact rfl | omega | (rw [wrapI (by omega)]; first | exact rfl | omega)), .refl _, .refl _, .refs rfl rfl (by simp), trivial⟩, ⟨⟨rfl, .refl _⟩, trivial⟩, .nil⟩⟩
    · obtain rfl : z = a.length := hz
      by_cases hb0 : b = []
      · subst hb0
        repeat' (first | refine vcI ?_ | refine And.intro ?_ ?_ | (intro hq; (try simp at hq); (try (exfalso; omega)); (try (revert hq; intro))))
        · simp
        · rw [bInt]; simp; omega
        · simp; omega
        refine Exists.intro (oints ((a ++ []).take (a.length + ([] : List Int).length) ++ List.replicate (a.length + ([] : List Int).length - (a.length + ([] : List Int).length)) 0)) (And.intro ?_ (And.intro (shape_ints (by simp)) ?_))
        · refine NEq.owns rfl (by simp) fun i o hi ho => ?_
          obtain rfl : o = 0 := by omega
          have hi' : i < a.length := by simpa using hi
          dsimp only
          rw [if_pos (by simpa using hi')]
          refine NEq.int ?_
          simp
        repeat' (first | refine vcI ?_ | refine And.intro ?_ ?_ | (intro hq; (try simp at hq); (try (exfalso; omega)); (try (revert hq; intro))))
        exact Exists.intro (2, a.length + ([] : List Int).length, _) ⟨⟨by omega, rfl⟩, (by first | omega | (dsimp only; omega)), ⟨⟨(by refine NEq.int ?_; first | exact rfl | omega | (rw [wrapI (by omega)]; first | exact rfl | omega)), .refl _, .refl _, .refs rfl rfl (by simp), trivial⟩, ⟨⟨rfl, .refl _⟩, trivial⟩, .nil⟩⟩
      · repeat' (first | refine vcI ?_ | refine And.intro ?_ ?_ | (intro hq; (try simp at hq); (try (exfalso; omega)); (try (revert hq; intro))))
        all_goals first | (exfalso; exact hb0 (by assumption)) | skip
        · rfl
        · simp
        · rfl
        refine Exists.intro (oints ((a ++ b).take (a.length + b.length) ++ List.replicate (a.length + b.length - (a.length + b.length)) 0)) (And.intro ?_ (And.intro (shape_ints (by simp)) ?_))
        · refine NEq.owns rfl (by simp) fun i o hi ho => ?_
          obtain rfl : o = 0 := by omega
          have hi' : i < a.length + b.length := by simpa using hi
          have et : (a ++ b).take (a.length + b.length) = a ++ b := List.take_of_length_le (by simp)
          rw [Nat.sub_self, List.replicate_zero, List.append_nil, et, getD_app, List.take_left]
          dsimp only
          rw [getD_app]
          by_cases c : i < a.length
          · rw [if_neg (by omega), if_pos c, if_pos c]; exact .refl _
          · rw [if_pos ⟨by omega, by omega⟩, if_neg c]; exact .refl _
        repeat' (first | refine vcI ?_ | refine And.intro ?_ ?_ | (intro hq; (try simp at hq); (try (exfalso; omega)); (try (revert hq; intro))))
        exact Exists.intro (2, a.length + b.length, v) ⟨⟨by omega, rfl⟩, (by first | omega | (dsimp only; omega)), ⟨⟨(by refine NEq.int ?_; first | exact rfl | omega | (rw [wrapI (by omega)]; first | exact rfl | omega)), .refl _, .refl _, .refs rfl rfl rfl, trivial⟩, ⟨⟨rfl, .refl _⟩, trivial⟩, .nil⟩⟩
    · obtain rfl : z = a.length + b.length := hz
      have et : (a ++ b).take (a.length + b.length) = a ++ b := List.take_of_length_le (by simp)
      rw [Nat.sub_self, List.replicate_zero, List.append_nil, et]
      repeat' (first | refine vcI ?_ | refine And.intro ?_ ?_ | (intro hq; (try simp at hq); (try (exfalso; omega)); (try (revert hq; intro))))
      exact keepS_pre rfl (by simp)
theorem Concat0_spec : CallsO Try.prog 88 [two2 [] []] (oints []) (fun id ver => .ref id ver [] 1 0 0) := by
  refine callsO_ofS mx Try.call88 Try.func88 rfl Try.ntmps88 Try.results88 (by kernel_rfl) (by simp) fun lo => ?_
  repeat' (first | refine vcI ?_ | refine And.intro ?_ ?_ | (intro hq; (try simp at hq); (try (exfalso; omega)); (try (revert hq; intro))))
  refine loopS mx (by decide) (by kernel_rfl) (fun (k : Nat) => k ≤ 2) (fun k => [(11, .int .i64 k), (10, .int .i64 2), (9, two2 [] []), (3, .int .i64 0), (0, two2 [] [])]) (fun _ => []) (fun k => 2 - k) 0 (by simp) ⟨by ((repeat' apply And.intro) <;> (first | exact True.intro | exact NEq.refl _ | (refine NEq.int ?_; first | exact rfl | omega | (rw [wrapI (by omega)]; first | exact rfl | omega)))), trivial, .nil⟩ ?_
  intro k nv hk
  rcases (by omega : k = 0 ∨ k = 1 ∨ k = 2) with rfl | rfl | rfl
  · repeat' (first | refine vcI ?_ | refine And.intro ?_ ?_ | (intro hq; (try simp at hq); (try (exfalso; omega)); (try (revert hq; intro))))
    exact Exists.intro 1 ⟨by omega, (by first | omega | (dsimp only; omega)), ⟨by ((repeat' apply And.intro) <;> (first | exact True.intro | exact NEq.refl _ | (refine NEq.int ?_; first | exact rfl | omega | (rw [wrapI (by omega)]; first | exact rfl | omega)))), trivial, .nil⟩⟩
  · repeat' (first | refine vcI ?_ | refine And.intro ?_ ?_ | (intro hq; (try simp at hq); (try (exfalso; omega)); (try (revert hq; intro))))
    exact Exists.intro 2 ⟨by omega, (by first | omega | (dsimp only; omega)), ⟨by ((repeat' apply And.intro) <;> (first | exact True.intro | exact NEq.refl _ | (refine NEq.int ?_; first | exact rfl | omega | (rw [wrapI (by omega)]; first | exact rfl | omega)))), trivial, .nil⟩⟩
  · repeat' (first | refine vcI ?_ | refine And.intro ?_ ?_ | (intro hq; (try simp at hq); (try (exfalso; omega)); (try (revert hq; intro))))
    refine CallS.frozen .nils Grow0_spec (plainAll rfl) ?_
    repeat' (first | refine vcI ?_ | refine And.intro ?_ ?_ | (intro hq; (try simp at hq); (try (exfalso; omega)); (try (revert hq; intro))))
    refine ghostS0 6 (1, 33) (by decide) 1 (fun _ _ => .undef) rfl rfl fun v => ?_
    refine loopS2 mx (by decide) (by kernel_rfl) (fun (k v : Nat) => k ≤ 2) (fun k v => [(27, .int .i64 k), (26, .int .i64 2), (25, two2 [] []), (6, .ref (1, 33) v [] 1 0 0)]) (fun k v => [((1, 33), ⟨v, oints []⟩)]) (fun k v => 2 - k) 0 v (by simp) ⟨by ((repeat' apply And.intro) <;> (first | exact True.intro | exact NEq.refl _ | (refine NEq.int ?_; first | exact rfl | omega | (rw [wrapI (by omega)]; first | exact rfl | omega)))), ⟨⟨rfl, .owns rfl rfl fun i o hi => absurd hi (by simp)⟩, trivial⟩, .nil⟩ ?_
    intro k v nv hk
    rcases (by omega : k = 0 ∨ k = 1 ∨ k = 2) with rfl | rfl | rfl
    · repeat' (first | refine vcI ?_ | refine And.intro ?_ ?_ | (intro hq; (try simp at hq); (try (exfalso; omega)); (try (revert hq; intro))))
      refine Exists.intro (oints []) (And.intro ?_ (And.intro rfl ?_))
      · exact NEq.owns rfl rfl fun i o hi => absurd hi (by simp)
      repeat' (first | refine vcI ?_ | refine And.intro ?_ ?_ | (intro hq; (try simp at hq); (try (exfalso; omega)); (try (revert hq; intro))))
      exact Exists.intro (1, _) ⟨by omega, (by first | omega | (dsimp only; omega)), ⟨⟨(by refine NEq.int ?_; first | exact rfl | omega | (rw [wrapI (by omega)]; first | exact rfl | omega)), .refl _, .refl _, .refs rfl rfl rfl, trivial⟩, ⟨⟨rfl, .refl _⟩, trivial⟩, .nil⟩⟩
    · repeat' (first | refine vcI ?_ | refine And.intro ?_ ?_ | (intro hq; (try simp at hq); (try (exfalso; omega)); (try (revert hq; intro))))
      refine Exists.intro (oints []) (And.intro ?_ (And.intro rfl ?_))
      · exact NEq.owns rfl rfl fun i o hi => absurd hi (by simp)
      repeat' (first | refine vcI ?_ | refine And.intro ?_ ?_ | (intro hq; (try simp at hq); (try (exfalso; omega)); (try (revert hq; intro))))
      exact Exists.intro (2, _) ⟨by omega, (by first | omega | (dsimp only; omega)), ⟨⟨(by refine NEq.int ?_; first | exact rfl | omega | (rw [wrapI (by omega)]; first | exact rfl | omega)), .refl _, .refl _, .refs rfl rfl rfl, trivial⟩, ⟨⟨rfl, .refl _⟩, trivial⟩, .nil⟩⟩
    · repeat' (first | refine vcI ?_ | refine And.intro ?_ ?_ | (intro hq; (try simp at hq); (try (exfalso; omega)); (try (revert hq; intro))))
      exact keepS_pre rfl rfl
theorem ConcatAll_spec (a b : List Int) (ha : a.length ≤ 40000) (hb : b.length ≤ 40000) : CallsO Try.prog 88 [two2 a b] (oints (a ++ b)) (fun id ver => .ref id ver [] 1 0 (a ++ b).length) := by
  by_cases h : 0 < a.length + b.length
  · exact Concat_spec a b ha hb h
  · have h1 : a = [] := List.eq_nil_of_length_eq_zero (by omega)
    have h2 : b = [] := List.eq_nil_of_length_eq_zero (by omega)
    subst h1 h2
    exact Concat0_spec
end Go.Ab
namespace Go.Ab
open Go.Proofs
set_option maxRecDepth 100000
set_option maxHeartbeats 1000000

theorem setPut5_spec (ws : Nat → Nat) (hw : ∀ o, ws o < 18446744073709551616) (r : Nat) (hr : r < 256) (v nv : Nat) (S : Hp) (hS : Above 2 S) :
    CallsA Try.prog 42 [.ptr (1, 5) v [] 0 0, .int .i64 r] ([((1, 5), ⟨v, .obox 4 (setC ws)⟩)] ++ S) nv
      fun x hp' nv' => ∃ L', hp' = L' ++ S ∧ (x = .tup [] ∧ L' = [((1, 5), ⟨v, .obox 4 (setC (setW ws r))⟩)]) := by
  have e1 := wrap64_div (r := r) (by omega)
  have e2 := tmod64 r
  refine callsA_ofS (lv := 2) (by decide) mx Try.call42 Try.func42 rfl Try.ntmps42 Try.results42 (by kernel_rfl) (by simp) fun lo => ?_
  repeat' (first | refine vcI ?_ | refine And.intro ?_ ?_ | (intro hq; (try simp at hq); (try (exfalso; omega)); (try (revert hq; intro))))
  · rw [cW, e1]; simp; omega
  · rw [cW]; decide
  · show 0 + (IntKind.i64.wrap ((r : Int).tdiv 64)).toNat * Try.prog.cellsOf 77 + 1 ≤ 4
    rw [cW, e1]; simp; omega
  refine Exists.intro (PV.tup []) (Exists.intro _ (And.intro ⟨rfl, rfl⟩ (And.intro (.refl _) (And.intro ⟨⟨rfl, .obox fun o ho => ?_⟩, trivial⟩ (.names rfl)))))
  show NEq (if 0 + (IntKind.i64.wrap ((r : Int).tdiv 64)).toNat * Try.prog.cellsOf 77 ≤ o ∧ o < 0 + (IntKind.i64.wrap ((r : Int).tdiv 64)).toNat * Try.prog.cellsOf 77 + 1 then List.getD [PV.int .u64 (IntKind.u64.wrap ((BitVec.ofInt IntKind.u64.bits (ws (0 + (IntKind.i64.wrap ((r : Int).tdiv 64)).toNat * Try.prog.cellsOf 77) : Int) ||| BitVec.ofInt IntKind.u64.bits (IntKind.u64.wrap (1 * 2 ^ min ((r : Int).tmod 64).toNat IntKind.u64.bits))).toNat : Int))] (o - (0 + (IntKind.i64.wrap ((r : Int).tdiv 64)).toNat * Try.prog.cellsOf 77)) .undef else .int .u64 (ws o)) (.int .u64 (setW ws r o))
  rw [cW, e1, e2]
  simp only [Int.toNat_natCast, Nat.zero_add, Nat.mul_one]
  rw [or_at (hw _) (Nat.mod_lt _ (by decide))]
  by_cases c : o = r / 64
  · subst c
    rw [if_pos (by omega), Nat.sub_self]
    simp only [setW, if_true]
    exact .refl _
  · rw [if_neg (by omega)]
    simp only [setW, if_neg c]
    exact .refl _
theorem setJoin5_spec (ws us : Nat → Nat) (hw : ∀ o, ws o < 18446744073709551616) (hu : ∀ o, us o < 18446744073709551616) (v nv : Nat) (S : Hp) (hS : Above 2 S) :
    CallsA Try.prog 59 [.ptr (1, 5) v [] 0 0, aggW us] ([((1, 5), ⟨v, .obox 4 (setC ws)⟩)] ++ S) nv
      fun x hp' nv' => ∃ L', hp' = L' ++ S ∧ (x = .tup [] ∧ L' = [((1, 5), ⟨v, .obox 4 (setC (joinW ws us 4))⟩)]) := by
  refine callsA_ofS (lv := 2) (by decide) mx Try.call59 Try.func59 rfl Try.ntmps59 Try.results59 (by kernel_rfl) (by simp) fun lo => ?_
  repeat' (first | refine vcI ?_ | refine And.intro ?_ ?_ | (intro hq; (try simp at hq); (try (exfalso; omega)); (try (revert hq; intro))))
  refine loopS mx (by decide) (by kernel_rfl) (fun k : Nat => k ≤ 4) (fun k => [(5, .int .i64 k), (0, .ptr (1, 5) v [] 0 0), (3, .ptr (2, 3) nv [] 0 0)]) (fun k => [((2, 3), ⟨nv, .obox 4 (setC us)⟩), ((1, 5), ⟨v, .obox 4 (setC (joinW ws us k))⟩)]) (fun k => 4 - k) 0 (by simp) ?_ ?_
  · refine ⟨by ((repeat' apply And.intro) <;> (first | exact True.intro | exact NEq.refl _ | (refine NEq.int ?_; first | exact rfl | omega | (rw [wrapI (by omega)]; first | exact rfl | omega)))), ⟨⟨rfl, .obox fun o ho => ?_⟩, ⟨rfl, ?_⟩, trivial⟩, .chk hS rfl⟩
    · have ho' : o < 4 := ho
      rcases (by omega : o = 0 ∨ o = 1 ∨ o = 2 ∨ o = 3) with rfl | rfl | rfl | rfl <;> exact .refl _
    · rw [joinW_zero]; exact .refl _
  intro k nv hk
  repeat' (first | refine vcI ?_ | refine And.intro ?_ ?_ | (intro hq; (try simp at hq); (try (exfalso; omega)); (try (revert hq; intro))))
  · rw [cW]; show 0 + k * 1 + 1 ≤ 4; omega
  · rw [cW]; decide
  · rw [cW]; show 0 + k * 1 + 1 ≤ 4; omega
  · rw [cW]; decide
  · show 0 + k * Try.prog.cellsOf 77 + 1 ≤ 4
    rw [cW]; omega
  · refine Exists.intro (k + 1) ⟨by omega, (by first | omega | (dsimp only; omega)), ⟨⟨(by refine NEq.int ?_; first | exact rfl | omega | (rw [wrapI (by omega)]; first | exact rfl | omega)), .refl _, .refl _, trivial⟩, ⟨⟨rfl, .refl _⟩, ⟨rfl, .obox fun o ho => ?_⟩, trivial⟩, .chk hS rfl⟩⟩
    show NEq (if 0 + k * Try.prog.cellsOf 77 ≤ o ∧ o < 0 + k * Try.prog.cellsOf 77 + 1 then List.getD [PV.int .u64 (IntKind.u64.wrap ((BitVec.ofInt IntKind.u64.bits (joinW ws us k (0 + k * Try.prog.cellsOf 77) : Int) ||| BitVec.ofInt IntKind.u64.bits (us (0 + k * Try.prog.cellsOf 77) : Int)).toNat : Int))] (o - (0 + k * Try.prog.cellsOf 77)) .undef else .int .u64 (joinW ws us k o)) (.int .u64 (joinW ws us (k + 1) o))
    rw [cW]
    simp only [Nat.zero_add, Nat.mul_one]
    have ek : joinW ws us k k = ws k := by simp [joinW]
    rw [ek, orr_at (hw _) (hu _)]
    by_cases c : o = k
    · subst c
      rw [if_pos (by omega), Nat.sub_self]
      have e5 : joinW ws us (o + 1) o = ws o ||| us o := by simp [joinW]
      rw [e5]
      exact .refl _
    · rw [if_neg (by omega)]
      have e5 : joinW ws us (k + 1) o = joinW ws us k o := by
        unfold joinW
        by_cases c2 : o < k
        · rw [if_pos c2, if_pos (by omega)]
        · rw [if_neg c2, if_neg (by omega)]
      rw [e5]
      exact .refl _
  · obtain rfl : k = 4 := by omega
    exact Exists.intro (PV.tup []) (Exists.intro _ (And.intro ⟨rfl, rfl⟩ (And.intro (.refl _) (And.intro ⟨⟨rfl, .refl _⟩, trivial⟩ (.chk hS rfl)))))
theorem setPut6_spec (ws : Nat → Nat) (hw : ∀ o, ws o < 18446744073709551616) (r : Nat) (hr : r < 256) (v nv : Nat) (S : Hp) (hS : Above 2 S) :
    CallsA Try.prog 42 [.ptr (1, 6) v [] 0 0, .int .i64 r] ([((1, 6), ⟨v, .obox 4 (setC ws)⟩)] ++ S) nv
      fun x hp' nv' => ∃ L', hp' = L' ++ S ∧ (x = .tup [] ∧ L' = [((1, 6), ⟨v, .obox 4 (setC (setW ws r))⟩)]) := by
  have e1 := wrap64_div (r := r) (by omega)
  have e2 := tmod64 r
  refine callsA_ofS (lv := 2) (by decide) mx Try.call42 Try.func42 rfl Try.ntmps42 Try.results42 (by kernel_rfl) (by simp) fun lo => ?_
  repeat' (first | refine vcI ?_ | refine And.intro ?_ ?_ | (intro hq; (try simp at hq); (try (exfalso; omega)); (try (revert hq; intro))))
  · rw [cW, e1]; simp; omega
  · rw [cW]; decide
  · show 0 + (IntKind.i64.wrap ((r : Int).tdiv 64)).toNat * Try.prog.cellsOf 77 + 1 ≤ 4
    rw [cW, e1]; simp; omega
  refine Exists.intro (PV.tup []) (Exists.intro _ (And.intro ⟨rfl, rfl⟩ (And.intro (.refl _) (And.intro ⟨⟨rfl, .obox fun o ho => ?_⟩, trivial⟩ (.names rfl)))))
  show NEq (if 0 + (IntKind.i64.wrap ((r : Int).tdiv 64)).toNat * Try.prog.cellsOf 77 ≤ o ∧ o < 0 + (IntKind.i64.wrap ((r : Int).tdiv 64)).toNat * Try.prog.cellsOf 77 + 1 then List.getD [PV.int .u64 (IntKind.u64.wrap ((BitVec.ofInt IntKind.u64.bits (ws (0 + (IntKind.i64.wrap ((r : Int).tdiv 64)).toNat * Try.prog.cellsOf 77) : Int) ||| BitVec.ofInt IntKind.u64.bits (IntKind.u64.wrap (1 * 2 ^ min ((r : Int).tmod 64).toNat IntKind.u64.bits))).toNat : Int))] (o - (0 + (IntKind.i64.wrap ((r : Int).tdiv 64)).toNat * Try.prog.cellsOf 77)) .undef else .int .u64 (ws o)) (.int .u64 (setW ws r o))
  rw [cW, e1, e2]
  simp only [Int.toNat_natCast, Nat.zero_add, Nat.mul_one]
  rw [or_at (hw _) (Nat.mod_lt _ (by decide))]
  by_cases c : o = r / 64
  · subst c
    rw [if_pos (by omega), Nat.sub_self]
    simp only [setW, if_true]
    exact .refl _
  · rw [if_neg (by omega)]
    simp only [setW, if_neg c]
    exact .refl _
theorem setJoin6_spec (ws us : Nat → Nat) (hw : ∀ o, ws o < 18446744073709551616) (hu : ∀ o, us o < 18446744073709551616) (v nv : Nat) (S : Hp) (hS : Above 2 S) :
    CallsA Try.prog 59 [.ptr (1, 6) v [] 0 0, aggW us] ([((1, 6), ⟨v, .obox 4 (setC ws)⟩)] ++ S) nv
      fun x hp' nv' => ∃ L', hp' = L' ++ S ∧ (x = .tup [] ∧ L' = [((1, 6), ⟨v, .obox 4 (setC (joinW ws us 4))⟩)]) := by
  refine callsA_ofS (lv := 2) (by decide) mx Try.call59 Try.func59 rfl Try.ntmps59 Try.results59 (by kernel_rfl) (by simp) fun lo => ?_
  repeat' (first | refine vcI ?_ | refine And.intro ?_ ?_ | (intro hq; (try simp at hq); (try (exfalso; omega)); (try (revert hq; intro))))
  refine loopS mx (by decide) (by kernel_rfl) (fun k : Nat => k ≤ 4) (fun k => [(5, .int .i64 k), (0, .ptr (1, 6) v [] 0 0), (3, .ptr (2, 3) nv [] 0 0)]) (fun k => [((2, 3), ⟨nv, .obox 4 (setC us)⟩), ((1, 6), ⟨v, .obox 4 (setC (joinW ws us k))⟩)]) (fun k => 4 - k) 0 (by simp) ?_ ?_
  · refine ⟨by ((repeat' apply And.intro) <;> (first | exact True.intro | exact NEq.refl _ | (refine NEq.int ?_; first | exact rfl | omega | (rw [wrapI (by omega)]; first | exact rfl | omega)))), ⟨⟨rfl, .obox fun o ho => ?_⟩, ⟨rfl, ?_⟩, trivial⟩, .chk hS rfl⟩
    · have ho' : o < 4 := ho
      rcases (by omega : o = 0 ∨ o = 1 ∨ o = 2 ∨ o = 3) with rfl | rfl | rfl | rfl <;> exact .refl _
    · rw [joinW_zero]; exact .refl _
  intro k nv hk
  repeat' (first | refine vcI ?_ | refine And.intro ?_ ?_ | (intro hq; (try simp at hq); (try (exfalso; omega)); (try (revert hq; intro))))
  · rw [cW]; show 0 + k * 1 + 1 ≤ 4; omega
  · rw [cW]; decide
  · rw [cW]; show 0 + k * 1 + 1 ≤ 4; omega
  · rw [cW]; decide
  · show 0 + k * Try.prog.cellsOf 77 + 1 ≤ 4
    rw [cW]; omega
  · refine Exists.intro (k + 1) ⟨by omega, (by first | omega | (dsimp only; omega)), ⟨⟨(by refine NEq.int ?_; first | exact rfl | omega | (rw [wrapI (by omega)]; first | exact rfl | omega)), .refl _, .refl _, trivial⟩, ⟨⟨rfl, .refl _⟩, ⟨rfl, .obox fun o ho => ?_⟩, trivial⟩, .chk hS rfl⟩⟩
    show NEq (if 0 + k * Try.prog.cellsOf 77 ≤ o ∧ o < 0 + k * Try.prog.cellsOf 77 + 1 then List.getD [PV.int .u64 (IntKind.u64.wrap ((BitVec.ofInt IntKind.u64.bits (joinW ws us k (0 + k * Try.prog.cellsOf 77) : Int) ||| BitVec.ofInt IntKind.u64.bits (us (0 + k * Try.prog.cellsOf 77) : Int)).toNat : Int))] (o - (0 + k * Try.prog.cellsOf 77)) .undef else .int .u64 (joinW ws us k o)) (.int .u64 (joinW ws us (k + 1) o))
    rw [cW]
    simp only [Nat.zero_add, Nat.mul_one]
    have ek : joinW ws us k k = ws k := by simp [joinW]
    rw [ek, orr_at (hw _) (hu _)]
    by_cases c : o = k
    · subst c
      rw [if_pos (by omega), Nat.sub_self]
      have e5 : joinW ws us (o + 1) o = ws o ||| us o := by simp [joinW]
      rw [e5]
      exact .refl _
    · rw [if_neg (by omega)]
      have e5 : joinW ws us (k + 1) o = joinW ws us k o := by
        unfold joinW
        by_cases c2 : o < k
        · rw [if_pos c2, if_pos (by omega)]
        · rw [if_neg c2, if_neg (by omega)]
      rw [e5]
      exact .refl _
  · obtain rfl : k = 4 := by omega
    exact Exists.intro (PV.tup []) (Exists.intro _ (And.intro ⟨rfl, rfl⟩ (And.intro (.refl _) (And.intro ⟨⟨rfl, .refl _⟩, trivial⟩ (.chk hS rfl)))))
end Go.Ab
namespace Go.Ab
open Go.Proofs
set_option maxRecDepth 100000
set_option maxHeartbeats 4000000

theorem CallS.ownInts {P : Program} {S : Hp} {id : RId} {ver : Nat} {f : FuncId} {args : List PV} {L : Hp} {nv : Nat} {K : PV → Hp → Nat → Prop} (args' : List PV) (l : List Int) (h : CallsO P f args' (oints l) (fun id ver => .ref id ver [] 1 0 l.length)) (ha : LeL (args.map (view 9 (L ++ S))) args')
    (k : delS L id fun L => fz (.ref id ver [] 1 0 l.length) fun x => K x ((id, ⟨ver, oints l⟩) :: L) nv) : CallS P S id ver f args L nv K :=
  .ownPlain args' 1 l.length (fun i _ => .int .i64 (l.getD i 0)) (fun id ver => .ref id ver [] 1 0 l.length) h ha trivial (fun i o hi => trivial) k
theorem QS.ownInts {P : Program} {S : Hp} {id : RId} {ver : Nat} {f : FuncId} {args : List PV} {L : Hp} {K : PV → Hp → Prop} (args' : List PV) (l : List Int) (h : CallsO P f args' (oints l) (fun id ver => .ref id ver [] 1 0 l.length)) (ha : LeL (args.map (view 9 (L ++ S))) args')
    (k : delS L id fun L => fz (.ref id ver [] 1 0 l.length) fun x => K x ((id, ⟨ver, oints l⟩) :: L)) : QS P S id ver [] f args L K :=
  .ownPlain args' 1 l.length (fun i _ => .int .i64 (l.getD i 0)) (fun id ver => .ref id ver [] 1 0 l.length) rfl h ha trivial (fun i o hi => trivial) k
theorem put_at {P : Program} {f : FuncId} {p : PV} {x : Int} {n : Nat} {L : Hp} {nv : Nat} {R : PV → Hp → Nat → Prop} (e : x = (n : Int)) (h : CallsA P f [p, .int .i64 (n : Int)] L nv R) : CallsA P f [p, .int .i64 x] L nv R := e ▸ h
def setOf (l : List Int) : Nat → Nat := l.foldl (fun ws r => setW ws r.toNat) fun _ => 0
theorem setW_lt {ws : Nat → Nat} (h : ∀ o, ws o < 18446744073709551616) (r : Nat) : ∀ o, setW ws r o < 18446744073709551616 := fun o => by
  unfold setW
  split
  · have hj2 : 2 ^ (r % 64) < 18446744073709551616 := Nat.pow_lt_pow_right (a := 2) (by decide) (show r % 64 < 64 from Nat.mod_lt _ (by decide))
    exact Nat.or_lt_two_pow (n := 64) (h o) hj2
  · exact h o
theorem setOf_lt (l : List Int) : ∀ o, setOf l o < 18446744073709551616 := by
  have key : ∀ (l : List Int) (ws : Nat → Nat), (∀ o, ws o < 18446744073709551616) → ∀ o, l.foldl (fun ws r => setW ws r.toNat) ws o < 18446744073709551616 := by
    intro l
    induction l with
    | nil => intro ws h; exact h
    | cons r l ih => intro ws h; exact ih _ (setW_lt h _)
  exact key l _ fun o => by decide
theorem setOf_take {l : List Int} {k : Nat} (hk : k < l.length) : setOf (l.take (k + 1)) = setW (setOf (l.take k)) (l.getD k 0).toNat := by
  unfold setOf
  rw [take_succD 0 hk, List.foldl_append]; rfl

theorem own_1 (o : DO) (lv : PV) (i : Nat) (H : ShH o i 1 ([] : List Int)) (hv : ∀ r ∈ ([] : List Int) ++ usesL (o.descs.getD i []), 0 ≤ r ∧ r < 250) : CallsF Try.prog 78 [codeP o lv, .int .i64 i] (aggW (setOf (([] : List Int) ++ usesL (o.descs.getD i [])))) := by
  have hi := H.hi
  have hil := H.hil
  have hd := H.hd
  have hdl := H.hdl
  have hop1 : (o.irs[i]?.getD default).op = 1 := H.hop
  have hop2 : (o.irs.getD (i : Int).toNat default).op = 1 := H.hop
  have hlu : ([] : List Int).length ≤ 6001 := by have := H.ha; simp
  have hls : (usesL (o.descs.getD i [])).length ≤ 30000 := by
    rw [← symUses_eq, sortI_len]; exact symKs_len _ H.hfN
  obtain ⟨l, hl⟩ : ∃ l, l = ([] : List Int) ++ usesL (o.descs.getD i []) := ⟨_, rfl⟩
  have hll : l.length ≤ 40000 := by rw [hl, List.length_append]; omega
  rw [← hl] at hv ⊢
  refine callsF_ofS mx Try.call78 Try.func78 rfl Try.ntmps78 Try.results78 (by kernel_rfl) (by simp) fun lo => ?_
  repeat' (first | refine vcI ?_ | refine And.intro ?_ ?_ | (intro hq; (try simp at hq); (try (exfalso; omega)); (try (revert hq; intro))))
  · rw [hop2]; decide
  · rw [hop2]; exact Nat.le_of_ble_eq_true (by kernel_rfl)
  · exact Nat.lt_of_lt_of_eq (by decide : 0 < 1) (by kernel_rfl)
  rw [hop2]
  repeat' (first | refine vcI ?_ | refine And.intro ?_ ?_ | (intro hq; (try simp at hq); (try (exfalso; omega)); (try (revert hq; intro))))
  refine QS.frozen (ints ([] : List Int)) (uNone_spec _ _) (plainAll rfl) ?_
  repeat' (first | refine vcI ?_ | refine And.intro ?_ ?_ | (intro hq; (try simp at hq); (try (exfalso; omega)); (try (revert hq; intro))))
  refine QS.frozen (ints (usesL (o.descs.getD i []))) (symUses _ H.hfs H.hfN) (plainAll rfl) ?_
  repeat' (first | refine vcI ?_ | refine And.intro ?_ ?_ | (intro hq; (try simp at hq); (try (exfalso; omega)); (try (revert hq; intro))))
  refine QS.ownInts [two2 ([] : List Int) (usesL (o.descs.getD i []))] l (by rw [hl]; exact ConcatAll_spec ([] : List Int) (usesL (o.descs.getD i [])) (by omega) (by omega)) ?_ ?_
  · refine LeL.cons ?_ LeL.nil
    refine NEq.frzs rfl rfl fun j q hj hq => ?_
    obtain rfl : q = 0 := by omega
    obtain rfl | rfl : j = 0 ∨ j = 1 := by omega
    · exact .refl _
    · exact .refl _
  repeat' (first | refine vcI ?_ | refine And.intro ?_ ?_ | (intro hq; (try simp at hq); (try (exfalso; omega)); (try (revert hq; intro))))
  refine loopS2 mx (by decide) (by kernel_rfl) (fun (k v : Nat) => k ≤ l.length) (fun k v => [(40, .int .i64 k), (39, .int .i64 l.length), (38, .ref (1, 38) v [] 1 0 l.length), (5, .ptr (1, 5) 1 [] 0 0), (4, .ptr (1, 4) 0 [] 0 0)]) (fun k v => [((1, 38), ⟨v, oints l⟩), ((1, 5), ⟨1, .obox 4 (setC (setOf (l.take k)))⟩), ((1, 4), ⟨0, .obox 4 fun _ => .undef⟩)]) (fun k v => l.length - k) 0 _ (by simp) ⟨by ((repeat' apply And.intro) <;> (first | exact True.intro | exact NEq.refl _ | (refine NEq.int ?_; first | exact rfl | omega | (rw [wrapI (by omega)]; first | exact rfl | omega)))), ?_, .nil⟩ ?_
  · refine ⟨⟨rfl, .refl _⟩, ⟨rfl, .obox fun q hq => ?_⟩, ⟨rfl, .obox fun q hq => ?_⟩, trivial⟩
    · rcases (by have : q < 4 := hq; omega : q = 0 ∨ q = 1 ∨ q = 2 ∨ q = 3) with rfl | rfl | rfl | rfl <;> exact .refl _
    · refine .undef ?_
      rcases (by have : q < 4 := hq; omega : q = 0 ∨ q = 1 ∨ q = 2 ∨ q = 3) with rfl | rfl | rfl | rfl <;> rfl
  intro k v nv hk
  repeat' (first | refine vcI ?_ | refine And.intro ?_ ?_ | (intro hq; (try simp at hq); (try (exfalso; omega)); (try (revert hq; intro))))
  · rename_i hlt
    obtain ⟨r0, r1⟩ := hv _ (getD_mem 0 hlt)
    have est := setOf_take hlt
    refine CallS.onA (L0 := [((1, 5), ⟨1, .obox 4 (setC (setOf (l.take k)))⟩)]) (M := [((1, 38), ⟨v, oints l⟩), ((1, 4), ⟨0, .obox 4 fun _ => .undef⟩)]) (put_at (show (l.getD (0 + (k : Int).toNat) 0) = (((l[k]?.getD 0).toNat : Nat) : Int) by rw [Nat.zero_add]; show l[k]?.getD 0 = _; omega) (setPut5_spec (setOf (l.take k)) (setOf_lt _) ((l[k]?.getD 0).toNat) (by omega) 1 _ _ (Above.chk rfl Above.nil))) (fun r => by simp only [lkH, List.cons_append, List.nil_append]; split <;> split <;> simp_all) ?_
    rintro x L' nv' ⟨rfl, rfl⟩
    repeat' (first | refine vcI ?_ | refine And.intro ?_ ?_ | (intro hq; (try simp at hq); (try (exfalso; omega)); (try (revert hq; intro))))
    refine Exists.intro (k + 1, v) ⟨by omega, (by first | omega | (dsimp only; omega)), ⟨⟨(by refine NEq.int ?_; first | exact rfl | omega | (rw [wrapI (by omega)]; first | exact rfl | omega)), .refl _, .refl _, .refl _, .refl _, trivial⟩, ⟨⟨rfl, .refl _⟩, ⟨rfl, ?_⟩, ⟨rfl, .refl _⟩, trivial⟩, .nil⟩⟩
    show NEq _ (.obox 4 (setC (setOf (l.take (k + 1)))))
    rw [est]
    exact .refl _
  · rename_i hlt
    obtain rfl : k = l.length := by omega
    rw [List.take_length]
    refine NEq.aggL ?_
    ((repeat' apply And.intro) <;> (first | exact True.intro | exact NEq.refl _))

theorem own_2 (o : DO) (lv : PV) (i : Nat) (H : ShH o i 2 [(o.irs.getD i default).a]) (hv : ∀ r ∈ [(o.irs.getD i default).a] ++ usesL (o.descs.getD i []), 0 ≤ r ∧ r < 250) : CallsF Try.prog 78 [codeP o lv, .int .i64 i] (aggW (setOf ([(o.irs.getD i default).a] ++ usesL (o.descs.getD i [])))) := by
  have hi := H.hi
  have hil := H.hil
  have hd := H.hd
  have hdl := H.hdl
  have hop1 : (o.irs[i]?.getD default).op = 2 := H.hop
  have hop2 : (o.irs.getD (i : Int).toNat default).op = 2 := H.hop
  have hlu : [(o.irs.getD i default).a].length ≤ 6001 := by have := H.ha; simp
  have hls : (usesL (o.descs.getD i [])).length ≤ 30000 := by
    rw [← symUses_eq, sortI_len]; exact symKs_len _ H.hfN
  obtain ⟨l, hl⟩ : ∃ l, l = [(o.irs.getD i default).a] ++ usesL (o.descs.getD i []) := ⟨_, rfl⟩
  have hll : l.length ≤ 40000 := by rw [hl, List.length_append]; omega
  rw [← hl] at hv ⊢
  refine callsF_ofS mx Try.call78 Try.func78 rfl Try.ntmps78 Try.results78 (by kernel_rfl) (by simp) fun lo => ?_
  repeat' (first | refine vcI ?_ | refine And.intro ?_ ?_ | (intro hq; (try simp at hq); (try (exfalso; omega)); (try (revert hq; intro))))
  · rw [hop2]; decide
  · rw [hop2]; exact Nat.le_of_ble_eq_true (by kernel_rfl)
  · exact Nat.lt_of_lt_of_eq (by decide : 0 < 1) (by kernel_rfl)
  rw [hop2]
  repeat' (first | refine vcI ?_ | refine And.intro ?_ ?_ | (intro hq; (try simp at hq); (try (exfalso; omega)); (try (revert hq; intro))))
  refine QS.frozen (ints [(o.irs.getD i default).a]) (uA_spec o lv i hi (by omega)) (plainAll rfl) ?_
  repeat' (first | refine vcI ?_ | refine And.intro ?_ ?_ | (intro hq; (try simp at hq); (try (exfalso; omega)); (try (revert hq; intro))))
  refine QS.frozen (ints (usesL (o.descs.getD i []))) (symUses _ H.hfs H.hfN) (plainAll rfl) ?_
  repeat' (first | refine vcI ?_ | refine And.intro ?_ ?_ | (intro hq; (try simp at hq); (try (exfalso; omega)); (try (revert hq; intro))))
  refine QS.ownInts [two2 [(o.irs.getD i default).a] (usesL (o.descs.getD i []))] l (by rw [hl]; exact ConcatAll_spec [(o.irs.getD i default).a] (usesL (o.descs.getD i [])) (by omega) (by omega)) ?_ ?_
  · refine LeL.cons ?_ LeL.nil
    refine NEq.frzs rfl rfl fun j q hj hq => ?_
    obtain rfl : q = 0 := by omega
    obtain rfl | rfl : j = 0 ∨ j = 1 := by omega
    · exact .refl _
    · exact .refl _
  repeat' (first | refine vcI ?_ | refine And.intro ?_ ?_ | (intro hq; (try simp at hq); (try (exfalso; omega)); (try (revert hq; intro))))
  refine loopS2 mx (by decide) (by kernel_rfl) (fun (k v : Nat) => k ≤ l.length) (fun k v => [(40, .int .i64 k), (39, .int .i64 l.length), (38, .ref (1, 38) v [] 1 0 l.length), (5, .ptr (1, 5) 1 [] 0 0), (4, .ptr (1, 4) 0 [] 0 0)]) (fun k v => [((1, 38), ⟨v, oints l⟩), ((1, 5), ⟨1, .obox 4 (setC (setOf (l.take k)))⟩), ((1, 4), ⟨0, .obox 4 fun _ => .undef⟩)]) (fun k v => l.length - k) 0 _ (by simp) ⟨by ((repeat' apply And.intro) <;> (first | exact True.intro | exact NEq.refl _ | (refine NEq.int ?_; first | exact rfl | omega | (rw [wrapI (by omega)]; first | exact rfl | omega)))), ?_, .nil⟩ ?_
  · refine ⟨⟨rfl, .refl _⟩, ⟨rfl, .obox fun q hq => ?_⟩, ⟨rfl, .obox fun q hq => ?_⟩, trivial⟩
    · rcases (by have : q < 4 := hq; omega : q = 0 ∨ q = 1 ∨ q = 2 ∨ q = 3) with rfl | rfl | rfl | rfl <;> exact .refl _
    · refine .undef ?_
      rcases (by have : q < 4 := hq; omega : q = 0 ∨ q = 1 ∨ q = 2 ∨ q = 3) with rfl | rfl | rfl | rfl <;> rfl
  intro k v nv hk
  repeat' (first | refine vcI ?_ | refine And.intro ?_ ?_ | (intro hq; (try simp at hq); (try (exfalso; omega)); (try (revert hq; intro))))
  · rename_i hlt
    obtain ⟨r0, r1⟩ := hv _ (getD_mem 0 hlt)
    have est := setOf_take hlt
    refine CallS.onA (L0 := [((1, 5), ⟨1, .obox 4 (setC (setOf (l.take k)))⟩)]) (M := [((1, 38), ⟨v, oints l⟩), ((1, 4), ⟨0, .obox 4 fun _ => .undef⟩)]) (put_at (show (l.getD (0 + (k : Int).toNat) 0) = (((l[k]?.getD 0).toNat : Nat) : Int) by rw [Nat.zero_add]; show l[k]?.getD 0 = _; omega) (setPut5_spec (setOf (l.take k)) (setOf_lt _) ((l[k]?.getD 0).toNat) (by omega) 1 _ _ (Above.chk rfl Above.nil))) (fun r => by simp only [lkH, List.cons_append, List.nil_append]; split <;> split <;> simp_all) ?_
    rintro x L' nv' ⟨rfl, rfl⟩
    repeat' (first | refine vcI ?_ | refine And.intro ?_ ?_ | (intro hq; (try simp at hq); (try (exfalso; omega)); (try (revert hq; intro))))
    refine Exists.intro (k + 1, v) ⟨by omega, (by first | omega | (dsimp only; omega)), ⟨⟨(by refine NEq.int ?_; first | exact rfl | omega | (rw [wrapI (by omega)]; first | exact rfl | omega)), .refl _, .refl _, .refl _, .refl _, trivial⟩, ⟨⟨rfl, .refl _⟩, ⟨rfl, ?_⟩, ⟨rfl, .refl _⟩, trivial⟩, .nil⟩⟩
    show NEq _ (.obox 4 (setC (setOf (l.take (k + 1)))))
    rw [est]
    exact .refl _
  · rename_i hlt
    obtain rfl : k = l.length := by omega
    rw [List.take_length]
    refine NEq.aggL ?_
    ((repeat' apply And.intro) <;> (first | exact True.intro | exact NEq.refl _))

theorem own_3 (o : DO) (lv : PV) (i : Nat) (H : ShH o i 3 [(o.irs.getD i default).a]) (hv : ∀ r ∈ [(o.irs.getD i default).a] ++ usesL (o.descs.getD i []), 0 ≤ r ∧ r < 250) : CallsF Try.prog 78 [codeP o lv, .int .i64 i] (aggW (setOf ([(o.irs.getD i default).a] ++ usesL (o.descs.getD i [])))) := by
  have hi := H.hi
  have hil := H.hil
  have hd := H.hd
  have hdl := H.hdl
  have hop1 : (o.irs[i]?.getD default).op = 3 := H.hop
  have hop2 : (o.irs.getD (i : Int).toNat default).op = 3 := H.hop
  have hlu : [(o.irs.getD i default).a].length ≤ 6001 := by have := H.ha; simp
  have hls : (usesL (o.descs.getD i [])).length ≤ 30000 := by
    rw [← symUses_eq, sortI_len]; exact symKs_len _ H.hfN
  obtain ⟨l, hl⟩ : ∃ l, l = [(o.irs.getD i default).a] ++ usesL (o.descs.getD i []) := ⟨_, rfl⟩
  have hll : l.length ≤ 40000 := by rw [hl, List.length_append]; omega
  rw [← hl] at hv ⊢
  refine callsF_ofS mx Try.call78 Try.func78 rfl Try.ntmps78 Try.results78 (by kernel_rfl) (by simp) fun lo => ?_
  repeat' (first | refine vcI ?_ | refine And.intro ?_ ?_ | (intro hq; (try simp at hq); (try (exfalso; omega)); (try (revert hq; intro))))
  · rw [hop2]; decide
  · rw [hop2]; exact Nat.le_of_ble_eq_true (by kernel_rfl)
  · exact Nat.lt_of_lt_of_eq (by decide : 0 < 1) (by kernel_rfl)
  rw [hop2]
  repeat' (first | refine vcI ?_ | refine And.intro ?_ ?_ | (intro hq; (try simp at hq); (try (exfalso; omega)); (try (revert hq; intro))))
  refine QS.frozen (ints [(o.irs.getD i default).a]) (uA_spec o lv i hi (by omega)) (plainAll rfl) ?_
  repeat' (first | refine vcI ?_ | refine And.intro ?_ ?_ | (intro hq; (try simp at hq); (try (exfalso; omega)); (try (revert hq; intro))))
  refine QS.frozen (ints (usesL (o.descs.getD i []))) (symUses _ H.hfs H.hfN) (plainAll rfl) ?_
  repeat' (first | refine vcI ?_ | refine And.intro ?_ ?_ | (intro hq; (try simp at hq); (try (exfalso; omega)); (try (revert hq; intro))))
  refine QS.ownInts [two2 [(o.irs.getD i default).a] (usesL (o.descs.getD i []))] l (by rw [hl]; exact ConcatAll_spec [(o.irs.getD i default).a] (usesL (o.descs.getD i [])) (by omega) (by omega)) ?_ ?_
  · refine LeL.cons ?_ LeL.nil
    refine NEq.frzs rfl rfl fun j q hj hq => ?_
    obtain rfl : q = 0 := by omega
    obtain rfl | rfl : j = 0 ∨ j = 1 := by omega
    · exact .refl _
    · exact .refl _
  repeat' (first | refine vcI ?_ | refine And.intro ?_ ?_ | (intro hq; (try simp at hq); (try (exfalso; omega)); (try (revert hq; intro))))
  refine loopS2 mx (by decide) (by kernel_rfl) (fun (k v : Nat) => k ≤ l.length) (fun k v => [(40, .int .i64 k), (39, .int .i64 l.length), (38, .ref (1, 38) v [] 1 0 l.length), (5, .ptr (1, 5) 1 [] 0 0), (4, .ptr (1, 4) 0 [] 0 0)]) (fun k v => [((1, 38), ⟨v, oints l⟩), ((1, 5), ⟨1, .obox 4 (setC (setOf (l.take k)))⟩), ((1, 4), ⟨0, .obox 4 fun _ => .undef⟩)]) (fun k v => l.length - k) 0 _ (by simp) ⟨by ((repeat' apply And.intro) <;> (first | exact True.intro | exact NEq.refl _ | (refine NEq.int ?_; first | exact rfl | omega | (rw [wrapI (by omega)]; first | exact rfl | omega)))), ?_, .nil⟩ ?_
  · refine ⟨⟨rfl, .refl _⟩, ⟨rfl, .obox fun q hq => ?_⟩, ⟨rfl, .obox fun q hq => ?_⟩, trivial⟩
    · rcases (by have : q < 4 := hq; omega : q = 0 ∨ q = 1 ∨ q = 2 ∨ q = 3) with rfl | rfl | rfl | rfl <;> exact .refl _
    · refine .undef ?_
      rcases (by have : q < 4 := hq; omega : q = 0 ∨ q = 1 ∨ q = 2 ∨ q = 3) with rfl | rfl | rfl | rfl <;> rfl
  intro k v nv hk
  repeat' (first | refine vcI ?_ | refine And.intro ?_ ?_ | (intro hq; (try simp at hq); (try (exfalso; omega)); (try (revert hq; intro))))
  · rename_i hlt
    obtain ⟨r0, r1⟩ := hv _ (getD_mem 0 hlt)
    have est := setOf_take hlt
    refine CallS.onA (L0 := [((1, 5), ⟨1, .obox 4 (setC (setOf (l.take k)))⟩)]) (M := [((1, 38), ⟨v, oints l⟩), ((1, 4), ⟨0, .obox 4 fun _ => .undef⟩)]) (put_at (show (l.getD (0 + (k : Int).toNat) 0) = (((l[k]?.getD 0).toNat : Nat) : Int) by rw [Nat.zero_add]; show l[k]?.getD 0 = _; omega) (setPut5_spec (setOf (l.take k)) (setOf_lt _) ((l[k]?.getD 0).toNat) (by omega) 1 _ _ (Above.chk rfl Above.nil))) (fun r => by simp only [lkH, List.cons_append, List.nil_append]; split <;> split <;> simp_all) ?_
    rintro x L' nv' ⟨rfl, rfl⟩
    repeat' (first | refine vcI ?_ | refine And.intro ?_ ?_ | (intro hq; (try simp at hq); (try (exfalso; omega)); (try (revert hq; intro))))
    refine Exists.intro (k + 1, v) ⟨by omega, (by first | omega | (dsimp only; omega)), ⟨⟨(by refine NEq.int ?_; first | exact rfl | omega | (rw [wrapI (by omega)]; first | exact rfl | omega)), .refl _, .refl _, .refl _, .refl _, trivial⟩, ⟨⟨rfl, .refl _⟩, ⟨rfl, ?_⟩, ⟨rfl, .refl _⟩, trivial⟩, .nil⟩⟩
    show NEq _ (.obox 4 (setC (setOf (l.take (k + 1)))))
    rw [est]
    exact .refl _
  · rename_i hlt
    obtain rfl : k = l.length := by omega
    rw [List.take_length]
    refine NEq.aggL ?_
    ((repeat' apply And.intro) <;> (first | exact True.intro | exact NEq.refl _))

theorem own_4 (o : DO) (lv : PV) (i : Nat) (H : ShH o i 4 [(o.irs.getD i default).a]) (hv : ∀ r ∈ [(o.irs.getD i default).a] ++ usesL (o.descs.getD i []), 0 ≤ r ∧ r < 250) : CallsF Try.prog 78 [codeP o lv, .int .i64 i] (aggW (setOf ([(o.irs.getD i default).a] ++ usesL (o.descs.getD i [])))) := by
  have hi := H.hi
  have hil := H.hil
  have hd := H.hd
  have hdl := H.hdl
  have hop1 : (o.irs[i]?.getD default).op = 4 := H.hop
  have hop2 : (o.irs.getD (i : Int).toNat default).op = 4 := H.hop
  have hlu : [(o.irs.getD i default).a].length ≤ 6001 := by have := H.ha; simp
  have hls : (usesL (o.descs.getD i [])).length ≤ 30000 := by
    rw [← symUses_eq, sortI_len]; exact symKs_len _ H.hfN
  obtain ⟨l, hl⟩ : ∃ l, l = [(o.irs.getD i default).a] ++ usesL (o.descs.getD i []) := ⟨_, rfl⟩
  have hll : l.length ≤ 40000 := by rw [hl, List.length_append]; omega
  rw [← hl] at hv ⊢
  refine callsF_ofS mx Try.call78 Try.func78 rfl Try.ntmps78 Try.results78 (by kernel_rfl) (by simp) fun lo => ?_
  repeat' (first | refine vcI ?_ | refine And.intro ?_ ?_ | (intro hq; (try simp at hq); (try (exfalso; omega)); (try (revert hq; intro))))
  · rw [hop2]; decide
  · rw [hop2]; exact Nat.le_of_ble_eq_true (by kernel_rfl)
  · exact Nat.lt_of_lt_of_eq (by decide : 0 < 1) (by kernel_rfl)
  rw [hop2]
  repeat' (first | refine vcI ?_ | refine And.intro ?_ ?_ | (intro hq; (try simp at hq); (try (exfalso; omega)); (try (revert hq; intro))))
  refine QS.frozen (ints [(o.irs.getD i default).a]) (uA_spec o lv i hi (by omega)) (plainAll rfl) ?_
  repeat' (first | refine vcI ?_ | refine And.intro ?_ ?_ | (intro hq; (try simp at hq); (try (exfalso; omega)); (try (revert hq; intro))))
  refine QS.frozen (ints (usesL (o.descs.getD i []))) (symUses _ H.hfs H.hfN) (plainAll rfl) ?_
  repeat' (first | refine vcI ?_ | refine And.intro ?_ ?_ | (intro hq; (try simp at hq); (try (exfalso; omega)); (try (revert hq; intro))))
  refine QS.ownInts [two2 [(o.irs.getD i default).a] (usesL (o.descs.getD i []))] l (by rw [hl]; exact ConcatAll_spec [(o.irs.getD i default).a] (usesL (o.descs.getD i [])) (by omega) (by omega)) ?_ ?_
  · refine LeL.cons ?_ LeL.nil
    refine NEq.frzs rfl rfl fun j q hj hq => ?_
    obtain rfl : q = 0 := by omega
    obtain rfl | rfl : j = 0 ∨ j = 1 := by omega
    · exact .refl _
    · exact .refl _
  repeat' (first | refine vcI ?_ | refine And.intro ?_ ?_ | (intro hq; (try simp at hq); (try (exfalso; omega)); (try (revert hq; intro))))
  refine loopS2 mx (by decide) (by kernel_rfl) (fun (k v : Nat) => k ≤ l.length) (fun k v => [(40, .int .i64 k), (39, .int .i64 l.length), (38, .ref (1, 38) v [] 1 0 l.length), (5, .ptr (1, 5) 1 [] 0 0), (4, .ptr (1, 4) 0 [] 0 0)]) (fun k v => [((1, 38), ⟨v, oints l⟩), ((1, 5), ⟨1, .obox 4 (setC (setOf (l.take k)))⟩), ((1, 4), ⟨0, .obox 4 fun _ => .undef⟩)]) (fun k v => l.length - k) 0 _ (by simp) ⟨by ((repeat' apply And.intro) <;> (first | exact True.intro | exact NEq.refl _ | (refine NEq.int ?_; first | exact rfl | omega | (rw [wrapI (by omega)]; first | exact rfl | omega)))), ?_, .nil⟩ ?_
  · refine ⟨⟨rfl, .refl _⟩, ⟨rfl, .obox fun q hq => ?_⟩, ⟨rfl, .obox fun q hq => ?_⟩, trivial⟩
    · rcases (by have : q < 4 := hq; omega : q = 0 ∨ q = 1 ∨ q = 2 ∨ q = 3) with rfl | rfl | rfl | rfl <;> exact .refl _
    · refine .undef ?_
      rcases (by have : q < 4 := hq; omega : q = 0 ∨ q = 1 ∨ q = 2 ∨ q = 3) with rfl | rfl | rfl | rfl <;> rfl
  intro k v nv hk
  repeat' (first | refine vcI ?_ | refine And.intro ?_ ?_ | (intro hq; (try simp at hq); (try (exfalso; omega)); (try (revert hq; intro))))
  · rename_i hlt
    obtain ⟨r0, r1⟩ := hv _ (getD_mem 0 hlt)
    have est := setOf_take hlt
    refine CallS.onA (L0 := [((1, 5), ⟨1, .obox 4 (setC (setOf (l.take k)))⟩)]) (M := [((1, 38), ⟨v, oints l⟩), ((1, 4), ⟨0, .obox 4 fun _ => .undef⟩)]) (put_at (show (l.getD (0 + (k : Int).toNat) 0) = (((l[k]?.getD 0).toNat : Nat) : Int) by rw [Nat.zero_add]; show l[k]?.getD 0 = _; omega) (setPut5_spec (setOf (l.take k)) (setOf_lt _) ((l[k]?.getD 0).toNat) (by omega) 1 _ _ (Above.chk rfl Above.nil))) (fun r => by simp only [lkH, List.cons_append, List.nil_append]; split <;> split <;> simp_all) ?_
    rintro x L' nv' ⟨rfl, rfl⟩
    repeat' (first | refine vcI ?_ | refine And.intro ?_ ?_ | (intro hq; (try simp at hq); (try (exfalso; omega)); (try (revert hq; intro))))
    refine Exists.intro (k + 1, v) ⟨by omega, (by first | omega | (dsimp only; omega)), ⟨⟨(by refine NEq.int ?_; first | exact rfl | omega | (rw [wrapI (by omega)]; first | exact rfl | omega)), .refl _, .refl _, .refl _, .refl _, trivial⟩, ⟨⟨rfl, .refl _⟩, ⟨rfl, ?_⟩, ⟨rfl, .refl _⟩, trivial⟩, .nil⟩⟩
    show NEq _ (.obox 4 (setC (setOf (l.take (k + 1)))))
    rw [est]
    exact .refl _
  · rename_i hlt
    obtain rfl : k = l.length := by omega
    rw [List.take_length]
    refine NEq.aggL ?_
    ((repeat' apply And.intro) <;> (first | exact True.intro | exact NEq.refl _))

theorem own_5 (o : DO) (lv : PV) (i : Nat) (H : ShH o i 5 [(o.irs.getD i default).a, (o.irs.getD i default).b]) (hv : ∀ r ∈ [(o.irs.getD i default).a, (o.irs.getD i default).b] ++ usesL (o.descs.getD i []), 0 ≤ r ∧ r < 250) : CallsF Try.prog 78 [codeP o lv, .int .i64 i] (aggW (setOf ([(o.irs.getD i default).a, (o.irs.getD i default).b] ++ usesL (o.descs.getD i [])))) := by
  have hi := H.hi
  have hil := H.hil
  have hd := H.hd
  have hdl := H.hdl
  have hop1 : (o.irs[i]?.getD default).op = 5 := H.hop
  have hop2 : (o.irs.getD (i : Int).toNat default).op = 5 := H.hop
  have hlu : [(o.irs.getD i default).a, (o.irs.getD i default).b].length ≤ 6001 := by have := H.ha; simp
  have hls : (usesL (o.descs.getD i [])).length ≤ 30000 := by
    rw [← symUses_eq, sortI_len]; exact symKs_len _ H.hfN
  obtain ⟨l, hl⟩ : ∃ l, l = [(o.irs.getD i default).a, (o.irs.getD i default).b] ++ usesL (o.descs.getD i []) := ⟨_, rfl⟩
  have hll : l.length ≤ 40000 := by rw [hl, List.length_append]; omega
  rw [← hl] at hv ⊢
  refine callsF_ofS mx Try.call78 Try.func78 rfl Try.ntmps78 Try.results78 (by kernel_rfl) (by simp) fun lo => ?_
  repeat' (first | refine vcI ?_ | refine And.intro ?_ ?_ | (intro hq; (try simp at hq); (try (exfalso; omega)); (try (revert hq; intro))))
  · rw [hop2]; decide
  · rw [hop2]; exact Nat.le_of_ble_eq_true (by kernel_rfl)
  · exact Nat.lt_of_lt_of_eq (by decide : 0 < 1) (by kernel_rfl)
  rw [hop2]
  repeat' (first | refine vcI ?_ | refine And.intro ?_ ?_ | (intro hq; (try simp at hq); (try (exfalso; omega)); (try (revert hq; intro))))
  refine QS.frozen (ints [(o.irs.getD i default).a, (o.irs.getD i default).b]) (uAB_spec o lv i hi (by omega)) (plainAll rfl) ?_
  repeat' (first | refine vcI ?_ | refine And.intro ?_ ?_ | (intro hq; (try simp at hq); (try (exfalso; omega)); (try (revert hq; intro))))
  refine QS.frozen (ints (usesL (o.descs.getD i []))) (symUses _ H.hfs H.hfN) (plainAll rfl) ?_
  repeat' (first | refine vcI ?_ | refine And.intro ?_ ?_ | (intro hq; (try simp at hq); (try (exfalso; omega)); (try (revert hq; intro))))
  refine QS.ownInts [two2 [(o.irs.getD i default).a, (o.irs.getD i default).b] (usesL (o.descs.getD i []))] l (by rw [hl]; exact ConcatAll_spec [(o.irs.getD i default).a, (o.irs.getD i default).b] (usesL (o.descs.getD i [])) (by omega) (by omega)) ?_ ?_
  · refine LeL.cons ?_ LeL.nil
    refine NEq.frzs rfl rfl fun j q hj hq => ?_
    obtain rfl : q = 0 := by omega
    obtain rfl | rfl : j = 0 ∨ j = 1 := by omega
    · exact .refl _
    · exact .refl _
  repeat' (first | refine vcI ?_ | refine And.intro ?_ ?_ | (intro hq; (try simp at hq); (try (exfalso; omega)); (try (revert hq; intro))))
  refine loopS2 mx (by decide) (by kernel_rfl) (fun (k v : Nat) => k ≤ l.length) (fun k v => [(40, .int .i64 k), (39, .int .i64 l.length), (38, .ref (1, 38) v [] 1 0 l.length), (5, .ptr (1, 5) 1 [] 0 0), (4, .ptr (1, 4) 0 [] 0 0)]) (fun k v => [((1, 38), ⟨v, oints l⟩), ((1, 5), ⟨1, .obox 4 (setC (setOf (l.take k)))⟩), ((1, 4), ⟨0, .obox 4 fun _ => .undef⟩)]) (fun k v => l.length - k) 0 _ (by simp) ⟨by ((repeat' apply And.intro) <;> (first | exact True.intro | exact NEq.refl _ | (refine NEq.int ?_; first | exact rfl | omega | (rw [wrapI (by omega)]; first | exact rfl | omega)))), ?_, .nil⟩ ?_
  · refine ⟨⟨rfl, .refl _⟩, ⟨rfl, .obox fun q hq => ?_⟩, ⟨rfl, .obox fun q hq => ?_⟩, trivial⟩
    · rcases (by have : q < 4 := hq; omega : q = 0 ∨ q = 1 ∨ q = 2 ∨ q = 3) with rfl | rfl | rfl | rfl <;> exact .refl _
    · refine .undef ?_
      rcases (by have : q < 4 := hq; omega : q = 0 ∨ q = 1 ∨ q = 2 ∨ q = 3) with rfl | rfl | rfl | rfl <;> rfl
  intro k v nv hk
  repeat' (first | refine vcI ?_ | refine And.intro ?_ ?_ | (intro hq; (try simp at hq); (try (exfalso; omega)); (try (revert hq; intro))))
  · rename_i hlt
    obtain ⟨r0, r1⟩ := hv _ (getD_mem 0 hlt)
    have est := setOf_take hlt
    refine CallS.onA (L0 := [((1, 5), ⟨1, .obox 4 (setC (setOf (l.take k)))⟩)]) (M := [((1, 38), ⟨v, oints l⟩), ((1, 4), ⟨0, .obox 4 fun _ => .undef⟩)]) (put_at (show (l.getD (0 + (k : Int).toNat) 0) = (((l[k]?.getD 0).toNat : Nat) : Int) by rw [Nat.zero_add]; show l[k]?.getD 0 = _; omega) (setPut5_spec (setOf (l.take k)) (setOf_lt _) ((l[k]?.getD 0).toNat) (by omega) 1 _ _ (Above.chk rfl Above.nil))) (fun r => by simp only [lkH, List.cons_append, List.nil_append]; split <;> split <;> simp_all) ?_
    rintro x L' nv' ⟨rfl, rfl⟩
    repeat' (first | refine vcI ?_ | refine And.intro ?_ ?_ | (intro hq; (try simp at hq); (try (exfalso; omega)); (try (revert hq; intro))))
    refine Exists.intro (k + 1, v) ⟨by omega, (by first | omega | (dsimp only; omega)), ⟨⟨(by refine NEq.int ?_; first | exact rfl | omega | (rw [wrapI (by omega)]; first | exact rfl | omega)), .refl _, .refl _, .refl _, .refl _, trivial⟩, ⟨⟨rfl, .refl _⟩, ⟨rfl, ?_⟩, ⟨rfl, .refl _⟩, trivial⟩, .nil⟩⟩
    show NEq _ (.obox 4 (setC (setOf (l.take (k + 1)))))
    rw [est]
    exact .refl _
  · rename_i hlt
    obtain rfl : k = l.length := by omega
    rw [List.take_length]
    refine NEq.aggL ?_
    ((repeat' apply And.intro) <;> (first | exact True.intro | exact NEq.refl _))

theorem own_6 (o : DO) (lv : PV) (i : Nat) (H : ShH o i 6 ((o.irs.getD i default).a :: (o.irs.getD i default).args)) (hv : ∀ r ∈ ((o.irs.getD i default).a :: (o.irs.getD i default).args) ++ usesL (o.descs.getD i []), 0 ≤ r ∧ r < 250) : CallsF Try.prog 78 [codeP o lv, .int .i64 i] (aggW (setOf (((o.irs.getD i default).a :: (o.irs.getD i default).args) ++ usesL (o.descs.getD i [])))) := by
  have hi := H.hi
  have hil := H.hil
  have hd := H.hd
  have hdl := H.hdl
  have hop1 : (o.irs[i]?.getD default).op = 6 := H.hop
  have hop2 : (o.irs.getD (i : Int).toNat default).op = 6 := H.hop
  have hlu : ((o.irs.getD i default).a :: (o.irs.getD i default).args).length ≤ 6001 := by have := H.ha; rw [List.length_cons]; omega
  have hls : (usesL (o.descs.getD i [])).length ≤ 30000 := by
    rw [← symUses_eq, sortI_len]; exact symKs_len _ H.hfN
  obtain ⟨l, hl⟩ : ∃ l, l = ((o.irs.getD i default).a :: (o.irs.getD i default).args) ++ usesL (o.descs.getD i []) := ⟨_, rfl⟩
  have hll : l.length ≤ 40000 := by rw [hl, List.length_append]; omega
  rw [← hl] at hv ⊢
  refine callsF_ofS mx Try.call78 Try.func78 rfl Try.ntmps78 Try.results78 (by kernel_rfl) (by simp) fun lo => ?_
  repeat' (first | refine vcI ?_ | refine And.intro ?_ ?_ | (intro hq; (try simp at hq); (try (exfalso; omega)); (try (revert hq; intro))))
  · rw [hop2]; decide
  · rw [hop2]; exact Nat.le_of_ble_eq_true (by kernel_rfl)
  · exact Nat.lt_of_lt_of_eq (by decide : 0 < 1) (by kernel_rfl)
  rw [hop2]
  repeat' (first | refine vcI ?_ | refine And.intro ?_ ?_ | (intro hq; (try simp at hq); (try (exfalso; omega)); (try (revert hq; intro))))
  refine QS.frozen (ints ((o.irs.getD i default).a :: (o.irs.getD i default).args)) (uAll_spec o lv i hi (by omega) (by have := H.ha; omega)) (plainAll rfl) ?_
  repeat' (first | refine vcI ?_ | refine And.intro ?_ ?_ | (intro hq; (try simp at hq); (try (exfalso; omega)); (try (revert hq; intro))))
  refine QS.frozen (ints (usesL (o.descs.getD i []))) (symUses _ H.hfs H.hfN) (plainAll rfl) ?_
  repeat' (first | refine vcI ?_ | refine And.intro ?_ ?_ | (intro hq; (try simp at hq); (try (exfalso; omega)); (try (revert hq; intro))))
  refine QS.ownInts [two2 ((o.irs.getD i default).a :: (o.irs.getD i default).args) (usesL (o.descs.getD i []))] l (by rw [hl]; exact ConcatAll_spec ((o.irs.getD i default).a :: (o.irs.getD i default).args) (usesL (o.descs.getD i [])) (by omega) (by omega)) ?_ ?_
  · refine LeL.cons ?_ LeL.nil
    refine NEq.frzs rfl rfl fun j q hj hq => ?_
    obtain rfl : q = 0 := by omega
    obtain rfl | rfl : j = 0 ∨ j = 1 := by omega
    · exact .refl _
    · exact .refl _
  repeat' (first | refine vcI ?_ | refine And.intro ?_ ?_ | (intro hq; (try simp at hq); (try (exfalso; omega)); (try (revert hq; intro))))
  refine loopS2 mx (by decide) (by kernel_rfl) (fun (k v : Nat) => k ≤ l.length) (fun k v => [(40, .int .i64 k), (39, .int .i64 l.length), (38, .ref (1, 38) v [] 1 0 l.length), (5, .ptr (1, 5) 1 [] 0 0), (4, .ptr (1, 4) 0 [] 0 0)]) (fun k v => [((1, 38), ⟨v, oints l⟩), ((1, 5), ⟨1, .obox 4 (setC (setOf (l.take k)))⟩), ((1, 4), ⟨0, .obox 4 fun _ => .undef⟩)]) (fun k v => l.length - k) 0 _ (by simp) ⟨by ((repeat' apply And.intro) <;> (first | exact True.intro | exact NEq.refl _ | (refine NEq.int ?_; first | exact rfl | omega | (rw [wrapI (by omega)]; first | exact rfl | omega)))), ?_, .nil⟩ ?_
  · refine ⟨⟨rfl, .refl _⟩, ⟨rfl, .obox fun q hq => ?_⟩, ⟨rfl, .obox fun q hq => ?_⟩, trivial⟩
    · rcases (by have : q < 4 := hq; omega : q = 0 ∨ q = 1 ∨ q = 2 ∨ q = 3) with rfl | rfl | rfl | rfl <;> exact .refl _
    · refine .undef ?_
      rcases (by have : q < 4 := hq; omega : q = 0 ∨ q = 1 ∨ q = 2 ∨ q = 3) with rfl | rfl | rfl | rfl <;> rfl
  intro k v nv hk
  repeat' (first | refine vcI ?_ | refine And.intro ?_ ?_ | (intro hq; (try simp at hq); (try (exfalso; omega)); (try (revert hq; intro))))
  · rename_i hlt
    obtain ⟨r0, r1⟩ := hv _ (getD_mem 0 hlt)
    have est := setOf_take hlt
    refine CallS.onA (L0 := [((1, 5), ⟨1, .obox 4 (setC (setOf (l.take k)))⟩)]) (M := [((1, 38), ⟨v, oints l⟩), ((1, 4), ⟨0, .obox 4 fun _ => .undef⟩)]) (put_at (show (l.getD (0 + (k : Int).toNat) 0) = (((l[k]?.getD 0).toNat : Nat) : Int) by rw [Nat.zero_add]; show l[k]?.getD 0 = _; omega) (setPut5_spec (setOf (l.take k)) (setOf_lt _) ((l[k]?.getD 0).toNat) (by omega) 1 _ _ (Above.chk rfl Above.nil))) (fun r => by simp only [lkH, List.cons_append, List.nil_append]; split <;> split <;> simp_all) ?_
    rintro x L' nv' ⟨rfl, rfl⟩
    repeat' (first | refine vcI ?_ | refine And.intro ?_ ?_ | (intro hq; (try simp at hq); (try (exfalso; omega)); (try (revert hq; intro))))
    refine Exists.intro (k + 1, v) ⟨by omega, (by first | omega | (dsimp only; omega)), ⟨⟨(by refine NEq.int ?_; first | exact rfl | omega | (rw [wrapI (by omega)]; first | exact rfl | omega)), .refl _, .refl _, .refl _, .refl _, trivial⟩, ⟨⟨rfl, .refl _⟩, ⟨rfl, ?_⟩, ⟨rfl, .refl _⟩, trivial⟩, .nil⟩⟩
    show NEq _ (.obox 4 (setC (setOf (l.take (k + 1)))))
    rw [est]
    exact .refl _
  · rename_i hlt
    obtain rfl : k = l.length := by omega
    rw [List.take_length]
    refine NEq.aggL ?_
    ((repeat' apply And.intro) <;> (first | exact True.intro | exact NEq.refl _))

theorem own_7 (o : DO) (lv : PV) (i : Nat) (H : ShH o i 7 ((o.irs.getD i default).a :: (o.irs.getD i default).args)) (hv : ∀ r ∈ ((o.irs.getD i default).a :: (o.irs.getD i default).args) ++ usesL (o.descs.getD i []), 0 ≤ r ∧ r < 250) : CallsF Try.prog 78 [codeP o lv, .int .i64 i] (aggW (setOf (((o.irs.getD i default).a :: (o.irs.getD i default).args) ++ usesL (o.descs.getD i [])))) := by
  have hi := H.hi
  have hil := H.hil
  have hd := H.hd
  have hdl := H.hdl
  have hop1 : (o.irs[i]?.getD default).op = 7 := H.hop
  have hop2 : (o.irs.getD (i : Int).toNat default).op = 7 := H.hop
  have hlu : ((o.irs.getD i default).a :: (o.irs.getD i default).args).length ≤ 6001 := by have := H.ha; rw [List.length_cons]; omega
  have hls : (usesL (o.descs.getD i [])).length ≤ 30000 := by
    rw [← symUses_eq, sortI_len]; exact symKs_len _ H.hfN
  obtain ⟨l, hl⟩ : ∃ l, l = ((o.irs.getD i default).a :: (o.irs.getD i default).args) ++ usesL (o.descs.getD i []) := ⟨_, rfl⟩
  have hll : l.length ≤ 40000 := by rw [hl, List.length_append]; omega
  rw [← hl] at hv ⊢
  refine callsF_ofS mx Try.call78 Try.func78 rfl Try.ntmps78 Try.results78 (by kernel_rfl) (by simp) fun lo => ?_
  repeat' (first | refine vcI ?_ | refine And.intro ?_ ?_ | (intro hq; (try simp at hq); (try (exfalso; omega)); (try (revert hq; intro))))
  · rw [hop2]; decide
  · rw [hop2]; exact Nat.le_of_ble_eq_true (by kernel_rfl)
  · exact Nat.lt_of_lt_of_eq (by decide : 0 < 1) (by kernel_rfl)
  rw [hop2]
  repeat' (first | refine vcI ?_ | refine And.intro ?_ ?_ | (intro hq; (try simp at hq); (try (exfalso; omega)); (try (revert hq; intro))))
  refine QS.frozen (ints ((o.irs.getD i default).a :: (o.irs.getD i default).args)) (uAll_spec o lv i hi (by omega) (by have := H.ha; omega)) (plainAll rfl) ?_
  repeat' (first | refine vcI ?_ | refine And.intro ?_ ?_ | (intro hq; (try simp at hq); (try (exfalso; omega)); (try (revert hq; intro))))
  refine QS.frozen (ints (usesL (o.descs.getD i []))) (symUses _ H.hfs H.hfN) (plainAll rfl) ?_
  repeat' (first | refine vcI ?_ | refine And.intro ?_ ?_ | (intro hq; (try simp at hq); (try (exfalso; omega)); (try (revert hq; intro))))
  refine QS.ownInts [two2 ((o.irs.getD i default).a :: (o.irs.getD i default).args) (usesL (o.descs.getD i []))] l (by rw [hl]; exact ConcatAll_spec ((o.irs.getD i default).a :: (o.irs.getD i default).args) (usesL (o.descs.getD i [])) (by omega) (by omega)) ?_ ?_
  · refine LeL.cons ?_ LeL.nil
    refine NEq.frzs rfl rfl fun j q hj hq => ?_
    obtain rfl : q = 0 := by omega
    obtain rfl | rfl : j = 0 ∨ j = 1 := by omega
    · exact .refl _
    · exact .refl _
  repeat' (first | refine vcI ?_ | refine And.intro ?_ ?_ | (intro hq; (try simp at hq); (try (exfalso; omega)); (try (revert hq; intro))))
  refine loopS2 mx (by decide) (by kernel_rfl) (fun (k v : Nat) => k ≤ l.length) (fun k v => [(40, .int .i64 k), (39, .int .i64 l.length), (38, .ref (1, 38) v [] 1 0 l.length), (5, .ptr (1, 5) 1 [] 0 0), (4, .ptr (1, 4) 0 [] 0 0)]) (fun k v => [((1, 38), ⟨v, oints l⟩), ((1, 5), ⟨1, .obox 4 (setC (setOf (l.take k)))⟩), ((1, 4), ⟨0, .obox 4 fun _ => .undef⟩)]) (fun k v => l.length - k) 0 _ (by simp) ⟨by ((repeat' apply And.intro) <;> (first | exact True.intro | exact NEq.refl _ | (refine NEq.int ?_; first | exact rfl | omega | (rw [wrapI (by omega)]; first | exact rfl | omega)))), ?_, .nil⟩ ?_
  · refine ⟨⟨rfl, .refl _⟩, ⟨rfl, .obox fun q hq => ?_⟩, ⟨rfl, .obox fun q hq => ?_⟩, trivial⟩
    · rcases (by have : q < 4 := hq; omega : q = 0 ∨ q = 1 ∨ q = 2 ∨ q = 3) with rfl | rfl | rfl | rfl <;> exact .refl _
    · refine .undef ?_
      rcases (by have : q < 4 := hq; omega : q = 0 ∨ q = 1 ∨ q = 2 ∨ q = 3) with rfl | rfl | rfl | rfl <;> rfl
  intro k v nv hk
  repeat' (first | refine vcI ?_ | refine And.intro ?_ ?_ | (intro hq; (try simp at hq); (try (exfalso; omega)); (try (revert hq; intro))))
  · rename_i hlt
    obtain ⟨r0, r1⟩ := hv _ (getD_mem 0 hlt)
    have est := setOf_take hlt
    refine CallS.onA (L0 := [((1, 5), ⟨1, .obox 4 (setC (setOf (l.take k)))⟩)]) (M := [((1, 38), ⟨v, oints l⟩), ((1, 4), ⟨0, .obox 4 fun _ => .undef⟩)]) (put_at (show (l.getD (0 + (k : Int).toNat) 0) = (((l[k]?.getD 0).toNat : Nat) : Int) by rw [Nat.zero_add]; show l[k]?.getD 0 = _; omega) (setPut5_spec (setOf (l.take k)) (setOf_lt _) ((l[k]?.getD 0).toNat) (by omega) 1 _ _ (Above.chk rfl Above.nil))) (fun r => by simp only [lkH, List.cons_append, List.nil_append]; split <;> split <;> simp_all) ?_
    rintro x L' nv' ⟨rfl, rfl⟩
    repeat' (first | refine vcI ?_ | refine And.intro ?_ ?_ | (intro hq; (try simp at hq); (try (exfalso; omega)); (try (revert hq; intro))))
    refine Exists.intro (k + 1, v) ⟨by omega, (by first | omega | (dsimp only; omega)), ⟨⟨(by refine NEq.int ?_; first | exact rfl | omega | (rw [wrapI (by omega)]; first | exact rfl | omega)), .refl _, .refl _, .refl _, .refl _, trivial⟩, ⟨⟨rfl, .refl _⟩, ⟨rfl, ?_⟩, ⟨rfl, .refl _⟩, trivial⟩, .nil⟩⟩
    show NEq _ (.obox 4 (setC (setOf (l.take (k + 1)))))
    rw [est]
    exact .refl _
  · rename_i hlt
    obtain rfl : k = l.length := by omega
    rw [List.take_length]
    refine NEq.aggL ?_
    ((repeat' apply And.intro) <;> (first | exact True.intro | exact NEq.refl _))

theorem own_8 (o : DO) (lv : PV) (i : Nat) (H : ShH o i 8 ([] : List Int)) (hv : ∀ r ∈ ([] : List Int) ++ usesL (o.descs.getD i []), 0 ≤ r ∧ r < 250) : CallsF Try.prog 78 [codeP o lv, .int .i64 i] (aggW (setOf (([] : List Int) ++ usesL (o.descs.getD i [])))) := by
  have hi := H.hi
  have hil := H.hil
  have hd := H.hd
  have hdl := H.hdl
  have hop1 : (o.irs[i]?.getD default).op = 8 := H.hop
  have hop2 : (o.irs.getD (i : Int).toNat default).op = 8 := H.hop
  have hlu : ([] : List Int).length ≤ 6001 := by have := H.ha; simp
  have hls : (usesL (o.descs.getD i [])).length ≤ 30000 := by
    rw [← symUses_eq, sortI_len]; exact symKs_len _ H.hfN
  obtain ⟨l, hl⟩ : ∃ l, l = ([] : List Int) ++ usesL (o.descs.getD i []) := ⟨_, rfl⟩
  have hll : l.length ≤ 40000 := by rw [hl, List.length_append]; omega
  rw [← hl] at hv ⊢
  refine callsF_ofS mx Try.call78 Try.func78 rfl Try.ntmps78 Try.results78 (by kernel_rfl) (by simp) fun lo => ?_
  repeat' (first | refine vcI ?_ | refine And.intro ?_ ?_ | (intro hq; (try simp at hq); (try (exfalso; omega)); (try (revert hq; intro))))
  · rw [hop2]; decide
  · rw [hop2]; exact Nat.le_of_ble_eq_true (by kernel_rfl)
  · exact Nat.lt_of_lt_of_eq (by decide : 0 < 1) (by kernel_rfl)
  rw [hop2]
  repeat' (first | refine vcI ?_ | refine And.intro ?_ ?_ | (intro hq; (try simp at hq); (try (exfalso; omega)); (try (revert hq; intro))))
  refine QS.frozen (ints ([] : List Int)) (uNone_spec _ _) (plainAll rfl) ?_
  repeat' (first | refine vcI ?_ | refine And.intro ?_ ?_ | (intro hq; (try simp at hq); (try (exfalso; omega)); (try (revert hq; intro))))
  refine QS.frozen (ints (usesL (o.descs.getD i []))) (symUses _ H.hfs H.hfN) (plainAll rfl) ?_
  repeat' (first | refine vcI ?_ | refine And.intro ?_ ?_ | (intro hq; (try simp at hq); (try (exfalso; omega)); (try (revert hq; intro))))
  refine QS.ownInts [two2 ([] : List Int) (usesL (o.descs.getD i []))] l (by rw [hl]; exact ConcatAll_spec ([] : List Int) (usesL (o.descs.getD i [])) (by omega) (by omega)) ?_ ?_
  · refine LeL.cons ?_ LeL.nil
    refine NEq.frzs rfl rfl fun j q hj hq => ?_
    obtain rfl : q = 0 := by omega
    obtain rfl | rfl : j = 0 ∨ j = 1 := by omega
    · exact .refl _
    · exact .refl _
  repeat' (first | refine vcI ?_ | refine And.intro ?_ ?_ | (intro hq; (try simp at hq); (try (exfalso; omega)); (try (revert hq; intro))))
  refine loopS2 mx (by decide) (by kernel_rfl) (fun (k v : Nat) => k ≤ l.length) (fun k v => [(40, .int .i64 k), (39, .int .i64 l.length), (38, .ref (1, 38) v [] 1 0 l.length), (5, .ptr (1, 5) 1 [] 0 0), (4, .ptr (1, 4) 0 [] 0 0)]) (fun k v => [((1, 38), ⟨v, oints l⟩), ((1, 5), ⟨1, .obox 4 (setC (setOf (l.take k)))⟩), ((1, 4), ⟨0, .obox 4 fun _ => .undef⟩)]) (fun k v => l.length - k) 0 _ (by simp) ⟨by ((repeat' apply And.intro) <;> (first | exact True.intro | exact NEq.refl _ | (refine NEq.int ?_; first | exact rfl | omega | (rw [wrapI (by omega)]; first | exact rfl | omega)))), ?_, .nil⟩ ?_
  · refine ⟨⟨rfl, .refl _⟩, ⟨rfl, .obox fun q hq => ?_⟩, ⟨rfl, .obox fun q hq => ?_⟩, trivial⟩
    · rcases (by have : q < 4 := hq; omega : q = 0 ∨ q = 1 ∨ q = 2 ∨ q = 3) with rfl | rfl | rfl | rfl <;> exact .refl _
    · refine .undef ?_
      rcases (by have : q < 4 := hq; omega : q = 0 ∨ q = 1 ∨ q = 2 ∨ q = 3) with rfl | rfl | rfl | rfl <;> rfl
  intro k v nv hk
  repeat' (first | refine vcI ?_ | refine And.intro ?_ ?_ | (intro hq; (try simp at hq); (try (exfalso; omega)); (try (revert hq; intro))))
  · rename_i hlt
    obtain ⟨r0, r1⟩ := hv _ (getD_mem 0 hlt)
    have est := setOf_take hlt
    refine CallS.onA (L0 := [((1, 5), ⟨1, .obox 4 (setC (setOf (l.take k)))⟩)]) (M := [((1, 38), ⟨v, oints l⟩), ((1, 4), ⟨0, .obox 4 fun _ => .undef⟩)]) (put_at (show (l.getD (0 + (k : Int).toNat) 0) = (((l[k]?.getD 0).toNat : Nat) : Int) by rw [Nat.zero_add]; show l[k]?.getD 0 = _; omega) (setPut5_spec (setOf (l.take k)) (setOf_lt _) ((l[k]?.getD 0).toNat) (by omega) 1 _ _ (Above.chk rfl Above.nil))) (fun r => by simp only [lkH, List.cons_append, List.nil_append]; split <;> split <;> simp_all) ?_
    rintro x L' nv' ⟨rfl, rfl⟩
    repeat' (first | refine vcI ?_ | refine And.intro ?_ ?_ | (intro hq; (try simp at hq); (try (exfalso; omega)); (try (revert hq; intro))))
    refine Exists.intro (k + 1, v) ⟨by omega, (by first | omega | (dsimp only; omega)), ⟨⟨(by refine NEq.int ?_; first | exact rfl | omega | (rw [wrapI (by omega)]; first | exact rfl | omega)), .refl _, .refl _, .refl _, .refl _, trivial⟩, ⟨⟨rfl, .refl _⟩, ⟨rfl, ?_⟩, ⟨rfl, .refl _⟩, trivial⟩, .nil⟩⟩
    show NEq _ (.obox 4 (setC (setOf (l.take (k + 1)))))
    rw [est]
    exact .refl _
  · rename_i hlt
    obtain rfl : k = l.length := by omega
    rw [List.take_length]
    refine NEq.aggL ?_
    ((repeat' apply And.intro) <;> (first | exact True.intro | exact NEq.refl _))

theorem own_9 (o : DO) (lv : PV) (i : Nat) (H : ShH o i 9 ([] : List Int)) (hv : ∀ r ∈ ([] : List Int) ++ usesL (o.descs.getD i []), 0 ≤ r ∧ r < 250) : CallsF Try.prog 78 [codeP o lv, .int .i64 i] (aggW (setOf (([] : List Int) ++ usesL (o.descs.getD i [])))) := by
  have hi := H.hi
  have hil := H.hil
  have hd := H.hd
  have hdl := H.hdl
  have hop1 : (o.irs[i]?.getD default).op = 9 := H.hop
  have hop2 : (o.irs.getD (i : Int).toNat default).op = 9 := H.hop
  have hlu : ([] : List Int).length ≤ 6001 := by have := H.ha; simp
  have hls : (usesL (o.descs.getD i [])).length ≤ 30000 := by
    rw [← symUses_eq, sortI_len]; exact symKs_len _ H.hfN
  obtain ⟨l, hl⟩ : ∃ l, l = ([] : List Int) ++ usesL (o.descs.getD i []) := ⟨_, rfl⟩
  have hll : l.length ≤ 40000 := by rw [hl, List.length_append]; omega
  rw [← hl] at hv ⊢
  refine callsF_ofS mx Try.call78 Try.func78 rfl Try.ntmps78 Try.results78 (by kernel_rfl) (by simp) fun lo => ?_
  repeat' (first | refine vcI ?_ | refine And.intro ?_ ?_ | (intro hq; (try simp at hq); (try (exfalso; omega)); (try (revert hq; intro))))
  · rw [hop2]; decide
  · rw [hop2]; exact Nat.le_of_ble_eq_true (by kernel_rfl)
  · exact Nat.lt_of_lt_of_eq (by decide : 0 < 1) (by kernel_rfl)
  rw [hop2]
  repeat' (first | refine vcI ?_ | refine And.intro ?_ ?_ | (intro hq; (try simp at hq); (try (exfalso; omega)); (try (revert hq; intro))))
  refine QS.frozen (ints ([] : List Int)) (uNone_spec _ _) (plainAll rfl) ?_
  repeat' (first | refine vcI ?_ | refine And.intro ?_ ?_ | (intro hq; (try simp at hq); (try (exfalso; omega)); (try (revert hq; intro))))
  refine QS.frozen (ints (usesL (o.descs.getD i []))) (symUses _ H.hfs H.hfN) (plainAll rfl) ?_
  repeat' (first | refine vcI ?_ | refine And.intro ?_ ?_ | (intro hq; (try simp at hq); (try (exfalso; omega)); (try (revert hq; intro))))
  refine QS.ownInts [two2 ([] : List Int) (usesL (o.descs.getD i []))] l (by rw [hl]; exact ConcatAll_spec ([] : List Int) (usesL (o.descs.getD i [])) (by omega) (by omega)) ?_ ?_
  · refine LeL.cons ?_ LeL.nil
    refine NEq.frzs rfl rfl fun j q hj hq => ?_
    obtain rfl : q = 0 := by omega
    obtain rfl | rfl : j = 0 ∨ j = 1 := by omega
    · exact .refl _
    · exact .refl _
  repeat' (first | refine vcI ?_ | refine And.intro ?_ ?_ | (intro hq; (try simp at hq); (try (exfalso; omega)); (try (revert hq; intro))))
  refine loopS2 mx (by decide) (by kernel_rfl) (fun (k v : Nat) => k ≤ l.length) (fun k v => [(40, .int .i64 k), (39, .int .i64 l.length), (38, .ref (1, 38) v [] 1 0 l.length), (5, .ptr (1, 5) 1 [] 0 0), (4, .ptr (1, 4) 0 [] 0 0)]) (fun k v => [((1, 38), ⟨v, oints l⟩), ((1, 5), ⟨1, .obox 4 (setC (setOf (l.take k)))⟩), ((1, 4), ⟨0, .obox 4 fun _ => .undef⟩)]) (fun k v => l.length - k) 0 _ (by simp) ⟨by ((repeat' apply And.intro) <;> (first | exact True.intro | exact NEq.refl _ | (refine NEq.int ?_; first | exact rfl | omega | (rw [wrapI (by omega)]; first | exact rfl | omega)))), ?_, .nil⟩ ?_
  · refine ⟨⟨rfl, .refl _⟩, ⟨rfl, .obox fun q hq => ?_⟩, ⟨rfl, .obox fun q hq => ?_⟩, trivial⟩
    · rcases (by have : q < 4 := hq; omega : q = 0 ∨ q = 1 ∨ q = 2 ∨ q = 3) with rfl | rfl | rfl | rfl <;> exact .refl _
    · refine .undef ?_
      rcases (by have : q < 4 := hq; omega : q = 0 ∨ q = 1 ∨ q = 2 ∨ q = 3) with rfl | rfl | rfl | rfl <;> rfl
  intro k v nv hk
  repeat' (first | refine vcI ?_ | refine And.intro ?_ ?_ | (intro hq; (try simp at hq); (try (exfalso; omega)); (try (revert hq; intro))))
  · rename_i hlt
    obtain ⟨r0, r1⟩ := hv _ (getD_mem 0 hlt)
    have est := setOf_take hlt
    refine CallS.onA (L0 := [((1, 5), ⟨1, .obox 4 (setC (setOf (l.take k)))⟩)]) (M := [((1, 38), ⟨v, oints l⟩), ((1, 4), ⟨0, .obox 4 fun _ => .undef⟩)]) (put_at (show (l.getD (0 + (k : Int).toNat) 0) = (((l[k]?.getD 0).toNat : Nat) : Int) by rw [Nat.zero_add]; show l[k]?.getD 0 = _; omega) (setPut5_spec (setOf (l.take k)) (setOf_lt _) ((l[k]?.getD 0).toNat) (by omega) 1 _ _ (Above.chk rfl Above.nil))) (fun r => by simp only [lkH, List.cons_append, List.nil_append]; split <;> split <;> simp_all) ?_
    rintro x L' nv' ⟨rfl, rfl⟩
    repeat' (first | refine vcI ?_ | refine And.intro ?_ ?_ | (intro hq; (try simp at hq); (try (exfalso; omega)); (try (revert hq; intro))))
    refine Exists.intro (k + 1, v) ⟨by omega, (by first | omega | (dsimp only; omega)), ⟨⟨(by refine NEq.int ?_; first | exact rfl | omega | (rw [wrapI (by omega)]; first | exact rfl | omega)), .refl _, .refl _, .refl _, .refl _, trivial⟩, ⟨⟨rfl, .refl _⟩, ⟨rfl, ?_⟩, ⟨rfl, .refl _⟩, trivial⟩, .nil⟩⟩
    show NEq _ (.obox 4 (setC (setOf (l.take (k + 1)))))
    rw [est]
    exact .refl _
  · rename_i hlt
    obtain rfl : k = l.length := by omega
    rw [List.take_length]
    refine NEq.aggL ?_
    ((repeat' apply And.intro) <;> (first | exact True.intro | exact NEq.refl _))

theorem own_10 (o : DO) (lv : PV) (i : Nat) (H : ShH o i 10 (if (o.irs.getD i default).n = 0 then [(o.irs.getD i default).a] else [(o.irs.getD i default).a, IntKind.i64.wrap ((o.irs.getD i default).n - 1)])) (hv : ∀ r ∈ (if (o.irs.getD i default).n = 0 then [(o.irs.getD i default).a] else [(o.irs.getD i default).a, IntKind.i64.wrap ((o.irs.getD i default).n - 1)]) ++ usesL (o.descs.getD i []), 0 ≤ r ∧ r < 250) : CallsF Try.prog 78 [codeP o lv, .int .i64 i] (aggW (setOf ((if (o.irs.getD i default).n = 0 then [(o.irs.getD i default).a] else [(o.irs.getD i default).a, IntKind.i64.wrap ((o.irs.getD i default).n - 1)]) ++ usesL (o.descs.getD i [])))) := by
  have hi := H.hi
  have hil := H.hil
  have hd := H.hd
  have hdl := H.hdl
  have hop1 : (o.irs[i]?.getD default).op = 10 := H.hop
  have hop2 : (o.irs.getD (i : Int).toNat default).op = 10 := H.hop
  have hlu : (if (o.irs.getD i default).n = 0 then [(o.irs.getD i default).a] else [(o.irs.getD i default).a, IntKind.i64.wrap ((o.irs.getD i default).n - 1)]).length ≤ 6001 := by have := H.ha; split <;> simp
  have hls : (usesL (o.descs.getD i [])).length ≤ 30000 := by
    rw [← symUses_eq, sortI_len]; exact symKs_len _ H.hfN
  obtain ⟨l, hl⟩ : ∃ l, l = (if (o.irs.getD i default).n = 0 then [(o.irs.getD i default).a] else [(o.irs.getD i default).a, IntKind.i64.wrap ((o.irs.getD i default).n - 1)]) ++ usesL (o.descs.getD i []) := ⟨_, rfl⟩
  have hll : l.length ≤ 40000 := by rw [hl, List.length_append]; omega
  rw [← hl] at hv ⊢
  refine callsF_ofS mx Try.call78 Try.func78 rfl Try.ntmps78 Try.results78 (by kernel_rfl) (by simp) fun lo => ?_
  repeat' (first | refine vcI ?_ | refine And.intro ?_ ?_ | (intro hq; (try simp at hq); (try (exfalso; omega)); (try (revert hq; intro))))
  · rw [hop2]; decide
  · rw [hop2]; exact Nat.le_of_ble_eq_true (by kernel_rfl)
  · exact Nat.lt_of_lt_of_eq (by decide : 0 < 1) (by kernel_rfl)
  rw [hop2]
  repeat' (first | refine vcI ?_ | refine And.intro ?_ ?_ | (intro hq; (try simp at hq); (try (exfalso; omega)); (try (revert hq; intro))))
  refine QS.frozen (ints (if (o.irs.getD i default).n = 0 then [(o.irs.getD i default).a] else [(o.irs.getD i default).a, IntKind.i64.wrap ((o.irs.getD i default).n - 1)])) (uRet_spec o lv i hi (by omega)) (plainAll rfl) ?_
  repeat' (first | refine vcI ?_ | refine And.intro ?_ ?_ | (intro hq; (try simp at hq); (try (exfalso; omega)); (try (revert hq; intro))))
  refine QS.frozen (ints (usesL (o.descs.getD i []))) (symUses _ H.hfs H.hfN) (plainAll rfl) ?_
  repeat' (first | refine vcI ?_ | refine And.intro ?_ ?_ | (intro hq; (try simp at hq); (try (exfalso; omega)); (try (revert hq; intro))))
  refine QS.ownInts [two2 (if (o.irs.getD i default).n = 0 then [(o.irs.getD i default).a] else [(o.irs.getD i default).a, IntKind.i64.wrap ((o.irs.getD i default).n - 1)]) (usesL (o.descs.getD i []))] l (by rw [hl]; exact ConcatAll_spec (if (o.irs.getD i default).n = 0 then [(o.irs.getD i default).a] else [(o.irs.getD i default).a, IntKind.i64.wrap ((o.irs.getD i default).n - 1)]) (usesL (o.descs.getD i [])) (by omega) (by omega)) ?_ ?_
  · refine LeL.cons ?_ LeL.nil
    refine NEq.frzs rfl rfl fun j q hj hq => ?_
    obtain rfl : q = 0 := by omega
    obtain rfl | rfl : j = 0 ∨ j = 1 := by omega
    · exact .refl _
    · exact .refl _
  repeat' (first | refine vcI ?_ | refine And.intro ?_ ?_ | (intro hq; (try simp at hq); (try (exfalso; omega)); (try (revert hq; intro))))
  refine loopS2 mx (by decide) (by kernel_rfl) (fun (k v : Nat) => k ≤ l.length) (fun k v => [(40, .int .i64 k), (39, .int .i64 l.length), (38, .ref (1, 38) v [] 1 0 l.length), (5, .ptr (1, 5) 1 [] 0 0), (4, .ptr (1, 4) 0 [] 0 0)]) (fun k v => [((1, 38), ⟨v, oints l⟩), ((1, 5), ⟨1, .obox 4 (setC (setOf (l.take k)))⟩), ((1, 4), ⟨0, .obox 4 fun _ => .undef⟩)]) (fun k v => l.length - k) 0 _ (by simp) ⟨by ((repeat' apply And.intro) <;> (first | exact True.intro | exact NEq.refl _ | (refine NEq.int ?_; first | exact rfl | omega | (rw [wrapI (by omega)]; first | exact rfl | omega)))), ?_, .nil⟩ ?_
  · refine ⟨⟨rfl, .refl _⟩, ⟨rfl, .obox fun q hq => ?_⟩, ⟨rfl, .obox fun q hq => ?_⟩, trivial⟩
    · rcases (by have : q < 4 := hq; omega : q = 0 ∨ q = 1 ∨ q = 2 ∨ q = 3) with rfl | rfl | rfl | rfl <;> exact .refl _
    · refine .undef ?_
      rcases (by have : q < 4 := hq; omega : q = 0 ∨ q = 1 ∨ q = 2 ∨ q = 3) with rfl | rfl | rfl | rfl <;> rfl
  intro k v nv hk
  repeat' (first | refine vcI ?_ | refine And.intro ?_ ?_ | (intro hq; (try simp at hq); (try (exfalso; omega)); (try (revert hq; intro))))
  · rename_i hlt
    obtain ⟨r0, r1⟩ := hv _ (getD_mem 0 hlt)
    have est := setOf_take hlt
    refine CallS.onA (L0 := [((1, 5), ⟨1, .obox 4 (setC (setOf (l.take k)))⟩)]) (M := [((1, 38), ⟨v, oints l⟩), ((1, 4), ⟨0, .obox 4 fun _ => .undef⟩)]) (put_at (show (l.getD (0 + (k : Int).toNat) 0) = (((l[k]?.getD 0).toNat : Nat) : Int) by rw [Nat.zero_add]; show l[k]?.getD 0 = _; omega) (setPut5_spec (setOf (l.take k)) (setOf_lt _) ((l[k]?.getD 0).toNat) (by omega) 1 _ _ (Above.chk rfl Above.nil))) (fun r => by simp only [lkH, List.cons_append, List.nil_append]; split <;> split <;> simp_all) ?_
    rintro x L' nv' ⟨rfl, rfl⟩
    repeat' (first | refine vcI ?_ | refine And.intro ?_ ?_ | (intro hq; (try simp at hq); (try (exfalso; omega)); (try (revert hq; intro))))
    refine Exists.intro (k + 1, v) ⟨by omega, (by first | omega | (dsimp only; omega)), ⟨⟨(by refine NEq.int ?_; first | exact rfl | omega | (rw [wrapI (by omega)]; first | exact rfl | omega)), .refl _, .refl _, .refl _, .refl _, trivial⟩, ⟨⟨rfl, .refl _⟩, ⟨rfl, ?_⟩, ⟨rfl, .refl _⟩, trivial⟩, .nil⟩⟩
    show NEq _ (.obox 4 (setC (setOf (l.take (k + 1)))))
    rw [est]
    exact .refl _
  · rename_i hlt
    obtain rfl : k = l.length := by omega
    rw [List.take_length]
    refine NEq.aggL ?_
    ((repeat' apply And.intro) <;> (first | exact True.intro | exact NEq.refl _))

theorem own_11 (o : DO) (lv : PV) (i : Nat) (H : ShH o i 11 ([] : List Int)) (hv : ∀ r ∈ ([] : List Int) ++ usesL (o.descs.getD i []), 0 ≤ r ∧ r < 250) : CallsF Try.prog 78 [codeP o lv, .int .i64 i] (aggW (setOf (([] : List Int) ++ usesL (o.descs.getD i [])))) := by
  have hi := H.hi
  have hil := H.hil
  have hd := H.hd
  have hdl := H.hdl
  have hop1 : (o.irs[i]?.getD default).op = 11 := H.hop
  have hop2 : (o.irs.getD (i : Int).toNat default).op = 11 := H.hop
  have hlu : ([] : List Int).length ≤ 6001 := by have := H.ha; simp
  have hls : (usesL (o.descs.getD i [])).length ≤ 30000 := by
    rw [← symUses_eq, sortI_len]; exact symKs_len _ H.hfN
  obtain ⟨l, hl⟩ : ∃ l, l = ([] : List Int) ++ usesL (o.descs.getD i []) := ⟨_, rfl⟩
  have hll : l.length ≤ 40000 := by rw [hl, List.length_append]; omega
  rw [← hl] at hv ⊢
  refine callsF_ofS mx Try.call78 Try.func78 rfl Try.ntmps78 Try.results78 (by kernel_rfl) (by simp) fun lo => ?_
  repeat' (first | refine vcI ?_ | refine And.intro ?_ ?_ | (intro hq; (try simp at hq); (try (exfalso; omega)); (try (revert hq; intro))))
  · rw [hop2]; decide
  · rw [hop2]; exact Nat.le_of_ble_eq_true (by kernel_rfl)
  · exact Nat.lt_of_lt_of_eq (by decide : 0 < 1) (by kernel_rfl)
  rw [hop2]
  repeat' (first | refine vcI ?_ | refine And.intro ?_ ?_ | (intro hq; (try simp at hq); (try (exfalso; omega)); (try (revert hq; intro))))
  refine QS.frozen (ints ([] : List Int)) (uNone_spec _ _) (plainAll rfl) ?_
  repeat' (first | refine vcI ?_ | refine And.intro ?_ ?_ | (intro hq; (try simp at hq); (try (exfalso; omega)); (try (revert hq; intro))))
  refine QS.frozen (ints (usesL (o.descs.getD i []))) (symUses _ H.hfs H.hfN) (plainAll rfl) ?_
  repeat' (first | refine vcI ?_ | refine And.intro ?_ ?_ | (intro hq; (try simp at hq); (try (exfalso; omega)); (try (revert hq; intro))))
  refine QS.ownInts [two2 ([] : List Int) (usesL (o.descs.getD i []))] l (by rw [hl]; exact ConcatAll_spec ([] : List Int) (usesL (o.descs.getD i [])) (by omega) (by omega)) ?_ ?_
  · refine LeL.cons ?_ LeL.nil
    refine NEq.frzs rfl rfl fun j q hj hq => ?_
    obtain rfl : q = 0 := by omega
    obtain rfl | rfl : j = 0 ∨ j = 1 := by omega
    · exact .refl _
    · exact .refl _
  repeat' (first | refine vcI ?_ | refine And.intro ?_ ?_ | (intro hq; (try simp at hq); (try (exfalso; omega)); (try (revert hq; intro))))
  refine loopS2 mx (by decide) (by kernel_rfl) (fun (k v : Nat) => k ≤ l.length) (fun k v => [(40, .int .i64 k), (39, .int .i64 l.length), (38, .ref (1, 38) v [] 1 0 l.length), (5, .ptr (1, 5) 1 [] 0 0), (4, .ptr (1, 4) 0 [] 0 0)]) (fun k v => [((1, 38), ⟨v, oints l⟩), ((1, 5), ⟨1, .obox 4 (setC (setOf (l.take k)))⟩), ((1, 4), ⟨0, .obox 4 fun _ => .undef⟩)]) (fun k v => l.length - k) 0 _ (by simp) ⟨by ((repeat' apply And.intro) <;> (first | exact True.intro | exact NEq.refl _ | (refine NEq.int ?_; first | exact rfl | omega | (rw [wrapI (by omega)]; first | exact rfl | omega)))), ?_, .nil⟩ ?_
  · refine ⟨⟨rfl, .refl _⟩, ⟨rfl, .obox fun q hq => ?_⟩, ⟨rfl, .obox fun q hq => ?_⟩, trivial⟩
    · rcases (by have : q < 4 := hq; omega : q = 0 ∨ q = 1 ∨ q = 2 ∨ q = 3) with rfl | rfl | rfl | rfl <;> exact .refl _
    · refine .undef ?_
      rcases (by have : q < 4 := hq; omega : q = 0 ∨ q = 1 ∨ q = 2 ∨ q = 3) with rfl | rfl | rfl | rfl <;> rfl
  intro k v nv hk
  repeat' (first | refine vcI ?_ | refine And.intro ?_ ?_ | (intro hq; (try simp at hq); (try (exfalso; omega)); (try (revert hq; intro))))
  · rename_i hlt
    obtain ⟨r0, r1⟩ := hv _ (getD_mem 0 hlt)
    have est := setOf_take hlt
    refine CallS.onA (L0 := [((1, 5), ⟨1, .obox 4 (setC (setOf (l.take k)))⟩)]) (M := [((1, 38), ⟨v, oints l⟩), ((1, 4), ⟨0, .obox 4 fun _ => .undef⟩)]) (put_at (show (l.getD (0 + (k : Int).toNat) 0) = (((l[k]?.getD 0).toNat : Nat) : Int) by rw [Nat.zero_add]; show l[k]?.getD 0 = _; omega) (setPut5_spec (setOf (l.take k)) (setOf_lt _) ((l[k]?.getD 0).toNat) (by omega) 1 _ _ (Above.chk rfl Above.nil))) (fun r => by simp only [lkH, List.cons_append, List.nil_append]; split <;> split <;> simp_all) ?_
    rintro x L' nv' ⟨rfl, rfl⟩
    repeat' (first | refine vcI ?_ | refine And.intro ?_ ?_ | (intro hq; (try simp at hq); (try (exfalso; omega)); (try (revert hq; intro))))
    refine Exists.intro (k + 1, v) ⟨by omega, (by first | omega | (dsimp only; omega)), ⟨⟨(by refine NEq.int ?_; first | exact rfl | omega | (rw [wrapI (by omega)]; first | exact rfl | omega)), .refl _, .refl _, .refl _, .refl _, trivial⟩, ⟨⟨rfl, .refl _⟩, ⟨rfl, ?_⟩, ⟨rfl, .refl _⟩, trivial⟩, .nil⟩⟩
    show NEq _ (.obox 4 (setC (setOf (l.take (k + 1)))))
    rw [est]
    exact .refl _
  · rename_i hlt
    obtain rfl : k = l.length := by omega
    rw [List.take_length]
    refine NEq.aggL ?_
    ((repeat' apply And.intro) <;> (first | exact True.intro | exact NEq.refl _))

theorem own_12 (o : DO) (lv : PV) (i : Nat) (H : ShH o i 12 ([] : List Int)) (hv : ∀ r ∈ ([] : List Int) ++ usesL (o.descs.getD i []), 0 ≤ r ∧ r < 250) : CallsF Try.prog 78 [codeP o lv, .int .i64 i] (aggW (setOf (([] : List Int) ++ usesL (o.descs.getD i [])))) := by
  have hi := H.hi
  have hil := H.hil
  have hd := H.hd
  have hdl := H.hdl
  have hop1 : (o.irs[i]?.getD default).op = 12 := H.hop
  have hop2 : (o.irs.getD (i : Int).toNat default).op = 12 := H.hop
  have hlu : ([] : List Int).length ≤ 6001 := by have := H.ha; simp
  have hls : (usesL (o.descs.getD i [])).length ≤ 30000 := by
    rw [← symUses_eq, sortI_len]; exact symKs_len _ H.hfN
  obtain ⟨l, hl⟩ : ∃ l, l = ([] : List Int) ++ usesL (o.descs.getD i []) := ⟨_, rfl⟩
  have hll : l.length ≤ 40000 := by rw [hl, List.length_append]; omega
  rw [← hl] at hv ⊢
  refine callsF_ofS mx Try.call78 Try.func78 rfl Try.ntmps78 Try.results78 (by kernel_rfl) (by simp) fun lo => ?_
  repeat' (first | refine vcI ?_ | refine And.intro ?_ ?_ | (intro hq; (try simp at hq); (try (exfalso; omega)); (try (revert hq; intro))))
  · rw [hop2]; decide
  · rw [hop2]; exact Nat.le_of_ble_eq_true (by kernel_rfl)
  · exact Nat.lt_of_lt_of_eq (by decide : 0 < 1) (by kernel_rfl)
  rw [hop2]
  repeat' (first | refine vcI ?_ | refine And.intro ?_ ?_ | (intro hq; (try simp at hq); (try (exfalso; omega)); (try (revert hq; intro))))
  refine QS.frozen (ints ([] : List Int)) (uNone_spec _ _) (plainAll rfl) ?_
  repeat' (first | refine vcI ?_ | refine And.intro ?_ ?_ | (intro hq; (try simp at hq); (try (exfalso; omega)); (try (revert hq; intro))))
  refine QS.frozen (ints (usesL (o.descs.getD i []))) (symUses _ H.hfs H.hfN) (plainAll rfl) ?_
  repeat' (first | refine vcI ?_ | refine And.intro ?_ ?_ | (intro hq; (try simp at hq); (try (exfalso; omega)); (try (revert hq; intro))))
  refine QS.ownInts [two2 ([] : List Int) (usesL (o.descs.getD i []))] l (by rw [hl]; exact ConcatAll_spec ([] : List Int) (usesL (o.descs.getD i [])) (by omega) (by omega)) ?_ ?_
  · refine LeL.cons ?_ LeL.nil
    refine NEq.frzs rfl rfl fun j q hj hq => ?_
    obtain rfl : q = 0 := by omega
    obtain rfl | rfl : j = 0 ∨ j = 1 := by omega
    · exact .refl _
    · exact .refl _
  repeat' (first | refine vcI ?_ | refine And.intro ?_ ?_ | (intro hq; (try simp at hq); (try (exfalso; omega)); (try (revert hq; intro))))
  refine loopS2 mx (by decide) (by kernel_rfl) (fun (k v : Nat) => k ≤ l.length) (fun k v => [(40, .int .i64 k), (39, .int .i64 l.length), (38, .ref (1, 38) v [] 1 0 l.length), (5, .ptr (1, 5) 1 [] 0 0), (4, .ptr (1, 4) 0 [] 0 0)]) (fun k v => [((1, 38), ⟨v, oints l⟩), ((1, 5), ⟨1, .obox 4 (setC (setOf (l.take k)))⟩), ((1, 4), ⟨0, .obox 4 fun _ => .undef⟩)]) (fun k v => l.length - k) 0 _ (by simp) ⟨by ((repeat' apply And.intro) <;> (first | exact True.intro | exact NEq.refl _ | (refine NEq.int ?_; first | exact rfl | omega | (rw [wrapI (by omega)]; first | exact rfl | omega)))), ?_, .nil⟩ ?_
  · refine ⟨⟨rfl, .refl _⟩, ⟨rfl, .obox fun q hq => ?_⟩, ⟨rfl, .obox fun q hq => ?_⟩, trivial⟩
    · rcases (by have : q < 4 := hq; omega : q = 0 ∨ q = 1 ∨ q = 2 ∨ q = 3) with rfl | rfl | rfl | rfl <;> exact .refl _
    · refine .undef ?_
      rcases (by have : q < 4 := hq; omega : q = 0 ∨ q = 1 ∨ q = 2 ∨ q = 3) with rfl | rfl | rfl | rfl <;> rfl
  intro k v nv hk
  repeat' (first | refine vcI ?_ | refine And.intro ?_ ?_ | (intro hq; (try simp at hq); (try (exfalso; omega)); (try (revert hq; intro))))
  · rename_i hlt
    obtain ⟨r0, r1⟩ := hv _ (getD_mem 0 hlt)
    have est := setOf_take hlt
    refine CallS.onA (L0 := [((1, 5), ⟨1, .obox 4 (setC (setOf (l.take k)))⟩)]) (M := [((1, 38), ⟨v, oints l⟩), ((1, 4), ⟨0, .obox 4 fun _ => .undef⟩)]) (put_at (show (l.getD (0 + (k : Int).toNat) 0) = (((l[k]?.getD 0).toNat : Nat) : Int) by rw [Nat.zero_add]; show l[k]?.getD 0 = _; omega) (setPut5_spec (setOf (l.take k)) (setOf_lt _) ((l[k]?.getD 0).toNat) (by omega) 1 _ _ (Above.chk rfl Above.nil))) (fun r => by simp only [lkH, List.cons_append, List.nil_append]; split <;> split <;> simp_all) ?_
    rintro x L' nv' ⟨rfl, rfl⟩
    repeat' (first | refine vcI ?_ | refine And.intro ?_ ?_ | (intro hq; (try simp at hq); (try (exfalso; omega)); (try (revert hq; intro))))
    refine Exists.intro (k + 1, v) ⟨by omega, (by first | omega | (dsimp only; omega)), ⟨⟨(by refine NEq.int ?_; first | exact rfl | omega | (rw [wrapI (by omega)]; first | exact rfl | omega)), .refl _, .refl _, .refl _, .refl _, trivial⟩, ⟨⟨rfl, .refl _⟩, ⟨rfl, ?_⟩, ⟨rfl, .refl _⟩, trivial⟩, .nil⟩⟩
    show NEq _ (.obox 4 (setC (setOf (l.take (k + 1)))))
    rw [est]
    exact .refl _
  · rename_i hlt
    obtain rfl : k = l.length := by omega
    rw [List.take_length]
    refine NEq.aggL ?_
    ((repeat' apply And.intro) <;> (first | exact True.intro | exact NEq.refl _))

theorem own_13 (o : DO) (lv : PV) (i : Nat) (H : ShH o i 13 [IntKind.i64.wrap (((o.descs.getD i []).getD (o.irs.getD i default).m.toNat default).act - 1)]) (hm : 0 ≤ (o.irs.getD i default).m ∧ (o.irs.getD i default).m < ((o.descs.getD i []).length : Int)) (hv : ∀ r ∈ [IntKind.i64.wrap (((o.descs.getD i []).getD (o.irs.getD i default).m.toNat default).act - 1)] ++ usesL (o.descs.getD i []), 0 ≤ r ∧ r < 250) : CallsF Try.prog 78 [codeP o lv, .int .i64 i] (aggW (setOf ([IntKind.i64.wrap (((o.descs.getD i []).getD (o.irs.getD i default).m.toNat default).act - 1)] ++ usesL (o.descs.getD i [])))) := by
  have hi := H.hi
  have hil := H.hil
  have hd := H.hd
  have hdl := H.hdl
  have hop1 : (o.irs[i]?.getD default).op = 13 := H.hop
  have hop2 : (o.irs.getD (i : Int).toNat default).op = 13 := H.hop
  have hlu : [IntKind.i64.wrap (((o.descs.getD i []).getD (o.irs.getD i default).m.toNat default).act - 1)].length ≤ 6001 := by have := H.ha; simp
  have hls : (usesL (o.descs.getD i [])).length ≤ 30000 := by
    rw [← symUses_eq, sortI_len]; exact symKs_len _ H.hfN
  obtain ⟨l, hl⟩ : ∃ l, l = [IntKind.i64.wrap (((o.descs.getD i []).getD (o.irs.getD i default).m.toNat default).act - 1)] ++ usesL (o.descs.getD i []) := ⟨_, rfl⟩
  have hll : l.length ≤ 40000 := by rw [hl, List.length_append]; omega
  rw [← hl] at hv ⊢
  refine callsF_ofS mx Try.call78 Try.func78 rfl Try.ntmps78 Try.results78 (by kernel_rfl) (by simp) fun lo => ?_
  repeat' (first | refine vcI ?_ | refine And.intro ?_ ?_ | (intro hq; (try simp at hq); (try (exfalso; omega)); (try (revert hq; intro))))
  · rw [hop2]; decide
  · rw [hop2]; exact Nat.le_of_ble_eq_true (by kernel_rfl)
  · exact Nat.lt_of_lt_of_eq (by decide : 0 < 1) (by kernel_rfl)
  rw [hop2]
  repeat' (first | refine vcI ?_ | refine And.intro ?_ ?_ | (intro hq; (try simp at hq); (try (exfalso; omega)); (try (revert hq; intro))))
  refine QS.frozen (ints [IntKind.i64.wrap (((o.descs.getD i []).getD (o.irs.getD i default).m.toNat default).act - 1)]) (uBlk_spec o lv i hi (by omega) hd (by omega) hm H.hfs.1) (plainAll rfl) ?_
  repeat' (first | refine vcI ?_ | refine And.intro ?_ ?_ | (intro hq; (try simp at hq); (try (exfalso; omega)); (try (revert hq; intro))))
  refine QS.frozen (ints (usesL (o.descs.getD i []))) (symUses _ H.hfs H.hfN) (plainAll rfl) ?_
  repeat' (first | refine vcI ?_ | refine And.intro ?_ ?_ | (intro hq; (try simp at hq); (try (exfalso; omega)); (try (revert hq; intro))))
  refine QS.ownInts [two2 [IntKind.i64.wrap (((o.descs.getD i []).getD (o.irs.getD i default).m.toNat default).act - 1)] (usesL (o.descs.getD i []))] l (by rw [hl]; exact ConcatAll_spec [IntKind.i64.wrap (((o.descs.getD i []).getD (o.irs.getD i default).m.toNat default).act - 1)] (usesL (o.descs.getD i [])) (by omega) (by omega)) ?_ ?_
  · refine LeL.cons ?_ LeL.nil
    refine NEq.frzs rfl rfl fun j q hj hq => ?_
    obtain rfl : q = 0 := by omega
    obtain rfl | rfl : j = 0 ∨ j = 1 := by omega
    · exact .refl _
    · exact .refl _
  repeat' (first | refine vcI ?_ | refine And.intro ?_ ?_ | (intro hq; (try simp at hq); (try (exfalso; omega)); (try (revert hq; intro))))
  refine loopS2 mx (by decide) (by kernel_rfl) (fun (k v : Nat) => k ≤ l.length) (fun k v => [(40, .int .i64 k), (39, .int .i64 l.length), (38, .ref (1, 38) v [] 1 0 l.length), (5, .ptr (1, 5) 1 [] 0 0), (4, .ptr (1, 4) 0 [] 0 0)]) (fun k v => [((1, 38), ⟨v, oints l⟩), ((1, 5), ⟨1, .obox 4 (setC (setOf (l.take k)))⟩), ((1, 4), ⟨0, .obox 4 fun _ => .undef⟩)]) (fun k v => l.length - k) 0 _ (by simp) ⟨by ((repeat' apply And.intro) <;> (first | exact True.intro | exact NEq.refl _ | (refine NEq.int ?_; first | exact rfl | omega | (rw [wrapI (by omega)]; first | exact rfl | omega)))), ?_, .nil⟩ ?_
  · refine ⟨⟨rfl, .refl _⟩, ⟨rfl, .obox fun q hq => ?_⟩, ⟨rfl, .obox fun q hq => ?_⟩, trivial⟩
    · rcases (by have : q < 4 := hq; omega : q = 0 ∨ q = 1 ∨ q = 2 ∨ q = 3) with rfl | rfl | rfl | rfl <;> exact .refl _
    · refine .undef ?_
      rcases (by have : q < 4 := hq; omega : q = 0 ∨ q = 1 ∨ q = 2 ∨ q = 3) with rfl | rfl | rfl | rfl <;> rfl
  intro k v nv hk
  repeat' (first | refine vcI ?_ | refine And.intro ?_ ?_ | (intro hq; (try simp at hq); (try (exfalso; omega)); (try (revert hq; intro))))
  · rename_i hlt
    obtain ⟨r0, r1⟩ := hv _ (getD_mem 0 hlt)
    have est := setOf_take hlt
    refine CallS.onA (L0 := [((1, 5), ⟨1, .obox 4 (setC (setOf (l.take k)))⟩)]) (M := [((1, 38), ⟨v, oints l⟩), ((1, 4), ⟨0, .obox 4 fun _ => .undef⟩)]) (put_at (show (l.getD (0 + (k : Int).toNat) 0) = (((l[k]?.getD 0).toNat : Nat) : Int) by rw [Nat.zero_add]; show l[k]?.getD 0 = _; omega) (setPut5_spec (setOf (l.take k)) (setOf_lt _) ((l[k]?.getD 0).toNat) (by omega) 1 _ _ (Above.chk rfl Above.nil))) (fun r => by simp only [lkH, List.cons_append, List.nil_append]; split <;> split <;> simp_all) ?_
    rintro x L' nv' ⟨rfl, rfl⟩
    repeat' (first | refine vcI ?_ | refine And.intro ?_ ?_ | (intro hq; (try simp at hq); (try (exfalso; omega)); (try (revert hq; intro))))
    refine Exists.intro (k + 1, v) ⟨by omega, (by first | omega | (dsimp only; omega)), ⟨⟨(by refine NEq.int ?_; first | exact rfl | omega | (rw [wrapI (by omega)]; first | exact rfl | omega)), .refl _, .refl _, .refl _, .refl _, trivial⟩, ⟨⟨rfl, .refl _⟩, ⟨rfl, ?_⟩, ⟨rfl, .refl _⟩, trivial⟩, .nil⟩⟩
    show NEq _ (.obox 4 (setC (setOf (l.take (k + 1)))))
    rw [est]
    exact .refl _
  · rename_i hlt
    obtain rfl : k = l.length := by omega
    rw [List.take_length]
    refine NEq.aggL ?_
    ((repeat' apply And.intro) <;> (first | exact True.intro | exact NEq.refl _))

theorem own_14 (o : DO) (lv : PV) (i : Nat) (H : ShH o i 14 [(o.irs.getD i default).a]) (hv : ∀ r ∈ [(o.irs.getD i default).a] ++ usesL (o.descs.getD i []), 0 ≤ r ∧ r < 250) : CallsF Try.prog 78 [codeP o lv, .int .i64 i] (aggW (setOf ([(o.irs.getD i default).a] ++ usesL (o.descs.getD i [])))) := by
  have hi := H.hi
  have hil := H.hil
  have hd := H.hd
  have hdl := H.hdl
  have hop1 : (o.irs[i]?.getD default).op = 14 := H.hop
  have hop2 : (o.irs.getD (i : Int).toNat default).op = 14 := H.hop
  have hlu : [(o.irs.getD i default).a].length ≤ 6001 := by have := H.ha; simp
  have hls : (usesL (o.descs.getD i [])).length ≤ 30000 := by
    rw [← symUses_eq, sortI_len]; exact symKs_len _ H.hfN
  obtain ⟨l, hl⟩ : ∃ l, l = [(o.irs.getD i default).a] ++ usesL (o.descs.getD i []) := ⟨_, rfl⟩
  have hll : l.length ≤ 40000 := by rw [hl, List.length_append]; omega
  rw [← hl] at hv ⊢
  refine callsF_ofS mx Try.call78 Try.func78 rfl Try.ntmps78 Try.results78 (by kernel_rfl) (by simp) fun lo => ?_
  repeat' (first | refine vcI ?_ | refine And.intro ?_ ?_ | (intro hq; (try simp at hq); (try (exfalso; omega)); (try (revert hq; intro))))
  · rw [hop2]; decide
  · rw [hop2]; exact Nat.le_of_ble_eq_true (by kernel_rfl)
  · exact Nat.lt_of_lt_of_eq (by decide : 0 < 1) (by kernel_rfl)
  rw [hop2]
  repeat' (first | refine vcI ?_ | refine And.intro ?_ ?_ | (intro hq; (try simp at hq); (try (exfalso; omega)); (try (revert hq; intro))))
  refine QS.frozen (ints [(o.irs.getD i default).a]) (uA_spec o lv i hi (by omega)) (plainAll rfl) ?_
  repeat' (first | refine vcI ?_ | refine And.intro ?_ ?_ | (intro hq; (try simp at hq); (try (exfalso; omega)); (try (revert hq; intro))))
  refine QS.frozen (ints (usesL (o.descs.getD i []))) (symUses _ H.hfs H.hfN) (plainAll rfl) ?_
  repeat' (first | refine vcI ?_ | refine And.intro ?_ ?_ | (intro hq; (try simp at hq); (try (exfalso; omega)); (try (revert hq; intro))))
  refine QS.ownInts [two2 [(o.irs.getD i default).a] (usesL (o.descs.getD i []))] l (by rw [hl]; exact ConcatAll_spec [(o.irs.getD i default).a] (usesL (o.descs.getD i [])) (by omega) (by omega)) ?_ ?_
  · refine LeL.cons ?_ LeL.nil
    refine NEq.frzs rfl rfl fun j q hj hq => ?_
    obtain rfl : q = 0 := by omega
    obtain rfl | rfl : j = 0 ∨ j = 1 := by omega
    · exact .refl _
    · exact .refl _
  repeat' (first | refine vcI ?_ | refine And.intro ?_ ?_ | (intro hq; (try simp at hq); (try (exfalso; omega)); (try (revert hq; intro))))
  refine loopS2 mx (by decide) (by kernel_rfl) (fun (k v : Nat) => k ≤ l.length) (fun k v => [(40, .int .i64 k), (39, .int .i64 l.length), (38, .ref (1, 38) v [] 1 0 l.length), (5, .ptr (1, 5) 1 [] 0 0), (4, .ptr (1, 4) 0 [] 0 0)]) (fun k v => [((1, 38), ⟨v, oints l⟩), ((1, 5), ⟨1, .obox 4 (setC (setOf (l.take k)))⟩), ((1, 4), ⟨0, .obox 4 fun _ => .undef⟩)]) (fun k v => l.length - k) 0 _ (by simp) ⟨by ((repeat' apply And.intro) <;> (first | exact True.intro | exact NEq.refl _ | (refine NEq.int ?_; first | exact rfl | omega | (rw [wrapI (by omega)]; first | exact rfl | omega)))), ?_, .nil⟩ ?_
  · refine ⟨⟨rfl, .refl _⟩, ⟨rfl, .obox fun q hq => ?_⟩, ⟨rfl, .obox fun q hq => ?_⟩, trivial⟩
    · rcases (by have : q < 4 := hq; omega : q = 0 ∨ q = 1 ∨ q = 2 ∨ q = 3) with rfl | rfl | rfl | rfl <;> exact .refl _
    · refine .undef ?_
      rcases (by have : q < 4 := hq; omega : q = 0 ∨ q = 1 ∨ q = 2 ∨ q = 3) with rfl | rfl | rfl | rfl <;> rfl
  intro k v nv hk
  repeat' (first | refine vcI ?_ | refine And.intro ?_ ?_ | (intro hq; (try simp at hq); (try (exfalso; omega)); (try (revert hq; intro))))
  · rename_i hlt
    obtain ⟨r0, r1⟩ := hv _ (getD_mem 0 hlt)
    have est := setOf_take hlt
    refine CallS.onA (L0 := [((1, 5), ⟨1, .obox 4 (setC (setOf (l.take k)))⟩)]) (M := [((1, 38), ⟨v, oints l⟩), ((1, 4), ⟨0, .obox 4 fun _ => .undef⟩)]) (put_at (show (l.getD (0 + (k : Int).toNat) 0) = (((l[k]?.getD 0).toNat : Nat) : Int) by rw [Nat.zero_add]; show l[k]?.getD 0 = _; omega) (setPut5_spec (setOf (l.take k)) (setOf_lt _) ((l[k]?.getD 0).toNat) (by omega) 1 _ _ (Above.chk rfl Above.nil))) (fun r => by simp only [lkH, List.cons_append, List.nil_append]; split <;> split <;> simp_all) ?_
    rintro x L' nv' ⟨rfl, rfl⟩
    repeat' (first | refine vcI ?_ | refine And.intro ?_ ?_ | (intro hq; (try simp at hq); (try (exfalso; omega)); (try (revert hq; intro))))
    refine Exists.intro (k + 1, v) ⟨by omega, (by first | omega | (dsimp only; omega)), ⟨⟨(by refine NEq.int ?_; first | exact rfl | omega | (rw [wrapI (by omega)]; first | exact rfl | omega)), .refl _, .refl _, .refl _, .refl _, trivial⟩, ⟨⟨rfl, .refl _⟩, ⟨rfl, ?_⟩, ⟨rfl, .refl _⟩, trivial⟩, .nil⟩⟩
    show NEq _ (.obox 4 (setC (setOf (l.take (k + 1)))))
    rw [est]
    exact .refl _
  · rename_i hlt
    obtain rfl : k = l.length := by omega
    rw [List.take_length]
    refine NEq.aggL ?_
    ((repeat' apply And.intro) <;> (first | exact True.intro | exact NEq.refl _))

theorem own_15 (o : DO) (lv : PV) (i : Nat) (H : ShH o i 15 [(o.irs.getD i default).a, (o.irs.getD i default).b]) (hv : ∀ r ∈ [(o.irs.getD i default).a, (o.irs.getD i default).b] ++ usesL (o.descs.getD i []), 0 ≤ r ∧ r < 250) : CallsF Try.prog 78 [codeP o lv, .int .i64 i] (aggW (setOf ([(o.irs.getD i default).a, (o.irs.getD i default).b] ++ usesL (o.descs.getD i [])))) := by
  have hi := H.hi
  have hil := H.hil
  have hd := H.hd
  have hdl := H.hdl
  have hop1 : (o.irs[i]?.getD default).op = 15 := H.hop
  have hop2 : (o.irs.getD (i : Int).toNat default).op = 15 := H.hop
  have hlu : [(o.irs.getD i default).a, (o.irs.getD i default).b].length ≤ 6001 := by have := H.ha; simp
  have hls : (usesL (o.descs.getD i [])).length ≤ 30000 := by
    rw [← symUses_eq, sortI_len]; exact symKs_len _ H.hfN
  obtain ⟨l, hl⟩ : ∃ l, l = [(o.irs.getD i default).a, (o.irs.getD i default).b] ++ usesL (o.descs.getD i []) := ⟨_, rfl⟩
  have hll : l.length ≤ 40000 := by rw [hl, List.length_append]; omega
  rw [← hl] at hv ⊢
  refine callsF_ofS mx Try.call78 Try.func78 rfl Try.ntmps78 Try.results78 (by kernel_rfl) (by simp) fun lo => ?_
  repeat' (first | refine vcI ?_ | refine And.intro ?_ ?_ | (intro hq; (try simp at hq); (try (exfalso; omega)); (try (revert hq; intro))))
  · rw [hop2]; decide
  · rw [hop2]; exact Nat.le_of_ble_eq_true (by kernel_rfl)
  · exact Nat.lt_of_lt_of_eq (by decide : 0 < 1) (by kernel_rfl)
  rw [hop2]
  repeat' (first | refine vcI ?_ | refine And.intro ?_ ?_ | (intro hq; (try simp at hq); (try (exfalso; omega)); (try (revert hq; intro))))
  refine QS.frozen (ints [(o.irs.getD i default).a, (o.irs.getD i default).b]) (uAB_spec o lv i hi (by omega)) (plainAll rfl) ?_
  repeat' (first | refine vcI ?_ | refine And.intro ?_ ?_ | (intro hq; (try simp at hq); (try (exfalso; omega)); (try (revert hq; intro))))
  refine QS.frozen (ints (usesL (o.descs.getD i []))) (symUses _ H.hfs H.hfN) (plainAll rfl) ?_
  repeat' (first | refine vcI ?_ | refine And.intro ?_ ?_ | (intro hq; (try simp at hq); (try (exfalso; omega)); (try (revert hq; intro))))
  refine QS.ownInts [two2 [(o.irs.getD i default).a, (o.irs.getD i default).b] (usesL (o.descs.getD i []))] l (by rw [hl]; exact ConcatAll_spec [(o.irs.getD i default).a, (o.irs.getD i default).b] (usesL (o.descs.getD i [])) (by omega) (by omega)) ?_ ?_
  · refine LeL.cons ?_ LeL.nil
    refine NEq.frzs rfl rfl fun j q hj hq => ?_
    obtain rfl : q = 0 := by omega
    obtain rfl | rfl : j = 0 ∨ j = 1 := by omega
    · exact .refl _
    · exact .refl _
  repeat' (first | refine vcI ?_ | refine And.intro ?_ ?_ | (intro hq; (try simp at hq); (try (exfalso; omega)); (try (revert hq; intro))))
  refine loopS2 mx (by decide) (by kernel_rfl) (fun (k v : Nat) => k ≤ l.length) (fun k v => [(40, .int .i64 k), (39, .int .i64 l.length), (38, .ref (1, 38) v [] 1 0 l.length), (5, .ptr (1, 5) 1 [] 0 0), (4, .ptr (1, 4) 0 [] 0 0)]) (fun k v => [((1, 38), ⟨v, oints l⟩), ((1, 5), ⟨1, .obox 4 (setC (setOf (l.take k)))⟩), ((1, 4), ⟨0, .obox 4 fun _ => .undef⟩)]) (fun k v => l.length - k) 0 _ (by simp) ⟨by ((repeat' apply And.intro) <;> (first | exact True.intro | exact NEq.refl _ | (refine NEq.int ?_; first | exact rfl | omega | (rw [wrapI (by omega)]; first | exact rfl | omega)))), ?_, .nil⟩ ?_
  · refine ⟨⟨rfl, .refl _⟩, ⟨rfl, .obox fun q hq => ?_⟩, ⟨rfl, .obox fun q hq => ?_⟩, trivial⟩
    · rcases (by have : q < 4 := hq; omega : q = 0 ∨ q = 1 ∨ q = 2 ∨ q = 3) with rfl | rfl | rfl | rfl <;> exact .refl _
    · refine .undef ?_
      rcases (by have : q < 4 := hq; omega : q = 0 ∨ q = 1 ∨ q = 2 ∨ q = 3) with rfl | rfl | rfl | rfl <;> rfl
  intro k v nv hk
  repeat' (first | refine vcI ?_ | refine And.intro ?_ ?_ | (intro hq; (try simp at hq); (try (exfalso; omega)); (try (revert hq; intro))))
  · rename_i hlt
    obtain ⟨r0, r1⟩ := hv _ (getD_mem 0 hlt)
    have est := setOf_take hlt
    refine CallS.onA (L0 := [((1, 5), ⟨1, .obox 4 (setC (setOf (l.take k)))⟩)]) (M := [((1, 38), ⟨v, oints l⟩), ((1, 4), ⟨0, .obox 4 fun _ => .undef⟩)]) (put_at (show (l.getD (0 + (k : Int).toNat) 0) = (((l[k]?.getD 0).toNat : Nat) : Int) by rw [Nat.zero_add]; show l[k]?.getD 0 = _; omega) (setPut5_spec (setOf (l.take k)) (setOf_lt _) ((l[k]?.getD 0).toNat) (by omega) 1 _ _ (Above.chk rfl Above.nil))) (fun r => by simp only [lkH, List.cons_append, List.nil_append]; split <;> split <;> simp_all) ?_
    rintro x L' nv' ⟨rfl, rfl⟩
    repeat' (first | refine vcI ?_ | refine And.intro ?_ ?_ | (intro hq; (try simp at hq); (try (exfalso; omega)); (try (revert hq; intro))))
    refine Exists.intro (k + 1, v) ⟨by omega, (by first | omega | (dsimp only; omega)), ⟨⟨(by refine NEq.int ?_; first | exact rfl | omega | (rw [wrapI (by omega)]; first | exact rfl | omega)), .refl _, .refl _, .refl _, .refl _, trivial⟩, ⟨⟨rfl, .refl _⟩, ⟨rfl, ?_⟩, ⟨rfl, .refl _⟩, trivial⟩, .nil⟩⟩
    show NEq _ (.obox 4 (setC (setOf (l.take (k + 1)))))
    rw [est]
    exact .refl _
  · rename_i hlt
    obtain rfl : k = l.length := by omega
    rw [List.take_length]
    refine NEq.aggL ?_
    ((repeat' apply And.intro) <;> (first | exact True.intro | exact NEq.refl _))

theorem own_16 (o : DO) (lv : PV) (i : Nat) (H : ShH o i 16 (o.irs.getD i default).args) (hv : ∀ r ∈ (o.irs.getD i default).args ++ usesL (o.descs.getD i []), 0 ≤ r ∧ r < 250) : CallsF Try.prog 78 [codeP o lv, .int .i64 i] (aggW (setOf ((o.irs.getD i default).args ++ usesL (o.descs.getD i [])))) := by
  have hi := H.hi
  have hil := H.hil
  have hd := H.hd
  have hdl := H.hdl
  have hop1 : (o.irs[i]?.getD default).op = 16 := H.hop
  have hop2 : (o.irs.getD (i : Int).toNat default).op = 16 := H.hop
  have hlu : (o.irs.getD i default).args.length ≤ 6001 := by have := H.ha; omega
  have hls : (usesL (o.descs.getD i [])).length ≤ 30000 := by
    rw [← symUses_eq, sortI_len]; exact symKs_len _ H.hfN
  obtain ⟨l, hl⟩ : ∃ l, l = (o.irs.getD i default).args ++ usesL (o.descs.getD i []) := ⟨_, rfl⟩
  have hll : l.length ≤ 40000 := by rw [hl, List.length_append]; omega
  rw [← hl] at hv ⊢
  refine callsF_ofS mx Try.call78 Try.func78 rfl Try.ntmps78 Try.results78 (by kernel_rfl) (by simp) fun lo => ?_
  repeat' (first | refine vcI ?_ | refine And.intro ?_ ?_ | (intro hq; (try simp at hq); (try (exfalso; omega)); (try (revert hq; intro))))
  · rw [hop2]; decide
  · rw [hop2]; exact Nat.le_of_ble_eq_true (by kernel_rfl)
  · exact Nat.lt_of_lt_of_eq (by decide : 0 < 1) (by kernel_rfl)
  rw [hop2]
  repeat' (first | refine vcI ?_ | refine And.intro ?_ ?_ | (intro hq; (try simp at hq); (try (exfalso; omega)); (try (revert hq; intro))))
  refine QS.frozen (ints (o.irs.getD i default).args) (uDrop_spec o lv i hi (by omega)) (plainAll rfl) ?_
  repeat' (first | refine vcI ?_ | refine And.intro ?_ ?_ | (intro hq; (try simp at hq); (try (exfalso; omega)); (try (revert hq; intro))))
  refine QS.frozen (ints (usesL (o.descs.getD i []))) (symUses _ H.hfs H.hfN) (plainAll rfl) ?_
  repeat' (first | refine vcI ?_ | refine And.intro ?_ ?_ | (intro hq; (try simp at hq); (try (exfalso; omega)); (try (revert hq; intro))))
  refine QS.ownInts [two2 (o.irs.getD i default).args (usesL (o.descs.getD i []))] l (by rw [hl]; exact ConcatAll_spec (o.irs.getD i default).args (usesL (o.descs.getD i [])) (by omega) (by omega)) ?_ ?_
  · refine LeL.cons ?_ LeL.nil
    refine NEq.frzs rfl rfl fun j q hj hq => ?_
    obtain rfl : q = 0 := by omega
    obtain rfl | rfl : j = 0 ∨ j = 1 := by omega
    · exact .refl _
    · exact .refl _
  repeat' (first | refine vcI ?_ | refine And.intro ?_ ?_ | (intro hq; (try simp at hq); (try (exfalso; omega)); (try (revert hq; intro))))
  refine loopS2 mx (by decide) (by kernel_rfl) (fun (k v : Nat) => k ≤ l.length) (fun k v => [(40, .int .i64 k), (39, .int .i64 l.length), (38, .ref (1, 38) v [] 1 0 l.length), (5, .ptr (1, 5) 1 [] 0 0), (4, .ptr (1, 4) 0 [] 0 0)]) (fun k v => [((1, 38), ⟨v, oints l⟩), ((1, 5), ⟨1, .obox 4 (setC (setOf (l.take k)))⟩), ((1, 4), ⟨0, .obox 4 fun _ => .undef⟩)]) (fun k v => l.length - k) 0 _ (by simp) ⟨by ((repeat' apply And.intro) <;> (first | exact True.intro | exact NEq.refl _ | (refine NEq.int ?_; first | exact rfl | omega | (rw [wrapI (by omega)]; first | exact rfl | omega)))), ?_, .nil⟩ ?_
  · refine ⟨⟨rfl, .refl _⟩, ⟨rfl, .obox fun q hq => ?_⟩, ⟨rfl, .obox fun q hq => ?_⟩, trivial⟩
    · rcases (by have : q < 4 := hq; omega : q = 0 ∨ q = 1 ∨ q = 2 ∨ q = 3) with rfl | rfl | rfl | rfl <;> exact .refl _
    · refine .undef ?_
      rcases (by have : q < 4 := hq; omega : q = 0 ∨ q = 1 ∨ q = 2 ∨ q = 3) with rfl | rfl | rfl | rfl <;> rfl
  intro k v nv hk
  repeat' (first | refine vcI ?_ | refine And.intro ?_ ?_ | (intro hq; (try simp at hq); (try (exfalso; omega)); (try (revert hq; intro))))
  · rename_i hlt
    obtain ⟨r0, r1⟩ := hv _ (getD_mem 0 hlt)
    have est := setOf_take hlt
    refine CallS.onA (L0 := [((1, 5), ⟨1, .obox 4 (setC (setOf (l.take k)))⟩)]) (M := [((1, 38), ⟨v, oints l⟩), ((1, 4), ⟨0, .obox 4 fun _ => .undef⟩)]) (put_at (show (l.getD (0 + (k : Int).toNat) 0) = (((l[k]?.getD 0).toNat : Nat) : Int) by rw [Nat.zero_add]; show l[k]?.getD 0 = _; omega) (setPut5_spec (setOf (l.take k)) (setOf_lt _) ((l[k]?.getD 0).toNat) (by omega) 1 _ _ (Above.chk rfl Above.nil))) (fun r => by simp only [lkH, List.cons_append, List.nil_append]; split <;> split <;> simp_all) ?_
    rintro x L' nv' ⟨rfl, rfl⟩
    repeat' (first | refine vcI ?_ | refine And.intro ?_ ?_ | (intro hq; (try simp at hq); (try (exfalso; omega)); (try (revert hq; intro))))
    refine Exists.intro (k + 1, v) ⟨by omega, (by first | omega | (dsimp only; omega)), ⟨⟨(by refine NEq.int ?_; first | exact rfl | omega | (rw [wrapI (by omega)]; first | exact rfl | omega)), .refl _, .refl _, .refl _, .refl _, trivial⟩, ⟨⟨rfl, .refl _⟩, ⟨rfl, ?_⟩, ⟨rfl, .refl _⟩, trivial⟩, .nil⟩⟩
    show NEq _ (.obox 4 (setC (setOf (l.take (k + 1)))))
    rw [est]
    exact .refl _
  · rename_i hlt
    obtain rfl : k = l.length := by omega
    rw [List.take_length]
    refine NEq.aggL ?_
    ((repeat' apply And.intro) <;> (first | exact True.intro | exact NEq.refl _))

/-- An instruction that is shaped: what it uses is there. -/
theorem own_spec (o : DO) (lv : PV) (i : Nat) (hi : i < o.irs.length) (hd : i < o.descs.length) (hf : fewN o ≤ 6000) (hr : o.regs ≤ 250) (hs : ∀ l ∈ o.descs, l.length ≤ 1048576 ∧ ∀ f ∈ l, f.small) (hsh : shapedX o (o.irs.getD i default) (o.descs.getD i []) = true) :
    CallsF Try.prog 78 [codeP o lv, .int .i64 i] (aggW (setOf (usedL (o.irs.getD i default) (o.descs.getD i []) ++ usesL (o.descs.getD i [])))) := by
  have hil : o.irs.length ≤ 6000 := by unfold fewN at hf; omega
  have hdl : o.descs.length ≤ 6000 := by unfold fewN at hf; omega
  have ha : (o.irs.getD i default).args.length ≤ 6000 := by
    have := sumL_mem (f := fun x : DI => x.args.length) (getD_mem default hi)
    rw [List.getD_eq_getElem?_getD]
    unfold fewN at hf; omega
  have hfN : frN (o.descs.getD i []) ≤ 6000 := by
    have := sumL_mem (f := frN) (getD_mem [] hd)
    rw [List.getD_eq_getElem?_getD]
    unfold fewN at hf; omega
  simp only [shapedX, Bool.and_eq_true, decide_eq_true_eq, Bool.not_eq_true'] at hsh
  obtain ⟨s1, s2, s3, s4, s5, s6, s7⟩ := hsh
  have hv : ∀ r ∈ usedL (o.irs.getD i default) (o.descs.getD i []) ++ usesL (o.descs.getD i []), 0 ≤ r ∧ r < 250 := fun r hm => by
    have hb : ∀ {l}, badL o l = false → r ∈ l → 0 ≤ r ∧ r < 250 := fun h1 h2 => by
      have h3 := List.any_eq_false.1 h1 r h2
      simp only [regB, Bool.not_eq_true', Bool.not_eq_false, Bool.and_eq_true, decide_eq_true_eq] at h3
      omega
    rcases List.mem_append.1 hm with h | h
    · exact hb s5 h
    · exact hb s7 h
  have mk : ∀ (k : Int) (u : List Int), (o.irs.getD i default).op = k → usedL (o.irs.getD i default) (o.descs.getD i []) = u → ShH o i k u := fun k u h1 h2 => ⟨hi, hil, hd, hdl, h1, h2, hs _ (getD_mem [] hd), hfN, ha⟩
  rcases (by omega : (o.irs.getD i default).op = 1 ∨ (o.irs.getD i default).op = 2 ∨ (o.irs.getD i default).op = 3 ∨ (o.irs.getD i default).op = 4 ∨ (o.irs.getD i default).op = 5 ∨ (o.irs.getD i default).op = 6 ∨ (o.irs.getD i default).op = 7 ∨ (o.irs.getD i default).op = 8 ∨ (o.irs.getD i default).op = 9 ∨ (o.irs.getD i default).op = 10 ∨ (o.irs.getD i default).op = 11 ∨ (o.irs.getD i default).op = 12 ∨ (o.irs.getD i default).op = 13 ∨ (o.irs.getD i default).op = 14 ∨ (o.irs.getD i default).op = 15 ∨ (o.irs.getD i default).op = 16) with h | h | h | h | h | h | h | h | h | h | h | h | h | h | h | h
  · have hu : usedL (o.irs.getD i default) (o.descs.getD i []) = ([] : List Int) := by simp only [usedL, h]; simp
    rw [hu] at hv ⊢
    exact own_1 o lv i (mk _ _ h hu) hv
  · have hu : usedL (o.irs.getD i default) (o.descs.getD i []) = [(o.irs.getD i default).a] := by simp only [usedL, h]; simp
    rw [hu] at hv ⊢
    exact own_2 o lv i (mk _ _ h hu) hv
  · have hu : usedL (o.irs.getD i default) (o.descs.getD i []) = [(o.irs.getD i default).a] := by simp only [usedL, h]; simp
    rw [hu] at hv ⊢
    exact own_3 o lv i (mk _ _ h hu) hv
  · have hu : usedL (o.irs.getD i default) (o.descs.getD i []) = [(o.irs.getD i default).a] := by simp only [usedL, h]; simp
    rw [hu] at hv ⊢
    exact own_4 o lv i (mk _ _ h hu) hv
  · have hu : usedL (o.irs.getD i default) (o.descs.getD i []) = [(o.irs.getD i default).a, (o.irs.getD i default).b] := by simp only [usedL, h]; simp
    rw [hu] at hv ⊢
    exact own_5 o lv i (mk _ _ h hu) hv
  · have hu : usedL (o.irs.getD i default) (o.descs.getD i []) = ((o.irs.getD i default).a :: (o.irs.getD i default).args) := by simp only [usedL, h]; simp
    rw [hu] at hv ⊢
    exact own_6 o lv i (mk _ _ h hu) hv
  · have hu : usedL (o.irs.getD i default) (o.descs.getD i []) = ((o.irs.getD i default).a :: (o.irs.getD i default).args) := by simp only [usedL, h]; simp
    rw [hu] at hv ⊢
    exact own_7 o lv i (mk _ _ h hu) hv
  · have hu : usedL (o.irs.getD i default) (o.descs.getD i []) = ([] : List Int) := by simp only [usedL, h]; simp
    rw [hu] at hv ⊢
    exact own_8 o lv i (mk _ _ h hu) hv
  · have hu : usedL (o.irs.getD i default) (o.descs.getD i []) = ([] : List Int) := by simp only [usedL, h]; simp
    rw [hu] at hv ⊢
    exact own_9 o lv i (mk _ _ h hu) hv
  · have hu : usedL (o.irs.getD i default) (o.descs.getD i []) = (if (o.irs.getD i default).n = 0 then [(o.irs.getD i default).a] else [(o.irs.getD i default).a, IntKind.i64.wrap ((o.irs.getD i default).n - 1)]) := by simp only [usedL, h]; simp
    rw [hu] at hv ⊢
    exact own_10 o lv i (mk _ _ h hu) hv
  · have hu : usedL (o.irs.getD i default) (o.descs.getD i []) = ([] : List Int) := by simp only [usedL, h]; simp
    rw [hu] at hv ⊢
    exact own_11 o lv i (mk _ _ h hu) hv
  · have hu : usedL (o.irs.getD i default) (o.descs.getD i []) = ([] : List Int) := by simp only [usedL, h]; simp
    rw [hu] at hv ⊢
    exact own_12 o lv i (mk _ _ h hu) hv
  · have hm : 0 ≤ (o.irs.getD i default).m ∧ (o.irs.getD i default).m < ((o.descs.getD i []).length : Int) := by
      have h1 : (!insB (o.descs.getD i []).length (o.irs.getD i default).m || ((o.descs.getD i []).getD (o.irs.getD i default).m.toNat default).act == 0) = false := by
        have h2 := s4
        unfold swB at h2
        rw [h] at h2
        exact h2
      have h3 := (Bool.or_eq_false_iff.1 h1).1
      simpa [insB] using h3
    have hu : usedL (o.irs.getD i default) (o.descs.getD i []) = [IntKind.i64.wrap (((o.descs.getD i []).getD (o.irs.getD i default).m.toNat default).act - 1)] := by simp only [usedL, h]; simp only [hm]; simp
    rw [hu] at hv ⊢
    exact own_13 o lv i (mk _ _ h hu) hm hv
  · have hu : usedL (o.irs.getD i default) (o.descs.getD i []) = [(o.irs.getD i default).a] := by simp only [usedL, h]; simp
    rw [hu] at hv ⊢
    exact own_14 o lv i (mk _ _ h hu) hv
  · have hu : usedL (o.irs.getD i default) (o.descs.getD i []) = [(o.irs.getD i default).a, (o.irs.getD i default).b] := by simp only [usedL, h]; simp
    rw [hu] at hv ⊢
    exact own_15 o lv i (mk _ _ h hu) hv
  · have hu : usedL (o.irs.getD i default) (o.descs.getD i []) = (o.irs.getD i default).args := by simp only [usedL, h]; simp
    rw [hu] at hv ⊢
    exact own_16 o lv i (mk _ _ h hu) hv
end Go.Ab
namespace Go.Ab
open Go.Proofs
set_option maxRecDepth 100000
set_option maxHeartbeats 1000000

theorem bit_setW (ws : Nat → Nat) (r q : Nat) : bitW (setW ws r) q = (bitW ws q || decide (q = r)) := by
  unfold bitW setW
  by_cases h : q / 64 = r / 64
  · rw [if_pos h, Nat.testBit_or, Nat.testBit_two_pow]
    congr 1
    rw [Bool.eq_iff_iff]
    simp only [decide_eq_true_eq]
    omega
  · rw [if_neg h, decide_eq_false (fun e => h (by rw [e])), Bool.or_false]
theorem bit_joinW (ws us : Nat → Nat) {q : Nat} (hq : q < 256) : bitW (joinW ws us 4) q = (bitW ws q || bitW us q) := by
  unfold bitW joinW
  rw [if_pos (by omega), Nat.testBit_or]
theorem bit_setOf {l : List Int} (hl : ∀ r ∈ l, 0 ≤ r) (q : Nat) : bitW (setOf l) q = decide ((q : Int) ∈ l) := by
  have key : ∀ (l : List Int) (ws : Nat → Nat), (∀ r ∈ l, 0 ≤ r) → bitW (l.foldl (fun ws r => setW ws r.toNat) ws) q = (bitW ws q || decide ((q : Int) ∈ l)) := by
    intro l
    induction l with
    | nil => intro ws _; simp
    | cons r l ih =>
      intro ws h
      rw [List.foldl_cons, ih _ fun x hx => h x (List.mem_cons_of_mem _ hx), bit_setW, Bool.or_assoc]
      congr 1
      have hr := h r (by simp)
      rw [Bool.eq_iff_iff]
      simp only [Bool.or_eq_true, decide_eq_true_eq, List.mem_cons]
      constructor
      · rintro (h1 | h1)
        · exact .inl (by omega)
        · exact .inr h1
      · rintro (h1 | h1)
        · exact .inl (by omega)
        · exact .inr h1
  unfold setOf
  rw [key l _ hl]
  simp [bitW]
/-- A register taken out. -/
def clrW (ws : Nat → Nat) (r : Nat) : Nat → Nat := fun o => if o = r / 64 then ws o &&& (18446744073709551615 ^^^ 2 ^ (r % 64)) else ws o

/-- Which registers are live ahead of an instruction. -/
inductive LiveP (o : DO) : Nat → Nat → Prop
  | use {i r : Nat} (hi : i < o.irs.length) (h : (r : Int) ∈ usedL (o.irs.getD i default) (o.descs.getD i []) ++ usesL (o.descs.getD i [])) : LiveP o i r
  | step {i k r : Nat} (hi : i < o.irs.length) (hk : (k : Int) ∈ goesL (o.irs.getD i default) i) (h : LiveP o k r) (hd : ¬ (setsB (o.irs.getD i default).op = true ∧ (o.irs.getD i default).d = (r : Int))) : LiveP o i r

open Classical in
/-- A word, by its bits. -/
noncomputable def wd (p : Nat → Prop) (o : Nat) : Nat → Nat
  | 0 => 0
  | j + 1 => wd p o j ||| (if p (64 * o + j) then 2 ^ j else 0)
theorem wd_lt (p : Nat → Prop) (o : Nat) : ∀ n, wd p o n < 2 ^ n
  | 0 => by simp [wd]
  | n + 1 => by
    unfold wd
    have h := wd_lt p o n
    have h1 : wd p o n < 2 ^ (n + 1) := Nat.lt_of_lt_of_le h (Nat.pow_le_pow_right (by decide) (by omega))
    refine Nat.or_lt_two_pow h1 ?_
    split
    · exact Nat.pow_lt_pow_right (by decide) (by omega)
    · exact Nat.two_pow_pos _
theorem wd_bit (p : Nat → Prop) (o : Nat) : ∀ (n j : Nat), (wd p o n).testBit j = true ↔ j < n ∧ p (64 * o + j)
  | 0, j => by simp [wd]
  | n + 1, j => by
    unfold wd
    rw [Nat.testBit_or, Bool.or_eq_true, wd_bit p o n j]
    split
    · rename_i h
      rw [Nat.testBit_two_pow, decide_eq_true_eq]
      constructor
      · rintro (⟨h1, h2⟩ | rfl)
        · exact ⟨by omega, h2⟩
        · exact ⟨by omega, h⟩
      · rintro ⟨h1, h2⟩
        by_cases e : n = j
        · exact .inr e
        · exact .inl ⟨by omega, h2⟩
    · rename_i h
      constructor
      · rintro (⟨h1, h2⟩ | h1)
        · exact ⟨by omega, h2⟩
        · simp at h1
      · rintro ⟨h1, h2⟩
        by_cases e : n = j
        · subst e; exact absurd h2 h
        · exact .inl ⟨by omega, h2⟩
/-- The words of a set. -/
noncomputable def wordsP (p : Nat → Prop) : Nat → Nat := fun o => wd p o 64
theorem wordsP_lt (p : Nat → Prop) (o : Nat) : wordsP p o < 18446744073709551616 := wd_lt p o 64
theorem bit_wordsP (p : Nat → Prop) (q : Nat) : bitW (wordsP p) q = true ↔ p q := by
  unfold bitW wordsP
  rw [wd_bit]
  have e : 64 * (q / 64) + q % 64 = q := Nat.div_add_mod q 64
  rw [e]
  exact ⟨fun h => h.2, fun h => ⟨Nat.mod_lt _ (by decide), h⟩⟩
theorem words_ext {ws us : Nat → Nat} (hw : ∀ o, ws o < 18446744073709551616) (hu : ∀ o, us o < 18446744073709551616) (h : ∀ q, q < 256 → bitW ws q = bitW us q) {o : Nat} (ho : o < 4) : ws o = us o := by
  apply Nat.eq_of_testBit_eq
  intro j
  by_cases hj : j < 64
  · have := h (64 * o + j) (by omega)
    unfold bitW at this
    rw [show (64 * o + j) / 64 = o by omega, show (64 * o + j) % 64 = j by omega] at this
    exact this
  · rw [Nat.testBit_lt_two_pow (Nat.lt_of_lt_of_le (hw o) (Nat.pow_le_pow_right (n := 2) (by decide) (show 64 ≤ j by omega))), Nat.testBit_lt_two_pow (Nat.lt_of_lt_of_le (hu o) (Nat.pow_le_pow_right (n := 2) (by decide) (show 64 ≤ j by omega)))]
end Go.Ab
namespace Go.Ab
open Go.Proofs
set_option maxRecDepth 100000
set_option maxHeartbeats 1000000

def frW (n : Nat) (W : Nat → Nat → Nat) : PV := .frz 4 n fun i o => .int .u64 (W i o)
def owW (n : Nat) (W : Nat → Nat → Nat) : PV := .own 4 n fun i o => .int .u64 (W i o)
theorem view_row (k : Nat) (hp : Hp) (i : Nat) : ∀ x ∈ rowAt i, view (k + 2) hp x = x := by
  have key : ∀ (u : PV) (s f g : Bool), view (k + 2) hp u = u → ∀ x ∈ rowC u s f g, view (k + 2) hp x = x := by
    intro u s f g hu x hx
    simp only [rowC, List.mem_cons, List.not_mem_nil, or_false] at hx
    rcases hx with rfl | rfl | rfl | rfl
    · exact hu
    · rfl
    · rfl
    · rfl
  unfold rowAt
  split <;> exact key _ _ _ _ rfl
theorem view_rows (k : Nat) (hp : Hp) : ∀ x ∈ rowsL, view (k + 2) hp x = x := fun x hx => by
  obtain ⟨i, _, h⟩ := List.mem_flatMap.1 hx
  exact view_row k hp i x h
theorem view_dol (k : Nat) (hp : Hp) (o : DO) : ∀ x ∈ dol o, view (k + 2) hp x = x := fun x hx => by
  simp only [dol, List.mem_cons, List.not_mem_nil, or_false] at hx
  rcases hx with rfl | rfl | rfl | rfl | rfl | rfl | rfl | rfl | rfl | rfl | rfl | rfl <;> rfl
theorem rowsL_len : rowsL.length = 68 := by decide
theorem view_code {L : Hp} {o : DO} {n vc vl : Nat} {W : Nat → Nat → Nat} (rc rl : RId) (h1 : lkH L rc = some ⟨vc, .obox 81 (codeC o (.ref rl vl [] 4 0 n))⟩) (h2 : lkH L rl = some ⟨vl, owW n W⟩) (k : Nat) : NEq (view (k + 5) L (.ptr rc vc [] 0 0)) (codeP o (frW n W)) := by
  rw [view, h1]
  simp only [if_true, getAt]
  refine NEq.fptr fun j hj => ?_
  unfold codeC codeL
  have hl1 : (dol o).length = 12 := rfl
  have hl2 := rowsL_len
  by_cases c : j < 12
  · have e : ∀ lv, (dol o ++ (rowsL ++ [lv])).getD j .undef = (dol o).getD j .undef := fun lv => by rw [getD_appD, if_pos (by omega)]
    rw [e, e, view_dol (k + 2) L o _ (by rw [List.getD_eq_getElem?_getD]; exact getD_mem _ (by omega))]
    exact .refl _
  · by_cases c2 : j < 80
    · have e : ∀ lv, (dol o ++ (rowsL ++ [lv])).getD j .undef = rowsL.getD (j - 12) .undef := fun lv => by rw [getD_appD, if_neg (by omega), getD_appD, if_pos (by omega), hl1]
      rw [e, e, view_rows (k + 2) L _ (by rw [List.getD_eq_getElem?_getD]; exact getD_mem _ (by omega))]
      exact .refl _
    · obtain rfl : j = 80 := by omega
      have e : ∀ lv, (dol o ++ (rowsL ++ [lv])).getD 80 .undef = lv := fun lv => by rw [getD_appD, if_neg (by omega), getD_appD, if_neg (by omega), hl1, hl2]; rfl
      rw [e, e, view, h2]
      simp only [if_true, getAt, owW]
      exact NEq.frzs rfl (by simp) fun i q _ _ => by rw [Nat.zero_add]; exact .refl _
end Go.Ab
namespace Go.Ab
open Go.Proofs
set_option maxRecDepth 100000
set_option maxHeartbeats 1000000

def scQ (S : Hp) {ι : Type} (l : Nat) (I : ι → Prop) (tmS : ι → Tm) (LS : ι → Hp) (Q : Post) : Post := fun e tm L nv => match e with
  | .goto l' => l' = l ∧ ∃ j, I j ∧ LeS S tm L (tmS j) (LS j)
  | e => Q e tm L nv
theorem scopeS {P : Program} {lv : Nat} {nt : FS} {ro : Option Nat} {S : Hp} {tm : Tm} {L : Hp} {nv : Nat} {Q : Post} {c rest : Code} (hmx : P.follows .mixedOrders = true) (hlv : lv ≠ 0) (hok : okS nt c = true) (hok2 : okS nt rest = true) (l : Nat) (hf : findLabel c l = some rest)
    {ι : Type} (I : ι → Prop) (tmS : ι → Tm) (LS : ι → Hp) (μ : ι → Nat)
    (first : codeR P lv nt ro S c tm L nv (scQ S l I tmS LS Q))
    (pass : ∀ i nv, I i → codeR P lv nt ro S rest (tmS i) (LS i) nv (scQ S l (fun j => I j ∧ μ j < μ i) tmS LS Q)) : Ev P lv nt ro (.scope c) tm (L ++ S) nv (liftQ S Q) := by
  have lift : ∀ {tm1 : Tm} {L1 hp1 : Hp} {nv1 : Nat} {j : ι}, Rep S L1 hp1 → LeS S tm1 L1 (tmS j) (LS j) → Le tm1 hp1 nv1 (tmS j) (LS j ++ S) nv1 := fun h1 h3 => by
    have h5 := h3.le (nv := 0)
    exact ⟨h5.tm, fun r rt hr => by rw [h1.eq]; exact h5.hp r rt hr, Nat.le_refl _⟩
  refine Ev.scope (ι := {i : ι // I i}) l hf (fun i => tmS i.1) (fun i => LS i.1 ++ S) (fun i => μ i.1) ?_ ?_
  · refine (codeR_sound hmx hlv c hok tm L (L ++ S) nv _ (Rep.mk' S L) first).mono fun e tm1 hp1 nv1 hq => ?_
    obtain ⟨L1, h1, h2⟩ := hq
    cases e with
    | goto l' => obtain ⟨e1, j, hj, hle⟩ := h2; exact ⟨e1, ⟨j, hj⟩, lift h1 hle⟩
    | _ => exact ⟨L1, h1, h2⟩
  · rintro ⟨i, hi⟩ nv0
    refine (codeR_sound hmx hlv rest hok2 (tmS i) (LS i) (LS i ++ S) nv0 _ (Rep.mk' S (LS i)) (pass i nv0 hi)).mono fun e tm1 hp1 nv1 hq => ?_
    obtain ⟨L1, h1, h2⟩ := hq
    cases e with
    | goto l' => obtain ⟨e1, j, ⟨hj, hlt⟩, hle⟩ := h2; exact ⟨e1, ⟨j, hj⟩, lift h1 hle, hlt⟩
    | _ => exact ⟨L1, h1, h2⟩

theorem scopeS' {P : Program} {lv : Nat} {nt : FS} {ro : Option Nat} {S : Hp} {tm : Tm} {L : Hp} {nv : Nat} {Q : Post} {c : Code} (hmx : P.follows .mixedOrders = true) (hlv : lv ≠ 0) (hok : okS nt c = true) (l : Nat) (hok2 : okS nt ((findLabel c l).getD .skip) = true) (hf : (findLabel c l).isSome = true)
    {ι : Type} (I : ι → Prop) (tmS : ι → Tm) (LS : ι → Hp) (μ : ι → Nat)
    (first : codeR P lv nt ro S c tm L nv (scQ S l I tmS LS Q))
    (pass : ∀ i nv, I i → codeR P lv nt ro S ((findLabel c l).getD .skip) (tmS i) (LS i) nv (scQ S l (fun j => I j ∧ μ j < μ i) tmS LS Q)) : Ev P lv nt ro (.scope c) tm (L ++ S) nv (liftQ S Q) := by
  obtain ⟨rest, hr⟩ := Option.isSome_iff_exists.1 hf
  rw [hr] at hok2 pass
  exact scopeS hmx hlv hok hok2 l hr I tmS LS μ first pass

theorem setJoin26_spec (ws us : Nat → Nat) (hw : ∀ o, ws o < 18446744073709551616) (hu : ∀ o, us o < 18446744073709551616) (v nv : Nat) (S : Hp) (hS : Above 3 S) :
    CallsA Try.prog 59 [.ptr (2, 6) v [] 0 0, aggW us] ([((2, 6), ⟨v, .obox 4 (setC ws)⟩)] ++ S) nv
      fun x hp' nv' => ∃ L', hp' = L' ++ S ∧ (x = .tup [] ∧ L' = [((2, 6), ⟨v, .obox 4 (setC (joinW ws us 4))⟩)]) := by
  refine callsA_ofS (lv := 3) (by decide) mx Try.call59 Try.func59 rfl Try.ntmps59 Try.results59 (by kernel_rfl) (by simp) fun lo => ?_
  repeat' (first | refine vcI ?_ | refine And.intro ?_ ?_ | (intro hq; (try simp at hq); (try (exfalso; omega)); (try (revert hq; intro))))
  refine loopS mx (by decide) (by kernel_rfl) (fun k : Nat => k ≤ 4) (fun k => [(5, .int .i64 k), (0, .ptr (2, 6) v [] 0 0), (3, .ptr (3, 3) nv [] 0 0)]) (fun k => [((3, 3), ⟨nv, .obox 4 (setC us)⟩), ((2, 6), ⟨v, .obox 4 (setC (joinW ws us k))⟩)]) (fun k => 4 - k) 0 (by simp) ?_ ?_
  · refine ⟨by ((repeat' apply And.intro) <;> (first | exact True.intro | exact NEq.refl _ | (refine NEq.int ?_; first | exact rfl | omega | (rw [wrapI (by omega)]; first | exact rfl | omega)))), ⟨⟨rfl, .obox fun o ho => ?_⟩, ⟨rfl, ?_⟩, trivial⟩, .chk hS rfl⟩
    · have ho' : o < 4 := ho
      rcases (by omega : o = 0 ∨ o = 1 ∨ o = 2 ∨ o = 3) with rfl | rfl | rfl | rfl <;> exact .refl _
    · rw [joinW_zero]; exact .refl _
  intro k nv hk
  repeat' (first | refine vcI ?_ | refine And.intro ?_ ?_ | (intro hq; (try simp at hq); (try (exfalso; omega)); (try (revert hq; intro))))
  · rw [cW]; show 0 + k * 1 + 1 ≤ 4; omega
  · rw [cW]; decide
  · rw [cW]; show 0 + k * 1 + 1 ≤ 4; omega
  · rw [cW]; decide
  · show 0 + k * Try.prog.cellsOf 77 + 1 ≤ 4
    rw [cW]; omega
  · refine Exists.intro (k + 1) ⟨by omega, (by first | omega | (dsimp only; omega)), ⟨⟨(by refine NEq.int ?_; first | exact rfl | omega | (rw [wrapI (by omega)]; first | exact rfl | omega)), .refl _, .refl _, trivial⟩, ⟨⟨rfl, .refl _⟩, ⟨rfl, .obox fun o ho => ?_⟩, trivial⟩, .chk hS rfl⟩⟩
    show NEq (if 0 + k * Try.prog.cellsOf 77 ≤ o ∧ o < 0 + k * Try.prog.cellsOf 77 + 1 then List.getD [PV.int .u64 (IntKind.u64.wrap ((BitVec.ofInt IntKind.u64.bits (joinW ws us k (0 + k * Try.prog.cellsOf 77) : Int) ||| BitVec.ofInt IntKind.u64.bits (us (0 + k * Try.prog.cellsOf 77) : Int)).toNat : Int))] (o - (0 + k * Try.prog.cellsOf 77)) .undef else .int .u64 (joinW ws us k o)) (.int .u64 (joinW ws us (k + 1) o))
    rw [cW]
    simp only [Nat.zero_add, Nat.mul_one]
    have ek : joinW ws us k k = ws k := by simp [joinW]
    rw [ek, orr_at (hw _) (hu _)]
    by_cases c : o = k
    · subst c
      rw [if_pos (by omega), Nat.sub_self]
      have e5 : joinW ws us (o + 1) o = ws o ||| us o := by simp [joinW]
      rw [e5]
      exact .refl _
    · rw [if_neg (by omega)]
      have e5 : joinW ws us (k + 1) o = joinW ws us k o := by
        unfold joinW
        by_cases c2 : o < k
        · rw [if_pos c2, if_pos (by omega)]
        · rw [if_neg c2, if_neg (by omega)]
      rw [e5]
      exact .refl _
  · obtain rfl : k = 4 := by omega
    exact Exists.intro (PV.tup []) (Exists.intro _ (And.intro ⟨rfl, rfl⟩ (And.intro (.refl _) (And.intro ⟨⟨rfl, .refl _⟩, trivial⟩ (.chk hS rfl)))))
end Go.Ab
namespace Go.Ab
open Go.Proofs
set_option maxRecDepth 100000
set_option maxHeartbeats 1000000

/-- The sets of what instructions and their frames use. -/
def useW (o : DO) (i : Nat) : Nat → Nat := setOf (usedL (o.irs.getD i default) (o.descs.getD i []) ++ usesL (o.descs.getD i []))
/-- Code that may be gone through. -/
structure FlH (o : DO) : Prop where
  hf : fewN o ≤ 6000
  hr : o.regs ≤ 250
  hd : o.descs.length = o.irs.length
  hs : ∀ l ∈ o.descs, l.length ≤ 1048576 ∧ ∀ f ∈ l, f.small
  sh : ∀ i, i < o.irs.length → shapedX o (o.irs.getD i default) (o.descs.getD i []) = true
  ne : 0 < o.irs.length
  go : ∀ i, i < o.irs.length → ∀ k ∈ goesL (o.irs.getD i default) i, 0 ≤ k ∧ k < (o.irs.length : Int)

theorem FlH.use {o : DO} (H : FlH o) {i : Nat} (hi : i < o.irs.length) : ∀ r ∈ usedL (o.irs.getD i default) (o.descs.getD i []) ++ usesL (o.descs.getD i []), 0 ≤ r ∧ r < 250 := fun r hm => by
  have hsh := H.sh i hi
  have hr := H.hr
  simp only [shapedX, Bool.and_eq_true, decide_eq_true_eq, Bool.not_eq_true'] at hsh
  obtain ⟨s1, s2, s3, s4, s5, s6, s7⟩ := hsh
  have hb : ∀ {l}, badL o l = false → r ∈ l → 0 ≤ r ∧ r < 250 := fun h1 h2 => by
    have h3 := List.any_eq_false.1 h1 r h2
    simp only [regB, Bool.not_eq_true', Bool.not_eq_false, Bool.and_eq_true, decide_eq_true_eq] at h3
    omega
  rcases List.mem_append.1 hm with h | h
  · exact hb s5 h
  · exact hb s7 h
theorem FlH.op {o : DO} (H : FlH o) {i : Nat} (hi : i < o.irs.length) : 1 ≤ (o.irs.getD i default).op ∧ (o.irs.getD i default).op ≤ 16 := by
  have hsh := H.sh i hi
  simp only [shapedX, Bool.and_eq_true, decide_eq_true_eq, Bool.not_eq_true'] at hsh
  exact ⟨hsh.1, hsh.2.1⟩
theorem FlH.d {o : DO} (H : FlH o) {i : Nat} (hi : i < o.irs.length) (hs : setsB (o.irs.getD i default).op = true) : 0 ≤ (o.irs.getD i default).d ∧ (o.irs.getD i default).d < 250 := by
  have hsh := H.sh i hi
  have hr := H.hr
  simp only [shapedX, Bool.and_eq_true, decide_eq_true_eq, Bool.not_eq_true'] at hsh
  obtain ⟨s1, s2, s3, s4, s5, s6, s7⟩ := hsh
  rw [hs] at s6
  simp only [Bool.not_true, Bool.false_or, regB, Bool.and_eq_true, decide_eq_true_eq] at s6
  omega
theorem useW_lt (o : DO) (i : Nat) : ∀ q, useW o i q < 18446744073709551616 := setOf_lt _
theorem bit_useW {o : DO} (H : FlH o) {i : Nat} (hi : i < o.irs.length) (q : Nat) : bitW (useW o i) q = true ↔ (q : Int) ∈ usedL (o.irs.getD i default) (o.descs.getD i []) ++ usesL (o.descs.getD i []) := by
  unfold useW
  rw [bit_setOf (fun r h => (H.use hi r h).1), decide_eq_true_eq]

theorem joinW_lt {ws us : Nat → Nat} (hw : ∀ o, ws o < 18446744073709551616) (hu : ∀ o, us o < 18446744073709551616) (k : Nat) : ∀ o, joinW ws us k o < 18446744073709551616 := fun o => by
  unfold joinW
  split
  · exact Nat.or_lt_two_pow (n := 64) (hw o) (hu o)
  · exact hw o
theorem clrW_lt {ws : Nat → Nat} (hw : ∀ o, ws o < 18446744073709551616) (r : Nat) : ∀ o, clrW ws r o < 18446744073709551616 := fun o => by
  unfold clrW
  split
  · exact Nat.lt_of_le_of_lt Nat.and_le_left (hw o)
  · exact hw o
theorem bit_clrW (ws : Nat → Nat) (r q : Nat) : bitW (clrW ws r) q = (bitW ws q && !decide (q = r)) := by
  unfold bitW clrW
  by_cases h : q / 64 = r / 64
  · rw [if_pos h, Nat.testBit_and, Nat.testBit_xor, Nat.testBit_two_pow, show (18446744073709551615 : Nat) = 2 ^ 64 - 1 from rfl, Nat.testBit_two_pow_sub_one, decide_eq_true (show q % 64 < 64 from Nat.mod_lt _ (by decide)), Bool.true_xor]
    congr 2
    rw [Bool.eq_iff_iff]
    simp only [decide_eq_true_eq]
    omega
  · rw [if_neg h, decide_eq_false (fun e => h (by rw [e])), Bool.not_false, Bool.and_true]

/-- All that is behind. -/
def joinL (W : Nat → Nat → Nat) (l : List Int) : Nat → Nat := l.foldl (fun s k => joinW s (W k.toNat) 4) fun _ => 0
theorem joinL_snoc (W : Nat → Nat → Nat) (l : List Int) (k : Int) : joinL W (l ++ [k]) = joinW (joinL W l) (W k.toNat) 4 := by
  unfold joinL; rw [List.foldl_append]; rfl
theorem joinL_lt {W : Nat → Nat → Nat} (hW : ∀ i q, W i q < 18446744073709551616) (l : List Int) : ∀ q, joinL W l q < 18446744073709551616 := by
  have key : ∀ (l : List Int) (ws : Nat → Nat), (∀ o, ws o < 18446744073709551616) → ∀ o, l.foldl (fun s k => joinW s (W k.toNat) 4) ws o < 18446744073709551616 := by
    intro l
    induction l with
    | nil => intro ws h; exact h
    | cons k l ih => intro ws h; exact ih _ (joinW_lt h (hW _) 4)
  exact key l _ fun _ => by decide
theorem bit_joinL (W : Nat → Nat → Nat) {q : Nat} (hq : q < 256) (l : List Int) : bitW (joinL W l) q = true ↔ ∃ k ∈ l, bitW (W k.toNat) q = true := by
  have key : ∀ (l : List Int) (ws : Nat → Nat), bitW (l.foldl (fun s k => joinW s (W k.toNat) 4) ws) q = true ↔ bitW ws q = true ∨ ∃ k ∈ l, bitW (W k.toNat) q = true := by
    intro l
    induction l with
    | nil => intro ws; simp
    | cons k l ih =>
      intro ws
      rw [List.foldl_cons, ih, bit_joinW _ _ hq, Bool.or_eq_true]
      simp only [List.mem_cons, exists_eq_or_imp, or_assoc]
  unfold joinL
  rw [key]
  simp [bitW]

/-- One instruction's step. -/
def stepW (o : DO) (W : Nat → Nat → Nat) (i : Nat) : Nat → Nat := joinW (if setsB (o.irs.getD i default).op = true then clrW (joinL W (goesL (o.irs.getD i default) i)) (o.irs.getD i default).d.toNat else joinL W (goesL (o.irs.getD i default) i)) (useW o i) 4
theorem stepW_lt {o : DO} {W : Nat → Nat → Nat} (hW : ∀ i q, W i q < 18446744073709551616) (i : Nat) : ∀ q, stepW o W i q < 18446744073709551616 := by
  refine joinW_lt ?_ (useW_lt o i) 4
  split
  · exact clrW_lt (joinL_lt hW _) _
  · exact joinL_lt hW _
theorem bit_stepW {o : DO} (H : FlH o) (W : Nat → Nat → Nat) {i : Nat} (hi : i < o.irs.length) {q : Nat} (hq : q < 256) : bitW (stepW o W i) q = true ↔ (q : Int) ∈ usedL (o.irs.getD i default) (o.descs.getD i []) ++ usesL (o.descs.getD i []) ∨ (∃ k ∈ goesL (o.irs.getD i default) i, bitW (W k.toNat) q = true) ∧ ¬ (setsB (o.irs.getD i default).op = true ∧ (o.irs.getD i default).d = (q : Int)) := by
  unfold stepW
  rw [bit_joinW _ _ hq, Bool.or_eq_true, bit_useW H hi, or_comm]
  refine or_congr Iff.rfl ?_
  by_cases hs : setsB (o.irs.getD i default).op = true
  · have hd := H.d hi hs
    rw [if_pos hs, bit_clrW, Bool.and_eq_true, bit_joinL W hq, Bool.not_eq_true', decide_eq_false_iff_not]
    refine and_congr Iff.rfl (not_congr ?_)
    constructor
    · intro e; exact ⟨hs, by omega⟩
    · rintro ⟨_, e⟩; omega
  · rw [if_neg hs, bit_joinL W hq]
    exact ⟨fun h => ⟨h, fun h2 => hs h2.1⟩, fun h => h.1⟩

/-- What holds of the sets all along. -/
structure InvW (o : DO) (W : Nat → Nat → Nat) : Prop where
  lt : ∀ i q, W i q < 18446744073709551616
  inn : ∀ i, i < o.irs.length → ∀ r, r < 256 → bitW (W i) r = true → LiveP o i r
  pre : ∀ i, i < o.irs.length → ∀ r, r < 256 → bitW (W i) r = true → bitW (stepW o W i) r = true
theorem InvW.zero (o : DO) : InvW o fun _ _ => 0 := ⟨fun _ _ => by decide, fun _ _ _ _ h => by simp [bitW] at h, fun _ _ _ _ h => by simp [bitW] at h⟩
def updW (W : Nat → Nat → Nat) (i : Nat) (s : Nat → Nat) : Nat → Nat → Nat := fun j q => if j = i then s q else W j q
theorem bit_updW (W : Nat → Nat → Nat) (i : Nat) (s : Nat → Nat) (j r : Nat) : bitW (updW W i s j) r = if j = i then bitW s r else bitW (W j) r := by
  unfold updW bitW
  split <;> rfl
theorem InvW.upd {o : DO} (H : FlH o) {W : Nat → Nat → Nat} (h : InvW o W) {i : Nat} (hi : i < o.irs.length) : InvW o (updW W i (stepW o W i)) := by
  have up : ∀ j r, j < o.irs.length → r < 256 → bitW (W j) r = true → bitW (updW W i (stepW o W i) j) r = true := fun j r hj hr hb => by
    rw [bit_updW]
    split
    · rename_i e; subst e; exact h.pre j hj r hr hb
    · exact hb
  have mono : ∀ j r, j < o.irs.length → r < 256 → bitW (stepW o W j) r = true → bitW (stepW o (updW W i (stepW o W i)) j) r = true := fun j r hj hr hb => by
    rw [bit_stepW H _ hj hr] at hb ⊢
    rcases hb with hb | ⟨⟨k, hk, hb⟩, hn⟩
    · exact .inl hb
    · have := H.go j hj k hk
      exact .inr ⟨⟨k, hk, up _ _ (by omega) hr hb⟩, hn⟩
  refine ⟨fun j q => ?_, fun j hj r hr hb => ?_, fun j hj r hr hb => ?_⟩
  · unfold updW
    split
    · exact stepW_lt h.lt i q
    · exact h.lt j q
  · rw [bit_updW] at hb
    split at hb
    · rename_i e
      subst e
      rw [bit_stepW H _ hj hr] at hb
      rcases hb with hb | ⟨⟨k, hk, hb⟩, hn⟩
      · exact .use hj hb
      · have hg := H.go j hj k hk
        exact .step hj (k := k.toNat) (by rw [Int.toNat_of_nonneg hg.1]; exact hk) (h.inn _ (by omega) r hr hb) hn
    · exact h.inn j hj r hr hb
  · rw [bit_updW] at hb
    split at hb
    · rename_i e; subst e; exact mono j r hj hr hb
    · exact mono j r hj hr (h.pre j hj r hr hb)

/-- How many bits are not set. -/
def unset (n : Nat) (W : Nat → Nat → Nat) : Nat := ((List.range n).flatMap fun i => (List.range 256).map fun r => (i, r)).countP fun p => !bitW (W p.1) p.2
theorem countP_lt_of {α : Type} {p q : α → Bool} : ∀ {l : List α}, (∀ x ∈ l, p x = true → q x = true) → (∃ x ∈ l, q x = true ∧ p x = false) → l.countP p < l.countP q
  | [], _, ⟨_, h, _⟩ => absurd h (by simp)
  | a :: l, h, ⟨x, hx, h1, h2⟩ => by
    have hle : l.countP p ≤ l.countP q := List.countP_mono_left fun y hy => h y (List.mem_cons_of_mem _ hy)
    rw [List.countP_cons, List.countP_cons]
    rcases List.mem_cons.1 hx with rfl | hx
    · rw [h1, h2]; simp; omega
    · have := countP_lt_of (l := l) (fun y hy => h y (List.mem_cons_of_mem _ hy)) ⟨x, hx, h1, h2⟩
      have ha := h a (by simp)
      cases hpa : p a
      · simp; omega
      · rw [ha hpa]; simp; omega
theorem unset_upd {o : DO} {W : Nat → Nat → Nat} (h : InvW o W) {i : Nat} (hi : i < o.irs.length) (hne : ∃ q, q < 4 ∧ stepW o W i q ≠ W i q) : unset o.irs.length (updW W i (stepW o W i)) < unset o.irs.length W := by
  obtain ⟨q, hq, hne⟩ := hne
  have hd : ∃ r, r < 256 ∧ bitW (stepW o W i) r ≠ bitW (W i) r := by
    refine Classical.byContradiction fun hc => hne (words_ext (stepW_lt h.lt i) (h.lt i) (fun r hr => ?_) hq)
    exact Classical.byContradiction fun h2 => hc ⟨r, hr, h2⟩
  obtain ⟨r, hr, hb⟩ := hd
  have h0 : bitW (W i) r = false := by
    cases hc : bitW (W i) r
    · rfl
    · exact absurd ((h.pre i hi r hr hc).trans hc.symm) hb
  have h1 : bitW (stepW o W i) r = true := by
    rw [h0] at hb
    simpa using hb
  unfold unset
  refine countP_lt_of (fun x hx hp => ?_) ⟨(i, r), ?_, ?_, ?_⟩
  · obtain ⟨j, hj, hx⟩ := List.mem_flatMap.1 hx
    obtain ⟨r', hr', rfl⟩ := List.mem_map.1 hx
    simp only [Bool.not_eq_true'] at hp ⊢
    rw [bit_updW] at hp
    split at hp
    · rename_i e
      subst e
      cases hc : bitW (W j) r'
      · rfl
      · rw [h.pre j hi r' (List.mem_range.1 hr') hc] at hp; cases hp
    · exact hp
  · exact List.mem_flatMap.2 ⟨i, List.mem_range.2 hi, List.mem_map.2 ⟨r, List.mem_range.2 hr, rfl⟩⟩
  · simp [h0]
  · show (!bitW (updW W i (stepW o W i) i) r) = false
    rw [bit_updW, if_pos rfl, h1]; rfl
theorem InvW.done {o : DO} (H : FlH o) {W : Nat → Nat → Nat} (h : InvW o W) (he : ∀ i, i < o.irs.length → ∀ q, q < 4 → stepW o W i q = W i q) {i : Nat} (hi : i < o.irs.length) {q : Nat} (hq : q < 4) : W i q = wordsP (LiveP o i) q := by
  have key : ∀ {i r : Nat}, LiveP o i r → r < 256 → bitW (W i) r = true := by
    intro i r hl
    induction hl with
    | @use i r hi hu =>
      intro hr
      have e : bitW (stepW o W i) r = bitW (W i) r := by unfold bitW; rw [he i hi _ (by omega)]
      rw [← e, bit_stepW H W hi hr]
      exact .inl hu
    | @step i k r hi hk _ hd ih =>
      intro hr
      have e : bitW (stepW o W i) r = bitW (W i) r := by unfold bitW; rw [he i hi _ (by omega)]
      rw [← e, bit_stepW H W hi hr]
      exact .inr ⟨⟨k, hk, ih hr⟩, hd⟩
  refine words_ext (h.lt i) (wordsP_lt _) (fun r hr => ?_) hq
  rw [Bool.eq_iff_iff, bit_wordsP]
  exact ⟨fun hb => h.inn i hi r hr hb, fun hl => key hl hr⟩
end Go.Ab

/- For every input, where what it reads is of bulk at most 1048576, RegsMoves answers true, and the input reads as it did. -/
import Derived.Test.YtbclepldghjacaaB2
import Derived.Test.YtbclepldghjacaaB3
import Derived.Test.YtbclepldghjacaaA5
import Derived.Test.YtbclepldghjacaaRows
set_option linter.unusedVariables false
set_option linter.unusedSimpArgs false
namespace Go.Proofs.Ytbclepldghjacaa.regsMoves
open Go Go.Ab Go.Proofs
open Go.ChangeShapes Go.WideShapes Go.ChangeAt Go.RowKit
set_option maxRecDepth 100000

theorem own : ownKnob Try.prog.godebug = none := by kernel_rfl
theorem laidOut : laidOutB Try.prog = true := by kernel_rfl
theorem rowed : mapsRowed Try.prog = true := by kernel_rfl
mutual
theorem blkEq {H : Type} : (d : DataW H) → blk d = Rows.uptoBulk d
  | .lit l => by cases l <;> simp [blk, Rows.uptoBulk]
  | .nil => by simp [blk, Rows.uptoBulk]
  | .ptr d => by simp [blk, Rows.uptoBulk, blkEq d]
  | .slice elems spare => by simp [blk, Rows.uptoBulk, blkAllEq elems, blkAllEq spare]
  | .agg parts => by simp [blk, Rows.uptoBulk, blkAllEq parts]
  | .iface _ d => by simp [blk, Rows.uptoBulk, blkEq d]
  | .map entries => by simp [blk, Rows.uptoBulk, blkEntriesEq entries]
  | .held _ => by simp [blk, Rows.uptoBulk]
theorem blkAllEq {H : Type} : (l : List (DataW H)) → blkAll l = Rows.uptoBulkAll l
  | [] => by simp [blkAll, Rows.uptoBulkAll]
  | d :: r => by simp [blkAll, Rows.uptoBulkAll, blkEq d, blkAllEq r]
theorem blkEntriesEq {H : Type} : (l : List (Lit × DataW H)) → blkEntries l = Rows.uptoBulkEntries l
  | [] => by simp [blkEntries, Rows.uptoBulkEntries]
  | x :: r => by simp [blkEntries, Rows.uptoBulkEntries, blkEntryEq x, blkEntriesEq r]
theorem blkEntryEq {H : Type} : (x : Lit × DataW H) → blkEntry x = Rows.uptoBulkEntry x
  | (l, d) => by cases l <;> simp [blkEntry, Rows.uptoBulkEntry, blkEq d]
end
/-- Each argument's bulk. -/
theorem small {H : Type} {ds : List (DataW H)} (hk : Rows.uptoSmall H (ds ++ []) = true) : ∀ d ∈ ds, blk d ≤ 1048576 := fun d hd => by
  have h : Rows.uptoBulkAll (ds ++ []) ≤ 1048576 := of_decide_eq_true hk
  rw [List.append_nil, ← blkAllEq] at h
  exact Nat.le_trans (blk_mem hd) h
theorem sizes : ∀ t e, t < Try.prog.types.size → Try.prog.underlying t = some (.slice e) → 0 < Try.prog.cellsOf e := by
  have h : (List.range Try.prog.types.size).all (fun t => match Try.prog.underlying t with
    | some (.slice e) => Nat.blt 0 (Try.prog.cellsOf e)
    | _ => true) = true := by kernel_rfl
  intro t e ht hu
  have := List.all_eq_true.1 h t (List.mem_range.2 ht)
  rw [hu] at this
  simpa [Nat.blt_eq] using this
theorem params : ∀ t ∈ Try.f3.params.toList, t < Try.prog.types.size := by
  have h : Try.f3.params.toList.all (fun t => Nat.blt t Try.prog.types.size) = true := by kernel_rfl
  intro t ht
  simpa [Nat.blt_eq] using List.all_eq_true.1 h t ht

theorem rInt : Reads Try.prog 3 Int (fun n => [.int .i64 n]) (fun n => (Lit.int .i64 n).wf = true) := Reads.int Try.underlying3
theorem rPair : Reads Try.prog 56 (Int × Int) (fun p => [.int .i64 p.1] ++ [.int .i64 p.2]) (fun p => (Lit.int .i64 p.1).wf = true ∧ (Lit.int .i64 p.2).wf = true) := Reads.array2 Try.underlying56 (by kernel_rfl) rInt
theorem cPair : Try.prog.cellsOf 56 = 2 := by kernel_rfl
theorem rPairs : Reads Try.prog 22 (List (Int × Int)) (fun l => [prs l]) (fun l => l.length ≤ 1048576) := by
  refine Reads.less (Reads.slice (0, 0) Try.underlying22 (by rw [cPair]; decide) rPair) (fun l => l) fun l hl => ⟨hl.1, .cons ?_ .nil⟩
  refine NEq.frzs cPair rfl fun i o hi ho => ?_
  obtain rfl | rfl : o = 0 ∨ o = 1 := by omega
  · exact .refl _
  · exact .refl _

theorem contract (H : Type) (enc : TypeId × Value → H) (W : World) (base : Nat) (args : Array Value) (ds gs : List (DataW H)) (before : List MemPlace)
    (hval : ∀ (j : Nat) t v, Try.f3.params[j]? = some t → args[j]? = some v → Value.okWide Try.prog W .any base t v)
    (hW : DataW.Whole enc Try.prog Try.f3.params.toList Rows.regsMovesSpec.vars false W args.toList ds gs before) (hk : Rows.uptoSmall H (ds ++ gs) = true) :
    Calls Try.prog 3 args W fun e W' => ∃ v, e = .returned v ∧ Rows.regsMovesSpec.post enc Try.prog Try.f3 false true false false W args v W' := by
  have hW' := hW
  obtain ⟨p, q, hA0, hV, rfl, hfz, hnd⟩ := hW
  have hA : DataW.TrodAll enc Try.prog W 0 (fun _ => true) true Try.f3.params.toList args.toList ds p := hA0
  rw [Try.params3] at hA hval
  obtain ⟨v0, vs0, d0, ds0, p0, q0, hargs, rfl, rfl, h0, r0⟩ := trodAll_cons hA
  obtain ⟨v1, vs1, d1, ds1, p1, q1, rfl, rfl, rfl, h1, r1⟩ := trodAll_cons r0
  obtain ⟨rfl, rfl, rfl⟩ := trodAll_nil r1
  obtain rfl : args = #[v0, v1] := by cases args; simp_all
  obtain ⟨rfl, rfl⟩ := trodVars_none hV
  have hs := small (by simpa using hk)
  obtain ⟨l, hl, e0⟩ := rPairs.argSlice Try.underlying22 prs (fun _ => rfl) (hval 0 _ v0 rfl rfl) h0 (hs _ (by simp))
  obtain ⟨n, hn, e1⟩ := Reads.argInt Try.underlying3 (hval 1 _ v1 rfl rfl) h1 (hs _ (by simp))
  exact law_of laidOut rowed sizes params rfl rfl rfl Try.underlying4 hW' (movesLaw awake_spec l n hl) (.cons0 e0 (.cons0 e1 .nil0))

theorem lifted (os : Os) (started : os.Started) (H : Type) (enc : TypeId × Value → H) (F : Stop.Interp) :
    ReturnsInHanded {} Try.checked os 3 .any ((Rows.OpenSpec.upto Rows.regsMovesSpec).pre6 enc Try.prog Try.f3 Rows.regsMovesUptoRow.domain false) (((Rows.OpenSpec.upto Rows.regsMovesSpec).at F).post enc Try.prog Try.f3 false true false false) := by
  refine returnsInHanded_of_cond (C := Try.checked) (s := Rows.OpenSpec.upto Rows.regsMovesSpec) (k := Rows.uptoSmall) rfl own started (by kernel_rfl) Try.func3
    (OpenSpec.witness (enc := enc) (C := Try.checked) (s := Rows.OpenSpec.upto Rows.regsMovesSpec) (k := Rows.uptoSmall) rfl false ⟨#[], #[.slice none 0 0, .int .i64 0], []⟩ 8 (by kernel_rfl) (by kernel_rfl) (by kernel_rfl)
      (x := ([.nil, .lit (.int .i64 0)], [], [])) (by kernel_rfl) rfl (by kernel_rfl)) ?_
  intro W base args ds gs before hval hW _ hk _
  exact contract H enc W base args ds gs before hval hW hk

theorem proved : Rows.RegsMovesUptoSaid :=
  OpenClaim.holds_of_cond 3 Try.f3 rfl rfl rfl rfl rfl rfl rfl ⟨rfl, rfl, rfl, rfl, rfl⟩ rfl rfl rfl rfl rfl (by kernel_rfl) Try.func3 (by kernel_rfl)
    (of_decide_eq_true (by kernel_rfl)) (by unfold Func.isWrapper; first | (rw [if_pos (by decide +kernel)]; kernel_rfl) | (rw [if_neg (by decide +kernel)]; exact ⟨rfl, rfl⟩))
    (fun os started H enc _ F => lifted os started H enc F)
#print axioms proved
end Go.Proofs.Ytbclepldghjacaa.regsMoves

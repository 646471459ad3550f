/- proteuslaw21.RegsDead is true whatever the input, and the input reads as it did, where what it reads is of bulk at most 1048576. -/
import Derived.Test.YtbclepldghjacaaA5
import Derived.Test.YtbclepldghjacaaW1
set_option linter.unusedVariables false
set_option linter.unusedSimpArgs false
namespace Go.Ab
open Go.Proofs
set_option maxRecDepth 100000
set_option maxHeartbeats 4000000

def mem0 (o : DO) (vc vl : Nat) (W : Nat → Nat → Nat) : Hp := [((1, 45), ⟨vc, .obox 81 (codeC o (.ref (1, 43) vl [] 4 0 o.irs.length))⟩), ((1, 43), ⟨vl, owW o.irs.length W⟩)]
def mem1 (o : DO) (vc vl v : Nat) (W U : Nat → Nat → Nat) : Hp := ((2, 16), ⟨v, owW o.irs.length U⟩) :: mem0 o vc vl W
theorem leafyW (us : Nat → Nat) : leafyL (aggW us) := by
  unfold aggW
  intro x hx
  simp only [List.mem_cons, List.not_mem_nil, or_false] at hx
  rcases hx with rfl | rfl | rfl | rfl <;> trivial
theorem row_at {k a b w w' : Nat} {us : Nat → Nat} (hb : b < 4) (h : w' = if a = k then us b else w) : NEq (if a = 0 + (k : Int).toNat ∧ 0 ≤ b ∧ b < 0 + 4 then List.getD [PV.int .u64 (us 0), PV.int .u64 (us 1), PV.int .u64 (us 2), PV.int .u64 (us 3)] (b - 0) .undef else .int .u64 w) (.int .u64 w') := by
  rw [Int.toNat_natCast, Nat.zero_add]
  by_cases e : a = k
  · rw [if_pos ⟨e, by omega, by omega⟩, h, if_pos e]
    rcases (by omega : b = 0 ∨ b = 1 ∨ b = 2 ∨ b = 3) with rfl | rfl | rfl | rfl <;> exact .refl _
  · rw [if_neg (fun h => e h.1), h, if_neg e]
    exact .refl _
theorem CallS.nexts {S : Hp} {id : RId} {ver : Nat} {args : List PV} {L : Hp} {nv : Nat} {K : PV → Hp → Nat → Prop} (o : DO) (lv : PV) (i : Nat) (hi : i < o.irs.length) (hil : o.irs.length ≤ 6000) (hop : 1 ≤ (o.irs.getD i default).op ∧ (o.irs.getD i default).op ≤ 16) (ha : LeL (args.map (view 9 (L ++ S))) [codeP o lv, .int .i64 i])
    (k : delS L id fun L => fz (.ref id ver [] 1 0 (goesL (o.irs.getD i default) i).length) fun x => K x ((id, ⟨ver, oints (goesL (o.irs.getD i default) i ++ padL (o.irs.getD i default) i)⟩) :: L) nv) : CallS Try.prog S id ver 46 args L nv K :=
  .ownPlain _ 1 _ (fun j _ => .int .i64 ((goesL (o.irs.getD i default) i ++ padL (o.irs.getD i default) i).getD j 0)) _ (nexts_spec o lv i hi hil hop) ha trivial (fun i o hi => trivial) k
theorem getD_app0 (a b : List Int) {k : Nat} (hk : k < a.length) : (a ++ b).getD k 0 = a.getD k 0 := by
  rw [List.getD_eq_getElem?_getD, List.getElem?_append_left hk, List.getD_eq_getElem?_getD]
theorem mk_sets {vc : Nat} (o : DO) (lv : PV) (op : Int) {off : Nat} (h : 1 ≤ op ∧ op ≤ 16) (hoff : off = 12 + op.toNat * 4 + 1) : mkV Try.prog 4 (fun j => cellV (1, 45) vc [] 0 j (codeC o lv j)) off = .bool (setsB op) := by
  subst hoff
  have key : ∀ n : Nat, 1 ≤ n ∧ n ≤ 16 → mkV Try.prog 4 (fun j => cellV (1, 45) vc [] 0 j (codeC o lv j)) (12 + n * 4 + 1) = .bool (setsB (n : Int)) := by
    intro n hn
    rcases (by omega : n = 1 ∨ n = 2 ∨ n = 3 ∨ n = 4 ∨ n = 5 ∨ n = 6 ∨ n = 7 ∨ n = 8 ∨ n = 9 ∨ n = 10 ∨ n = 11 ∨ n = 12 ∨ n = 13 ∨ n = 14 ∨ n = 15 ∨ n = 16) with rfl | rfl | rfl | rfl | rfl | rfl | rfl | rfl | rfl | rfl | rfl | rfl | rfl | rfl | rfl | rfl <;> rfl
  have h2 := key op.toNat (by omega)
  rw [Int.toNat_of_nonneg (by omega)] at h2
  exact h2
theorem wdiv64 {d : Int} (h : 0 ≤ d ∧ d < 250) : IntKind.i64.wrap (d.tdiv 64) = ((d.toNat / 64 : Nat) : Int) := by
  have := wrap64_div (r := d.toNat) (by omega)
  rw [Int.toNat_of_nonneg h.1] at this
  exact this
theorem andNot_at {w j : Nat} (hw : w < 18446744073709551616) (hj : j < 64) : IntKind.u64.wrap ((BitVec.ofInt IntKind.u64.bits (w : Int) &&& ~~~ BitVec.ofInt IntKind.u64.bits (IntKind.u64.wrap (1 * 2 ^ min j IntKind.u64.bits))).toNat : Int) = ((w &&& (18446744073709551615 ^^^ 2 ^ j) : Nat) : Int) := by
  have hb : IntKind.u64.bits = 64 := rfl
  rw [hb, Nat.min_eq_left (by omega), Int.one_mul]
  have hj2 : 2 ^ j < 18446744073709551616 := Nat.pow_lt_pow_right (a := 2) (by decide) hj
  have h1 : (2 : Int) ^ j = ((2 ^ j : Nat) : Int) := by norm_cast
  rw [h1]
  generalize hp : 2 ^ j = p at *
  have h3 : IntKind.u64.wrap (p : Int) = p := wrapU (by omega) (by omega)
  rw [h3, BitVec.ofInt_natCast, BitVec.ofInt_natCast]
  have h4 : (BitVec.ofNat 64 w &&& ~~~BitVec.ofNat 64 p).toNat = w &&& (18446744073709551615 ^^^ p) := by
    apply Nat.eq_of_testBit_eq
    intro i
    rw [BitVec.testBit_toNat, BitVec.getLsbD_and, BitVec.getLsbD_not, Nat.testBit_and, Nat.testBit_xor, show (18446744073709551615 : Nat) = 2 ^ 64 - 1 from rfl, Nat.testBit_two_pow_sub_one, BitVec.getLsbD_ofNat, BitVec.getLsbD_ofNat]
    by_cases hi : i < 64
    · simp only [hi, decide_true, Bool.true_and, Bool.true_xor]
    · rw [Nat.testBit_lt_two_pow (Nat.lt_of_lt_of_le hw (Nat.pow_le_pow_right (n := 2) (by decide) (show 64 ≤ i by omega)))]
      simp only [hi, decide_false, Bool.false_and]
  rw [h4]
  have h5 : w &&& (18446744073709551615 ^^^ p) ≤ w := Nat.and_le_left
  generalize w &&& (18446744073709551615 ^^^ p) = q at *
  exact wrapU (by omega) (by omega)
theorem clr_node {d : Int} (h : 0 ≤ d ∧ d < 250) {J J' : Nat → Nat} (hJ : ∀ o, J o < 18446744073709551616) (e : J = J') (b : Nat) : (if 0 + (IntKind.i64.wrap (d.tdiv 64)).toNat * Try.prog.cellsOf 77 ≤ b ∧ b < 0 + (IntKind.i64.wrap (d.tdiv 64)).toNat * Try.prog.cellsOf 77 + 1 then List.getD [PV.int .u64 (IntKind.u64.wrap ((BitVec.ofInt IntKind.u64.bits (J (0 + (IntKind.i64.wrap (d.tdiv 64)).toNat * Try.prog.cellsOf 77) : Int) &&& ~~~ BitVec.ofInt IntKind.u64.bits (IntKind.u64.wrap (1 * 2 ^ min (d.tmod 64).toNat IntKind.u64.bits))).toNat : Int))] (b - (0 + (IntKind.i64.wrap (d.tdiv 64)).toNat * Try.prog.cellsOf 77)) .undef else .int .u64 (J b)) = .int .u64 (clrW J' d.toNat b) := by
  subst e
  have em : (d.tmod 64).toNat = d.toNat % 64 := by
    have := tmod64 d.toNat
    rw [Int.toNat_of_nonneg h.1] at this
    rw [this]; omega
  rw [cW, wdiv64 h, em]
  simp only [Int.toNat_natCast, Nat.zero_add, Nat.mul_one]
  rw [andNot_at (hJ _) (Nat.mod_lt _ (by decide))]
  by_cases c : b = d.toNat / 64
  · subst c
    rw [if_pos (by omega), Nat.sub_self]
    simp only [clrW, if_true]
    rfl
  · rw [if_neg (by omega)]
    simp only [clrW, if_neg c]
theorem ne4 {f g : Nat → Nat} (h : ¬ (f 0 : Int) = (g 0 : Int) ∨ ¬ (f 1 : Int) = (g 1 : Int) ∨ ¬ (f 2 : Int) = (g 2 : Int) ∨ ¬ (f 3 : Int) = (g 3 : Int)) : ∃ q, q < 4 ∧ f q ≠ g q := by
  rcases h with h | h | h | h
  · exact ⟨0, by omega, by omega⟩
  · exact ⟨1, by omega, by omega⟩
  · exact ⟨2, by omega, by omega⟩
  · exact ⟨3, by omega, by omega⟩
theorem eq4 {f g : Nat → Nat} (h : (f 0 : Int) = (g 0 : Int) ∧ (f 1 : Int) = (g 1 : Int) ∧ (f 2 : Int) = (g 2 : Int) ∧ (f 3 : Int) = (g 3 : Int)) (q : Nat) (hq : q < 4) : f q = g q := by
  obtain ⟨h0, h1, h2, h3⟩ := h
  rcases (by omega : q = 0 ∨ q = 1 ∨ q = 2 ∨ q = 3) with rfl | rfl | rfl | rfl <;> omega
theorem CallS.on1e {P : Program} {S L : Hp} {id r : RId} {v : Nat} {node node' : PV} {ver nv n : Nat} {f : FuncId} {args args' : List PV} {K : PV → Hp → Nat → Prop} {R : PV → Hp → Nat → Prop} (hr : lkS L r = some ⟨v, node⟩) (he : node = node') (ha : LeL args args') (hA : Above n (L ++ S))
    (h : ∀ S', Above n S' → CallsA P f args' ([(r, ⟨v, node'⟩)] ++ S') nv fun x hp' nv' => ∃ L', hp' = L' ++ S' ∧ R x L' nv')
    (k : delS L r fun M => ∀ x L' nv', R x L' nv' → fz x fun x => K x (L' ++ M) nv') : CallS P S id ver f args L nv K := by
  subst he
  exact CallS.on1 hr hA (fun S' hS' => (h S' hS').less ha) k
theorem flow_spec (o : DO) (H : FlH o) (vc vl nv : Nat) (S : Hp) (hS : Above 2 S) : CallsA Try.prog 56 [.ptr (1, 45) vc [] 0 0] (mem0 o vc vl (fun _ _ => 0) ++ S) nv
    fun x hp' nv' => ∃ L', hp' = L' ++ S ∧ (x = .tup [] ∧ L' = mem0 o vc vl fun i => wordsP (LiveP o i)) := by
  have hil : o.irs.length ≤ 6000 := by have := H.hf; unfold fewN at this; omega
  have hn := H.ne
  refine callsA_ofS (lv := 2) (by decide) mx Try.call56 Try.func56 rfl Try.ntmps56 Try.results56 (by kernel_rfl) (by simp) fun lo => ?_
  refine scopeS' mx (by decide) ?hok 0 ?hok2 ?hf (fun p : (Nat → Nat → Nat) × Nat => InvW o p.1) (fun p => [(2, .ref (2, 16) p.2 [] 4 0 o.irs.length), (0, .ptr (1, 45) vc [] 0 0)]) (fun p => mem1 o vc vl p.2 p.1 (useW o)) (fun p => unset o.irs.length p.1) ?first ?pass
  case hf => kernel_rfl
  case hok => kernel_rfl
  case hok2 => kernel_rfl
  case first =>
    repeat' (first | refine vcI ?_ | refine And.intro ?_ ?_ | (intro hq; (try simp at hq); (try (exfalso; omega)); (try (revert hq; intro))))
    · rw [show Try.prog.bytesOf 79 = 32 by kernel_rfl]; omega
    · rfl
    refine Exists.intro (owW o.irs.length fun _ _ => 0) (And.intro ?_ (And.intro ?_ ?_))
    · refine NEq.owns rfl (by simp) fun i q hi hq => ?_
      rcases (by have : q < 4 := hq; omega : q = 0 ∨ q = 1 ∨ q = 2 ∨ q = 3) with rfl | rfl | rfl | rfl <;> exact .refl _
    · rfl
    repeat' (first | refine vcI ?_ | refine And.intro ?_ ?_ | (intro hq; (try simp at hq); (try (exfalso; omega)); (try (revert hq; intro))))
    refine loopS2 mx (by decide) (by kernel_rfl) (fun (k v : Nat) => k ≤ o.irs.length) (fun k v => [(23, .int .i64 k), (22, .int .i64 o.irs.length), (2, .ref (2, 16) v [] 4 0 o.irs.length), (0, .ptr (1, 45) vc [] 0 0)]) (fun k v => ((2, 16), ⟨v, owW o.irs.length fun i q => if i < k then useW o i q else 0⟩) :: mem0 o vc vl fun _ _ => 0) (fun k v => o.irs.length - k) 0 _ (by simp) ⟨by ((repeat' apply And.intro) <;> (first | exact True.intro | exact NEq.refl _ | (refine NEq.int ?_; first | exact rfl | omega | (rw [wrapI (by omega)]; first | exact rfl | omega)))), ?_, .chk hS rfl⟩ ?_
    · exact ⟨⟨rfl, .refl _⟩, ⟨rfl, .refl _⟩, ⟨rfl, .refl _⟩, trivial⟩
    intro k v nv hk
    repeat' (first | refine vcI ?_ | refine And.intro ?_ ?_ | (intro hq; (try simp at hq); (try (exfalso; omega)); (try (revert hq; intro))))
    · rename_i hlt
      have hview : NEq (view 9 ((((2, 16), ⟨v, owW o.irs.length fun i q => if i < k then useW o i q else 0⟩) :: mem0 o vc vl fun _ _ => 0) ++ S) (.ptr (1, 45) vc [] 0 0)) (codeP o (frW o.irs.length fun _ _ => 0)) := view_code (1, 45) (1, 43) rfl rfl 4
      refine CallS.plain [codeP o (frW o.irs.length fun _ _ => 0), .int .i64 k] (aggW (useW o k)) (own_spec o _ k hlt (by rw [H.hd]; exact hlt) H.hf H.hr H.hs (H.sh k hlt)) (LeL.cons hview (LeL.cons (.refl _) LeL.nil)) (leafyW _) ?_
      repeat' (first | refine vcI ?_ | refine And.intro ?_ ?_ | (intro hq; (try simp at hq); (try (exfalso; omega)); (try (revert hq; intro))))
      · rfl
      refine Exists.intro (owW o.irs.length fun i q => if i < k + 1 then useW o i q else 0) (And.intro ?_ (And.intro rfl ?_))
      · refine NEq.owns rfl rfl fun a b ha hb => row_at hb ?_
        show (if a < k + 1 then useW o a b else 0) = _
        by_cases e : a = k
        · rw [if_pos e, if_pos (by omega), e]
        · rw [if_neg e]
          exact ite_congr (by rw [eq_iff_iff]; omega) (fun _ => rfl) fun _ => rfl
      have hw : IntKind.i64.wrap ((k : Int) + 1) = ((k + 1 : Nat) : Int) := wrapI (by omega)
      repeat' (first | refine vcI ?_ | refine And.intro ?_ ?_ | (intro hq; (try simp at hq); (try (exfalso; omega)); (try (revert hq; intro))))
      refine Exists.intro (k + 1, v) ⟨by dsimp only; omega, (by first | omega | (dsimp only; omega)), ⟨by ((repeat' apply And.intro) <;> (first | exact True.intro | exact NEq.refl _ | (refine NEq.int ?_; first | exact rfl | omega | (rw [wrapI (by omega)]; first | exact rfl | omega)))), ⟨⟨rfl, .refl _⟩, ⟨rfl, .refl _⟩, ⟨rfl, .refl _⟩, trivial⟩, .chk hS rfl⟩⟩
    · rename_i hge
      obtain rfl : k = o.irs.length := by omega
      have hw : IntKind.i64.wrap ((o.irs.length : Int) - 1) = (o.irs.length : Int) - 1 := by rw [IntKind.wrap_i64]; omega
      repeat' (first | refine vcI ?_ | refine And.intro ?_ ?_ | (intro hq; (try simp at hq); (try (exfalso; omega)); (try (revert hq; intro))))
      refine loopS3 mx (by decide) (by kernel_rfl) (fun (j : Nat) (W' : Nat → Nat → Nat) (b : Bool) => j ≤ o.irs.length ∧ InvW o W' ∧ (b = true → unset o.irs.length W' < unset o.irs.length (fun _ _ => 0)) ∧ (b = false → W' = (fun _ _ => 0) ∧ ∀ m, j ≤ m → m < o.irs.length → ∀ q, q < 4 → stepW o (fun _ _ => 0) m q = (fun _ _ => 0) m q)) (fun j W' b => [(5, .int .i64 ((j : Int) - 1)), (4, .bool b), (2, .ref (2, 16) v [] 4 0 o.irs.length), (0, .ptr (1, 45) vc [] 0 0)]) (fun j W' b => mem1 o vc vl v W' (useW o)) (fun j W' b => j) o.irs.length (fun _ _ => 0) false ⟨Nat.le_refl _, (InvW.zero o), (by simp), fun _ => ⟨rfl, fun m h1 h2 => by omega⟩⟩ ⟨by ((repeat' apply And.intro) <;> (first | exact True.intro | exact NEq.refl _ | (refine NEq.int ?_; first | exact rfl | omega | (rw [wrapI (by omega)]; first | exact rfl | omega)))), ⟨⟨rfl, NEq.owns rfl rfl fun i q hi hq => NEq.of_eq (by dsimp only; rw [if_pos hi])⟩, ⟨rfl, .refl _⟩, ⟨rfl, .refl _⟩, trivial⟩, .chk hS rfl⟩ ?_
      intro j W' b nv ⟨hj, hI, hb1, hb0⟩
      rcases j with _ | i
      · repeat' (first | refine vcI ?_ | refine And.intro ?_ ?_ | (intro hq; (try simp at hq); (try (exfalso; omega)); (try (revert hq; intro))))
        · exact Exists.intro (W', v) ⟨hI, ⟨by ((repeat' apply And.intro) <;> (first | exact True.intro | exact NEq.refl _ | (refine NEq.int ?_; first | exact rfl | omega | (rw [wrapI (by omega)]; first | exact rfl | omega)))), ⟨⟨rfl, .refl _⟩, ⟨rfl, .refl _⟩, ⟨rfl, .refl _⟩, trivial⟩, .chk hS rfl⟩⟩
        · obtain ⟨rfl, hst⟩ := hb0 ‹_›
          refine Exists.intro (PV.tup []) (Exists.intro _ (And.intro ⟨rfl, rfl⟩ (And.intro (.refl _) (And.intro ⟨⟨rfl, .refl _⟩, ⟨rfl, ?_⟩, trivial⟩ (.chk hS rfl)))))
          refine NEq.owns rfl rfl fun i q hi hq => NEq.of_eq ?_
          rw [InvW.done H hI (fun i hi q hq => hst i (Nat.zero_le _) hi q hq) hi hq]
      have hil' : i < o.irs.length := by omega
      have e5 : ((i + 1 : Nat) : Int) - 1 = (i : Int) := by omega
      rw [e5]
      have hw2 : IntKind.i64.wrap ((i : Int) - 1) = (i : Int) - 1 := by rw [IntKind.wrap_i64]; omega
      repeat' (first | refine vcI ?_ | refine And.intro ?_ ?_ | (intro hq; (try simp at hq); (try (exfalso; omega)); (try (revert hq; intro))))
      refine CallS.nexts o (frW o.irs.length W') i hil' hil (H.op hil') (LeL.cons (view_code (1, 45) (1, 43) rfl rfl 4) (LeL.cons (.refl _) LeL.nil)) ?_
      repeat' (first | refine vcI ?_ | refine And.intro ?_ ?_ | (intro hq; (try simp at hq); (try (exfalso; omega)); (try (revert hq; intro))))
      obtain ⟨g, hg⟩ : ∃ g, g = goesL (o.irs.getD i default) i := ⟨_, rfl⟩
      obtain ⟨pd, hpd⟩ : ∃ pd, pd = padL (o.irs.getD i default) i := ⟨_, rfl⟩
      have hgl : g.length ≤ 2 := by rw [hg]; unfold goesL; split <;> (try split) <;> (try split) <;> (try split) <;> (try split) <;> simp
      have hgk : ∀ k, k < g.length → 0 ≤ (g ++ pd).getD k 0 ∧ (g ++ pd).getD k 0 < (o.irs.length : Int) := fun k hk => by
        rw [getD_app0 _ _ hk]
        have hm : g.getD k 0 ∈ goesL (o.irs.getD i default) i := by rw [← hg, List.getD_eq_getElem?_getD]; exact getD_mem _ hk
        exact H.go i hil' _ hm
      rw [← hg, ← hpd]
      refine loopS3 mx (by decide) (by kernel_rfl) (fun (k v6 v46 : Nat) => k ≤ g.length) (fun k v6 v46 => [(48, .int .i64 k), (47, .int .i64 g.length), (46, .ref (2, 46) v46 [] 1 0 g.length), (6, .ptr (2, 6) v6 [] 0 0), (5, .int .i64 i), (4, .bool b), (2, .ref (2, 16) v [] 4 0 o.irs.length), (0, .ptr (1, 45) vc [] 0 0)]) (fun k v6 v46 => ((2, 6), ⟨v6, .obox 4 (setC (joinL W' (g.take k)))⟩) :: ((2, 46), ⟨v46, oints (g ++ pd)⟩) :: mem1 o vc vl v W' (useW o)) (fun k v6 v46 => g.length - k) 0 _ _ (by simp) ⟨by ((repeat' apply And.intro) <;> (first | exact True.intro | exact NEq.refl _ | (refine NEq.int ?_; first | exact rfl | omega | (rw [wrapI (by omega)]; first | exact rfl | omega)))), ?_, .chk hS rfl⟩ ?_
      · refine ⟨⟨rfl, .obox fun q hq => ?_⟩, ⟨rfl, .refl _⟩, ⟨rfl, .refl _⟩, ⟨rfl, .refl _⟩, ⟨rfl, .refl _⟩, trivial⟩
        rcases (by have : q < 4 := hq; omega : q = 0 ∨ q = 1 ∨ q = 2 ∨ q = 3) with rfl | rfl | rfl | rfl <;> exact .refl _
      intro k v6 v46 nv hk
      repeat' (first | refine vcI ?_ | refine And.intro ?_ ?_ | (intro hq; (try simp at hq); (try (exfalso; omega)); (try (revert hq; intro))))
      · have h1 := hgk k (by assumption)
        rw [Int.toNat_natCast, Nat.zero_add]; omega
      · have h1 := hgk k (by assumption)
        rw [Int.toNat_natCast, Nat.zero_add]; omega
      · rename_i hlt
        refine CallS.onA (L0 := [((2, 6), ⟨v6, .obox 4 (setC (joinL W' (g.take k)))⟩)]) (M := ((2, 46), ⟨v46, oints (g ++ pd)⟩) :: mem1 o vc vl v W' (useW o)) ((setJoin26_spec (joinL W' (g.take k)) (W' (0 + ((g ++ pd).getD (0 + (k : Int).toNat) 0).toNat)) (joinL_lt hI.lt _) (hI.lt _) v6 _ _ (Above.chk rfl (hS.mono (by decide)))).less ?_) (fun r => ?_) ?_
        · refine LeL.cons (.refl _) (LeL.cons ?_ LeL.nil)
          show NEq (.agg (List.map _ (List.range (Try.prog.cellsOf 79)))) _
          rw [show Try.prog.cellsOf 79 = 4 by kernel_rfl]
          exact .refl _
        · rfl
        rintro x L' nv' ⟨rfl, rfl⟩
        have hw : IntKind.i64.wrap ((k : Int) + 1) = ((k + 1 : Nat) : Int) := wrapI (by omega)
        repeat' (first | refine vcI ?_ | refine And.intro ?_ ?_ | (intro hq; (try simp at hq); (try (exfalso; omega)); (try (revert hq; intro))))
        refine Exists.intro (k + 1, v6, v46) ⟨by dsimp only; omega, (by first | omega | (dsimp only; omega)), ⟨by ((repeat' apply And.intro) <;> (first | exact True.intro | exact NEq.refl _ | (refine NEq.int ?_; first | exact rfl | omega | (rw [wrapI (by omega)]; first | exact rfl | omega)))), ⟨⟨rfl, ?_⟩, ⟨rfl, .refl _⟩, ⟨rfl, .refl _⟩, ⟨rfl, .refl _⟩, ⟨rfl, .refl _⟩, trivial⟩, .chk hS rfl⟩⟩
        show NEq _ (.obox 4 (setC (joinL W' (g.take (k + 1)))))
        rw [take_succD 0 hlt, joinL_snoc, Int.toNat_natCast, Nat.zero_add, Nat.zero_add, getD_app0 _ _ hlt]
        exact .refl _
      · show 0 ≤ (o.irs.getD i default).op; have := H.op hil'; omega
      · show (o.irs.getD i default).op < _; have := H.op hil'; omega
      · rw [cRow]; decide
      · rw [cRow]; show 0 + 12 + (o.irs.getD i default).op.toNat * 4 + 1 ≤ 81; have := H.op hil'; omega
      · show 0 + 12 + (o.irs.getD i default).op.toNat * Try.prog.cellsOf 82 + 1 + Try.prog.cellsOf 4 ≤ 81
        rw [cRow, show Try.prog.cellsOf 4 = 1 by kernel_rfl]; have := H.op hil'; omega
      · rw [show Try.prog.cellsOf 4 = 1 by kernel_rfl]; decide
      rw [mk_sets o _ _ (H.op hil') (by rw [cRow]; show 0 + 12 + (o.irs.getD i default).op.toNat * 4 + 1 = _; omega)]
      repeat' (first | refine vcI ?_ | refine And.intro ?_ ?_ | (intro hq; (try simp at hq); (try (exfalso; omega)); (try (revert hq; intro))))
      · have hd0 := H.d hil' (by assumption)
        show 0 ≤ IntKind.i64.wrap ((o.irs.getD i default).d.tdiv 64)
        rw [wdiv64 hd0]; omega
      · have hd0 := H.d hil' (by assumption)
        show IntKind.i64.wrap ((o.irs.getD i default).d.tdiv 64) < 4
        rw [wdiv64 hd0]; omega
      · rw [cW]; decide
      · have hd0 := H.d hil' (by assumption)
        show 0 + (IntKind.i64.wrap ((o.irs.getD i default).d.tdiv 64)).toNat * Try.prog.cellsOf 77 + Try.prog.cellsOf 77 ≤ 4
        rw [cW, wdiv64 hd0]; omega
      · rw [cW]; decide
      · have hd0 := H.d hil' (by assumption)
        show 0 ≤ (o.irs.getD i default).d.tmod 64
        exact Int.tmod_nonneg _ hd0.1
      · have hd0 := H.d hil' (by assumption)
        show 0 ≤ IntKind.i64.wrap ((o.irs.getD i default).d.tdiv 64)
        rw [wdiv64 hd0]; omega
      · have hd0 := H.d hil' (by assumption)
        show IntKind.i64.wrap ((o.irs.getD i default).d.tdiv 64) < 4
        rw [wdiv64 hd0]; omega
      · rw [cW]; decide
      · have hd0 := H.d hil' (by assumption)
        show 0 + (IntKind.i64.wrap ((o.irs.getD i default).d.tdiv 64)).toNat * Try.prog.cellsOf 77 + 1 ≤ 4
        rw [cW, wdiv64 hd0]; omega
      · have hkg : k = g.length := by omega
        have hsb : setsB (o.irs.getD i default).op = true := by assumption
        refine CallS.on1e (r := (2, 6)) (v := v6) (node' := .obox 4 (setC (clrW (joinL W' g) (o.irs.getD i default).d.toNat))) (n := 3) rfl ?_ ?_ (Above.chk rfl (hS.mono (by decide))) (fun S' hS' => setJoin26_spec (clrW (joinL W' g) (o.irs.getD i default).d.toNat) (useW o (0 + (i : Int).toNat)) (clrW_lt (joinL_lt hI.lt _) _) (useW_lt o _) v6 _ S' hS') ?_
        · exact congrArg (PV.obox 4) (funext fun b => clr_node (H.d hil' (by assumption)) (joinL_lt hI.lt (g.take k)) (by rw [hkg, List.take_length]) b)
        · refine LeL.cons (.refl _) (LeL.cons ?_ LeL.nil)
          show NEq (.agg (List.map _ (List.range (Try.prog.cellsOf 79)))) _
          rw [show Try.prog.cellsOf 79 = 4 by kernel_rfl]
          exact .refl _
        rintro x L' nv' ⟨rfl, rfl⟩
        have ei : 0 + (i : Int).toNat = i := by omega
        have es : stepW o W' i = joinW (clrW (joinL W' g) (o.irs.getD i default).d.toNat) (useW o i) 4 := (by unfold stepW; rw [if_pos hsb, ← hg])
        rw [ei]
        rw [← es]
        repeat' (first | refine vcI ?_ | refine And.intro ?_ ?_ | (intro hq; (try simp at hq); (try (exfalso; omega)); (try (revert hq; intro))))
        · rfl
        · have hne : ∃ q, q < 4 ∧ stepW o W' i q ≠ W' i q := ne4 (by assumption)
          refine Exists.intro (owW o.irs.length (updW W' i (stepW o W' i))) (And.intro ?_ (And.intro rfl ?_))
          · rw [show Try.prog.cellsOf 79 = 4 by kernel_rfl]
            refine NEq.owns rfl rfl fun a b ha hb => row_at (us := stepW o W' i) hb ?_
            rfl
          repeat' (first | refine vcI ?_ | refine And.intro ?_ ?_ | (intro hq; (try simp at hq); (try (exfalso; omega)); (try (revert hq; intro))))
          have hlt := unset_upd hI hil' hne
          refine Exists.intro (i, updW W' i (stepW o W' i), true) ⟨⟨by dsimp only; omega, hI.upd H hil', fun _ => ?_, by simp⟩, (by first | omega | (dsimp only; omega)), ⟨by ((repeat' apply And.intro) <;> (first | exact True.intro | exact NEq.refl _ | (refine NEq.int ?_; first | exact rfl | omega | (rw [wrapI (by omega)]; first | exact rfl | omega)))), ⟨⟨rfl, .refl _⟩, ⟨rfl, .refl _⟩, ⟨rfl, .refl _⟩, trivial⟩, .chk hS rfl⟩⟩
          cases hbb : b
          · rw [(hb0 hbb).1] at hlt ⊢; exact hlt
          · exact Nat.lt_trans hlt (hb1 hbb)
        · have heq : ∀ q, q < 4 → stepW o W' i q = W' i q := eq4 (by assumption)
          refine Exists.intro (i, W', b) ⟨⟨by dsimp only; omega, hI, hb1, fun hbb => ⟨(hb0 hbb).1, fun m h1 h2 => ?_⟩⟩, (by first | omega | (dsimp only; omega)), ⟨by ((repeat' apply And.intro) <;> (first | exact True.intro | exact NEq.refl _ | (refine NEq.int ?_; first | exact rfl | omega | (rw [wrapI (by omega)]; first | exact rfl | omega)))), ⟨⟨rfl, .refl _⟩, ⟨rfl, .refl _⟩, ⟨rfl, .refl _⟩, trivial⟩, .chk hS rfl⟩⟩
          by_cases e : m = i
          · subst e; rw [← (hb0 hbb).1]; exact heq
          · exact (hb0 hbb).2 m (by omega) h2
      · have hkg : k = g.length := by omega
        have hsf : setsB (o.irs.getD i default).op = false := by assumption
        have hsb : ¬ setsB (o.irs.getD i default).op = true := by rw [hsf]; simp
        repeat' (first | refine vcI ?_ | refine And.intro ?_ ?_ | (intro hq; (try simp at hq); (try (exfalso; omega)); (try (revert hq; intro))))
        refine CallS.on1e (r := (2, 6)) (v := v6) (node' := .obox 4 (setC (joinL W' g))) (n := 3) rfl ?_ ?_ (Above.chk rfl (hS.mono (by decide))) (fun S' hS' => setJoin26_spec (joinL W' g) (useW o (0 + (i : Int).toNat)) (joinL_lt hI.lt _) (useW_lt o _) v6 _ S' hS') ?_
        · rw [hkg, List.take_length]
        · refine LeL.cons (.refl _) (LeL.cons ?_ LeL.nil)
          show NEq (.agg (List.map _ (List.range (Try.prog.cellsOf 79)))) _
          rw [show Try.prog.cellsOf 79 = 4 by kernel_rfl]
          exact .refl _
        rintro x L' nv' ⟨rfl, rfl⟩
        have ei : 0 + (i : Int).toNat = i := by omega
        have es : stepW o W' i = joinW (joinL W' g) (useW o i) 4 := (by unfold stepW; rw [if_neg hsb, ← hg])
        rw [ei]
        rw [← es]
        repeat' (first | refine vcI ?_ | refine And.intro ?_ ?_ | (intro hq; (try simp at hq); (try (exfalso; omega)); (try (revert hq; intro))))
        · rfl
        · have hne : ∃ q, q < 4 ∧ stepW o W' i q ≠ W' i q := ne4 (by assumption)
          refine Exists.intro (owW o.irs.length (updW W' i (stepW o W' i))) (And.intro ?_ (And.intro rfl ?_))
          · rw [show Try.prog.cellsOf 79 = 4 by kernel_rfl]
            refine NEq.owns rfl rfl fun a b ha hb => row_at (us := stepW o W' i) hb ?_
            rfl
          repeat' (first | refine vcI ?_ | refine And.intro ?_ ?_ | (intro hq; (try simp at hq); (try (exfalso; omega)); (try (revert hq; intro))))
          have hlt := unset_upd hI hil' hne
          refine Exists.intro (i, updW W' i (stepW o W' i), true) ⟨⟨by dsimp only; omega, hI.upd H hil', fun _ => ?_, by simp⟩, (by first | omega | (dsimp only; omega)), ⟨by ((repeat' apply And.intro) <;> (first | exact True.intro | exact NEq.refl _ | (refine NEq.int ?_; first | exact rfl | omega | (rw [wrapI (by omega)]; first | exact rfl | omega)))), ⟨⟨rfl, .refl _⟩, ⟨rfl, .refl _⟩, ⟨rfl, .refl _⟩, trivial⟩, .chk hS rfl⟩⟩
          cases hbb : b
          · rw [(hb0 hbb).1] at hlt ⊢; exact hlt
          · exact Nat.lt_trans hlt (hb1 hbb)
        · have heq : ∀ q, q < 4 → stepW o W' i q = W' i q := eq4 (by assumption)
          refine Exists.intro (i, W', b) ⟨⟨by dsimp only; omega, hI, hb1, fun hbb => ⟨(hb0 hbb).1, fun m h1 h2 => ?_⟩⟩, (by first | omega | (dsimp only; omega)), ⟨by ((repeat' apply And.intro) <;> (first | exact True.intro | exact NEq.refl _ | (refine NEq.int ?_; first | exact rfl | omega | (rw [wrapI (by omega)]; first | exact rfl | omega)))), ⟨⟨rfl, .refl _⟩, ⟨rfl, .refl _⟩, ⟨rfl, .refl _⟩, trivial⟩, .chk hS rfl⟩⟩
          by_cases e : m = i
          · subst e; rw [← (hb0 hbb).1]; exact heq
          · exact (hb0 hbb).2 m (by omega) h2
  case pass =>
    rintro ⟨W, v⟩ nv hW
    have hw : IntKind.i64.wrap ((o.irs.length : Int) - 1) = (o.irs.length : Int) - 1 := by rw [IntKind.wrap_i64]; omega
    repeat' (first | refine vcI ?_ | refine And.intro ?_ ?_ | (intro hq; (try simp at hq); (try (exfalso; omega)); (try (revert hq; intro))))
    refine loopS3 mx (by decide) (by kernel_rfl) (fun (j : Nat) (W' : Nat → Nat → Nat) (b : Bool) => j ≤ o.irs.length ∧ InvW o W' ∧ (b = true → unset o.irs.length W' < unset o.irs.length W) ∧ (b = false → W' = W ∧ ∀ m, j ≤ m → m < o.irs.length → ∀ q, q < 4 → stepW o W m q = W m q)) (fun j W' b => [(5, .int .i64 ((j : Int) - 1)), (4, .bool b), (2, .ref (2, 16) v [] 4 0 o.irs.length), (0, .ptr (1, 45) vc [] 0 0)]) (fun j W' b => mem1 o vc vl v W' (useW o)) (fun j W' b => j) o.irs.length W false ⟨Nat.le_refl _, hW, (by simp), fun _ => ⟨rfl, fun m h1 h2 => by omega⟩⟩ ⟨by ((repeat' apply And.intro) <;> (first | exact True.intro | exact NEq.refl _ | (refine NEq.int ?_; first | exact rfl | omega | (rw [wrapI (by omega)]; first | exact rfl | omega)))), ⟨⟨rfl, .refl _⟩, ⟨rfl, .refl _⟩, ⟨rfl, .refl _⟩, trivial⟩, .chk hS rfl⟩ ?_
    intro j W' b nv ⟨hj, hI, hb1, hb0⟩
    rcases j with _ | i
    · repeat' (first | refine vcI ?_ | refine And.intro ?_ ?_ | (intro hq; (try simp at hq); (try (exfalso; omega)); (try (revert hq; intro))))
      · exact Exists.intro (W', v) ⟨⟨hI, hb1 (by assumption)⟩, ⟨by ((repeat' apply And.intro) <;> (first | exact True.intro | exact NEq.refl _ | (refine NEq.int ?_; first | exact rfl | omega | (rw [wrapI (by omega)]; first | exact rfl | omega)))), ⟨⟨rfl, .refl _⟩, ⟨rfl, .refl _⟩, ⟨rfl, .refl _⟩, trivial⟩, .chk hS rfl⟩⟩
      · obtain ⟨rfl, hst⟩ := hb0 ‹_›
        refine Exists.intro (PV.tup []) (Exists.intro _ (And.intro ⟨rfl, rfl⟩ (And.intro (.refl _) (And.intro ⟨⟨rfl, .refl _⟩, ⟨rfl, ?_⟩, trivial⟩ (.chk hS rfl)))))
        refine NEq.owns rfl rfl fun i q hi hq => NEq.of_eq ?_
        rw [InvW.done H hI (fun i hi q hq => hst i (Nat.zero_le _) hi q hq) hi hq]
    have hil' : i < o.irs.length := by omega
    have e5 : ((i + 1 : Nat) : Int) - 1 = (i : Int) := by omega
    rw [e5]
    have hw2 : IntKind.i64.wrap ((i : Int) - 1) = (i : Int) - 1 := by rw [IntKind.wrap_i64]; omega
    repeat' (first | refine vcI ?_ | refine And.intro ?_ ?_ | (intro hq; (try simp at hq); (try (exfalso; omega)); (try (revert hq; intro))))
    refine CallS.nexts o (frW o.irs.length W') i hil' hil (H.op hil') (LeL.cons (view_code (1, 45) (1, 43) rfl rfl 4) (LeL.cons (.refl _) LeL.nil)) ?_
    repeat' (first | refine vcI ?_ | refine And.intro ?_ ?_ | (intro hq; (try simp at hq); (try (exfalso; omega)); (try (revert hq; intro))))
    obtain ⟨g, hg⟩ : ∃ g, g = goesL (o.irs.getD i default) i := ⟨_, rfl⟩
    obtain ⟨pd, hpd⟩ : ∃ pd, pd = padL (o.irs.getD i default) i := ⟨_, rfl⟩
    have hgl : g.length ≤ 2 := by rw [hg]; unfold goesL; split <;> (try split) <;> (try split) <;> (try split) <;> (try split) <;> simp
    have hgk : ∀ k, k < g.length → 0 ≤ (g ++ pd).getD k 0 ∧ (g ++ pd).getD k 0 < (o.irs.length : Int) := fun k hk => by
      rw [getD_app0 _ _ hk]
      have hm : g.getD k 0 ∈ goesL (o.irs.getD i default) i := by rw [← hg, List.getD_eq_getElem?_getD]; exact getD_mem _ hk
      exact H.go i hil' _ hm
    rw [← hg, ← hpd]
    refine loopS3 mx (by decide) (by kernel_rfl) (fun (k v6 v46 : Nat) => k ≤ g.length) (fun k v6 v46 => [(48, .int .i64 k), (47, .int .i64 g.length), (46, .ref (2, 46) v46 [] 1 0 g.length), (6, .ptr (2, 6) v6 [] 0 0), (5, .int .i64 i), (4, .bool b), (2, .ref (2, 16) v [] 4 0 o.irs.length), (0, .ptr (1, 45) vc [] 0 0)]) (fun k v6 v46 => ((2, 6), ⟨v6, .obox 4 (setC (joinL W' (g.take k)))⟩) :: ((2, 46), ⟨v46, oints (g ++ pd)⟩) :: mem1 o vc vl v W' (useW o)) (fun k v6 v46 => g.length - k) 0 _ _ (by simp) ⟨by ((repeat' apply And.intro) <;> (first | exact True.intro | exact NEq.refl _ | (refine NEq.int ?_; first | exact rfl | omega | (rw [wrapI (by omega)]; first | exact rfl | omega)))), ?_, .chk hS rfl⟩ ?_
    · refine ⟨⟨rfl, .obox fun q hq => ?_⟩, ⟨rfl, .refl _⟩, ⟨rfl, .refl _⟩, ⟨rfl, .refl _⟩, ⟨rfl, .refl _⟩, trivial⟩
      rcases (by have : q < 4 := hq; omega : q = 0 ∨ q = 1 ∨ q = 2 ∨ q = 3) with rfl | rfl | rfl | rfl <;> exact .refl _
    intro k v6 v46 nv hk
    repeat' (first | refine vcI ?_ | refine And.intro ?_ ?_ | (intro hq; (try simp at hq); (try (exfalso; omega)); (try (revert hq; intro))))
    · have h1 := hgk k (by assumption)
      rw [Int.toNat_natCast, Nat.zero_add]; omega
    · have h1 := hgk k (by assumption)
      rw [Int.toNat_natCast, Nat.zero_add]; omega
    · rename_i hlt
      refine CallS.onA (L0 := [((2, 6), ⟨v6, .obox 4 (setC (joinL W' (g.take k)))⟩)]) (M := ((2, 46), ⟨v46, oints (g ++ pd)⟩) :: mem1 o vc vl v W' (useW o)) ((setJoin26_spec (joinL W' (g.take k)) (W' (0 + ((g ++ pd).getD (0 + (k : Int).toNat) 0).toNat)) (joinL_lt hI.lt _) (hI.lt _) v6 _ _ (Above.chk rfl (hS.mono (by decide)))).less ?_) (fun r => ?_) ?_
      · refine LeL.cons (.refl _) (LeL.cons ?_ LeL.nil)
        show NEq (.agg (List.map _ (List.range (Try.prog.cellsOf 79)))) _
        rw [show Try.prog.cellsOf 79 = 4 by kernel_rfl]
        exact .refl _
      · rfl
      rintro x L' nv' ⟨rfl, rfl⟩
      have hw : IntKind.i64.wrap ((k : Int) + 1) = ((k + 1 : Nat) : Int) := wrapI (by omega)
      repeat' (first | refine vcI ?_ | refine And.intro ?_ ?_ | (intro hq; (try simp at hq); (try (exfalso; omega)); (try (revert hq; intro))))
      refine Exists.intro (k + 1, v6, v46) ⟨by dsimp only; omega, (by first | omega | (dsimp only; omega)), ⟨by ((repeat' apply And.intro) <;> (first | exact True.intro | exact NEq.refl _ | (refine NEq.int ?_; first | exact rfl | omega | (rw [wrapI (by omega)]; first | exact rfl | omega)))), ⟨⟨rfl, ?_⟩, ⟨rfl, .refl _⟩, ⟨rfl, .refl _⟩, ⟨rfl, .refl _⟩, ⟨rfl, .refl _⟩, trivial⟩, .chk hS rfl⟩⟩
      show NEq _ (.obox 4 (setC (joinL W' (g.take (k + 1)))))
      rw [take_succD 0 hlt, joinL_snoc, Int.toNat_natCast, Nat.zero_add, Nat.zero_add, getD_app0 _ _ hlt]
      exact .refl _
    · show 0 ≤ (o.irs.getD i default).op; have := H.op hil'; omega
    · show (o.irs.getD i default).op < _; have := H.op hil'; omega
    · rw [cRow]; decide
    · rw [cRow]; show 0 + 12 + (o.irs.getD i default).op.toNat * 4 + 1 ≤ 81; have := H.op hil'; omega
    · show 0 + 12 + (o.irs.getD i default).op.toNat * Try.prog.cellsOf 82 + 1 + Try.prog.cellsOf 4 ≤ 81
      rw [cRow, show Try.prog.cellsOf 4 = 1 by kernel_rfl]; have := H.op hil'; omega
    · rw [show Try.prog.cellsOf 4 = 1 by kernel_rfl]; decide
    rw [mk_sets o _ _ (H.op hil') (by rw [cRow]; show 0 + 12 + (o.irs.getD i default).op.toNat * 4 + 1 = _; omega)]
    repeat' (first | refine vcI ?_ | refine And.intro ?_ ?_ | (intro hq; (try simp at hq); (try (exfalso; omega)); (try (revert hq; intro))))
    · have hd0 := H.d hil' (by assumption)
      show 0 ≤ IntKind.i64.wrap ((o.irs.getD i default).d.tdiv 64)
      rw [wdiv64 hd0]; omega
    · have hd0 := H.d hil' (by assumption)
      show IntKind.i64.wrap ((o.irs.getD i default).d.tdiv 64) < 4
      rw [wdiv64 hd0]; omega
    · rw [cW]; decide
    · have hd0 := H.d hil' (by assumption)
      show 0 + (IntKind.i64.wrap ((o.irs.getD i default).d.tdiv 64)).toNat * Try.prog.cellsOf 77 + Try.prog.cellsOf 77 ≤ 4
      rw [cW, wdiv64 hd0]; omega
    · rw [cW]; decide
    · have hd0 := H.d hil' (by assumption)
      show 0 ≤ (o.irs.getD i default).d.tmod 64
      exact Int.tmod_nonneg _ hd0.1
    · have hd0 := H.d hil' (by assumption)
      show 0 ≤ IntKind.i64.wrap ((o.irs.getD i default).d.tdiv 64)
      rw [wdiv64 hd0]; omega
    · have hd0 := H.d hil' (by assumption)
      show IntKind.i64.wrap ((o.irs.getD i default).d.tdiv 64) < 4
      rw [wdiv64 hd0]; omega
    · rw [cW]; decide
    · have hd0 := H.d hil' (by assumption)
      show 0 + (IntKind.i64.wrap ((o.irs.getD i default).d.tdiv 64)).toNat * Try.prog.cellsOf 77 + 1 ≤ 4
      rw [cW, wdiv64 hd0]; omega
    · have hkg : k = g.length := by omega
      have hsb : setsB (o.irs.getD i default).op = true := by assumption
      refine CallS.on1e (r := (2, 6)) (v := v6) (node' := .obox 4 (setC (clrW (joinL W' g) (o.irs.getD i default).d.toNat))) (n := 3) rfl ?_ ?_ (Above.chk rfl (hS.mono (by decide))) (fun S' hS' => setJoin26_spec (clrW (joinL W' g) (o.irs.getD i default).d.toNat) (useW o (0 + (i : Int).toNat)) (clrW_lt (joinL_lt hI.lt _) _) (useW_lt o _) v6 _ S' hS') ?_
      · exact congrArg (PV.obox 4) (funext fun b => clr_node (H.d hil' (by assumption)) (joinL_lt hI.lt (g.take k)) (by rw [hkg, List.take_length]) b)
      · refine LeL.cons (.refl _) (LeL.cons ?_ LeL.nil)
        show NEq (.agg (List.map _ (List.range (Try.prog.cellsOf 79)))) _
        rw [show Try.prog.cellsOf 79 = 4 by kernel_rfl]
        exact .refl _
      rintro x L' nv' ⟨rfl, rfl⟩
      have ei : 0 + (i : Int).toNat = i := by omega
      have es : stepW o W' i = joinW (clrW (joinL W' g) (o.irs.getD i default).d.toNat) (useW o i) 4 := (by unfold stepW; rw [if_pos hsb, ← hg])
      rw [ei]
      rw [← es]
      repeat' (first | refine vcI ?_ | refine And.intro ?_ ?_ | (intro hq; (try simp at hq); (try (exfalso; omega)); (try (revert hq; intro))))
      · rfl
      · have hne : ∃ q, q < 4 ∧ stepW o W' i q ≠ W' i q := ne4 (by assumption)
        refine Exists.intro (owW o.irs.length (updW W' i (stepW o W' i))) (And.intro ?_ (And.intro rfl ?_))
        · rw [show Try.prog.cellsOf 79 = 4 by kernel_rfl]
          refine NEq.owns rfl rfl fun a b ha hb => row_at (us := stepW o W' i) hb ?_
          rfl
        repeat' (first | refine vcI ?_ | refine And.intro ?_ ?_ | (intro hq; (try simp at hq); (try (exfalso; omega)); (try (revert hq; intro))))
        have hlt := unset_upd hI hil' hne
        refine Exists.intro (i, updW W' i (stepW o W' i), true) ⟨⟨by dsimp only; omega, hI.upd H hil', fun _ => ?_, by simp⟩, (by first | omega | (dsimp only; omega)), ⟨by ((repeat' apply And.intro) <;> (first | exact True.intro | exact NEq.refl _ | (refine NEq.int ?_; first | exact rfl | omega | (rw [wrapI (by omega)]; first | exact rfl | omega)))), ⟨⟨rfl, .refl _⟩, ⟨rfl, .refl _⟩, ⟨rfl, .refl _⟩, trivial⟩, .chk hS rfl⟩⟩
        cases hbb : b
        · rw [(hb0 hbb).1] at hlt ⊢; exact hlt
        · exact Nat.lt_trans hlt (hb1 hbb)
      · have heq : ∀ q, q < 4 → stepW o W' i q = W' i q := eq4 (by assumption)
        refine Exists.intro (i, W', b) ⟨⟨by dsimp only; omega, hI, hb1, fun hbb => ⟨(hb0 hbb).1, fun m h1 h2 => ?_⟩⟩, (by first | omega | (dsimp only; omega)), ⟨by ((repeat' apply And.intro) <;> (first | exact True.intro | exact NEq.refl _ | (refine NEq.int ?_; first | exact rfl | omega | (rw [wrapI (by omega)]; first | exact rfl | omega)))), ⟨⟨rfl, .refl _⟩, ⟨rfl, .refl _⟩, ⟨rfl, .refl _⟩, trivial⟩, .chk hS rfl⟩⟩
        by_cases e : m = i
        · subst e; rw [← (hb0 hbb).1]; exact heq
        · exact (hb0 hbb).2 m (by omega) h2
    · have hkg : k = g.length := by omega
      have hsf : setsB (o.irs.getD i default).op = false := by assumption
      have hsb : ¬ setsB (o.irs.getD i default).op = true := by rw [hsf]; simp
      repeat' (first | refine vcI ?_ | refine And.intro ?_ ?_ | (intro hq; (try simp at hq); (try (exfalso; omega)); (try (revert hq; intro))))
      refine CallS.on1e (r := (2, 6)) (v := v6) (node' := .obox 4 (setC (joinL W' g))) (n := 3) rfl ?_ ?_ (Above.chk rfl (hS.mono (by decide))) (fun S' hS' => setJoin26_spec (joinL W' g) (useW o (0 + (i : Int).toNat)) (joinL_lt hI.lt _) (useW_lt o _) v6 _ S' hS') ?_
      · rw [hkg, List.take_length]
      · refine LeL.cons (.refl _) (LeL.cons ?_ LeL.nil)
        show NEq (.agg (List.map _ (List.range (Try.prog.cellsOf 79)))) _
        rw [show Try.prog.cellsOf 79 = 4 by kernel_rfl]
        exact .refl _
      rintro x L' nv' ⟨rfl, rfl⟩
      have ei : 0 + (i : Int).toNat = i := by omega
      have es : stepW o W' i = joinW (joinL W' g) (useW o i) 4 := (by unfold stepW; rw [if_neg hsb, ← hg])
      rw [ei]
      rw [← es]
      repeat' (first | refine vcI ?_ | refine And.intro ?_ ?_ | (intro hq; (try simp at hq); (try (exfalso; omega)); (try (revert hq; intro))))
      · rfl
      · have hne : ∃ q, q < 4 ∧ stepW o W' i q ≠ W' i q := ne4 (by assumption)
        refine Exists.intro (owW o.irs.length (updW W' i (stepW o W' i))) (And.intro ?_ (And.intro rfl ?_))
        · rw [show Try.prog.cellsOf 79 = 4 by kernel_rfl]
          refine NEq.owns rfl rfl fun a b ha hb => row_at (us := stepW o W' i) hb ?_
          rfl
        repeat' (first | refine vcI ?_ | refine And.intro ?_ ?_ | (intro hq; (try simp at hq); (try (exfalso; omega)); (try (revert hq; intro))))
        have hlt := unset_upd hI hil' hne
        refine Exists.intro (i, updW W' i (stepW o W' i), true) ⟨⟨by dsimp only; omega, hI.upd H hil', fun _ => ?_, by simp⟩, (by first | omega | (dsimp only; omega)), ⟨by ((repeat' apply And.intro) <;> (first | exact True.intro | exact NEq.refl _ | (refine NEq.int ?_; first | exact rfl | omega | (rw [wrapI (by omega)]; first | exact rfl | omega)))), ⟨⟨rfl, .refl _⟩, ⟨rfl, .refl _⟩, ⟨rfl, .refl _⟩, trivial⟩, .chk hS rfl⟩⟩
        cases hbb : b
        · rw [(hb0 hbb).1] at hlt ⊢; exact hlt
        · exact Nat.lt_trans hlt (hb1 hbb)
      · have heq : ∀ q, q < 4 → stepW o W' i q = W' i q := eq4 (by assumption)
        refine Exists.intro (i, W', b) ⟨⟨by dsimp only; omega, hI, hb1, fun hbb => ⟨(hb0 hbb).1, fun m h1 h2 => ?_⟩⟩, (by first | omega | (dsimp only; omega)), ⟨by ((repeat' apply And.intro) <;> (first | exact True.intro | exact NEq.refl _ | (refine NEq.int ?_; first | exact rfl | omega | (rw [wrapI (by omega)]; first | exact rfl | omega)))), ⟨⟨rfl, .refl _⟩, ⟨rfl, .refl _⟩, ⟨rfl, .refl _⟩, trivial⟩, .chk hS rfl⟩⟩
        by_cases e : m = i
        · subst e; rw [← (hb0 hbb).1]; exact heq
        · exact (hb0 hbb).2 m (by omega) h2
end Go.Ab
namespace Go.Ab
open Go.Proofs
set_option maxRecDepth 100000
set_option maxHeartbeats 4000000

/-- What shaped code is. -/
structure OpenP (o : DO) : Prop where
  ne : 0 < o.irs.length
  le : o.irs.length ≤ 600
  hd : o.descs.length = o.irs.length
  ht : o.types.length = o.irs.length
  r1 : 1 ≤ o.regs
  r2 : o.regs ≤ 250
  ty : ∀ i, i < o.irs.length → (((o.types.getD i []).length : Nat) : Int) = o.regs
  sh : ∀ i, i < o.irs.length → shapedX o (o.irs.getD i default) (o.descs.getD i []) = true
  la : fallsB (o.irs.getD (o.irs.length - 1) default).op = false

theorem OpenP.fl {o : DO} (H : OpenP o) (hf : fewN o ≤ 6000) (hs : ∀ l ∈ o.descs, l.length ≤ 1048576 ∧ ∀ f ∈ l, f.small) : FlH o := by
  refine ⟨hf, H.r2, H.hd, hs, H.sh, H.ne, fun i hi k hk => ?_⟩
  have hsh := H.sh i hi
  simp only [shapedX, Bool.and_eq_true, decide_eq_true_eq, Bool.not_eq_true'] at hsh
  obtain ⟨s1, s2, s3, s4, s5, s6, s7⟩ := hsh
  have hn : goesB (o.irs.getD i default).op = true → 0 ≤ (o.irs.getD i default).n ∧ (o.irs.getD i default).n < (o.irs.length : Int) := fun hg => by
    unfold swB at s4
    rw [hg] at s4
    cases hb : insB o.irs.length (o.irs.getD i default).n
    · rw [hb] at s4; simp at s4
    · simpa [insB] using hb
  have hf1 : fallsB (o.irs.getD i default).op = true → (i : Int) + 1 < (o.irs.length : Int) := fun h1 => by
    have : i ≠ o.irs.length - 1 := fun e => by rw [e, H.la] at h1; cases h1
    have := H.ne
    omega
  unfold goesL at hk
  unfold goesB at hn
  unfold fallsB at hf1
  generalize (o.irs.getD i default).op = op at *
  split at hk
  · rename_i e; subst e
    simp only [List.mem_singleton] at hk
    subst hk
    exact hn rfl
  · split at hk
    · simp at hk
    · rename_i e1 e2
      have hf2 := hf1 (by simp; omega)
      split at hk
      · rename_i e3
        have hn2 := hn (by rcases e3 with rfl | rfl <;> rfl)
        split at hk
        · simp only [List.mem_singleton] at hk; subst hk; omega
        · split at hk
          · simp only [List.mem_cons, List.not_mem_nil, or_false] at hk
            rcases hk with rfl | rfl <;> omega
          · simp only [List.mem_cons, List.not_mem_nil, or_false] at hk
            rcases hk with rfl | rfl <;> omega
      · simp only [List.mem_singleton] at hk; subst hk; omega

open Classical in
noncomputable def openR (o : DO) : PV := if OpenP o then .tup [codeP o (frW o.irs.length fun i => wordsP (LiveP o i)), .int .i64 0] else .tup [.nilp, .int .i64 210]
theorem openR_ok {o : DO} (H : OpenP o) : openR o = .tup [codeP o (frW o.irs.length fun i => wordsP (LiveP o i)), .int .i64 0] := if_pos H
theorem openR_bad {o : DO} (H : ¬ OpenP o) : openR o = .tup [.nilp, .int .i64 210] := if_neg H

theorem mk_falls {vc : Nat} (o : DO) (lv : PV) (op : Int) {off : Nat} (h : 1 ≤ op ∧ op ≤ 16) (hoff : off = 12 + op.toNat * 4 + 2) : mkV Try.prog 4 (fun j => cellV (1, 45) vc [] 0 j (codeC o lv j)) off = .bool (fallsB op) := by
  subst hoff
  have key : ∀ n : Nat, 1 ≤ n ∧ n ≤ 16 → mkV Try.prog 4 (fun j => cellV (1, 45) vc [] 0 j (codeC o lv j)) (12 + n * 4 + 2) = .bool (fallsB (n : Int)) := by
    intro n hn
    rcases (by omega : n = 1 ∨ n = 2 ∨ n = 3 ∨ n = 4 ∨ n = 5 ∨ n = 6 ∨ n = 7 ∨ n = 8 ∨ n = 9 ∨ n = 10 ∨ n = 11 ∨ n = 12 ∨ n = 13 ∨ n = 14 ∨ n = 15 ∨ n = 16) with rfl | rfl | rfl | rfl | rfl | rfl | rfl | rfl | rfl | rfl | rfl | rfl | rfl | rfl | rfl | rfl <;> rfl
  have h2 := key op.toNat (by omega)
  rw [Int.toNat_of_nonneg (by omega)] at h2
  exact h2
def mem46 (o : DO) (vc vl : Nat) : Hp := [((1, 45), ⟨vc, .obox 81 (codeC o (.ref (1, 43) vl [] 4 0 o.irs.length))⟩), ((1, 43), ⟨vl, owW o.irs.length fun _ _ => 0⟩), ((1, 1), ⟨0, .obox 12 (rowL (dol o))⟩)]
theorem open_spec (o : DO) (hf : fewN o ≤ 6000) (hs : ∀ l ∈ o.descs, l.length ≤ 1048576 ∧ ∀ f ∈ l, f.small) : CallsF Try.prog 38 [.agg (dol o)] (openR o) := by
  have hil : o.irs.length ≤ 6000 := by unfold fewN at hf; omega
  have hdl : o.descs.length ≤ 6000 := by unfold fewN at hf; omega
  have htl : o.types.length ≤ 6000 := by unfold fewN at hf; omega
  refine callsF_ofS mx Try.call38 Try.func38 rfl Try.ntmps38 Try.results38 (by kernel_rfl) (by simp) fun lo => ?_
  repeat' (first | refine vcI ?_ | refine And.intro ?_ ?_ | (intro hq; (try simp at hq); (try (exfalso; omega)); (try (revert hq; intro))))
  · simp; omega
  · simp; omega
  · rw [openR_bad fun H => by have h1 := H.ne; have h2 := H.le; have h3 := H.hd; have h4 := H.ht; have h5 := H.r1; have h6 := H.r2; omega]; exact .refl _
  · refine QS.frozen (.agg rowsL) table_spec (plainAll rfl) ?_
    repeat' (first | refine vcI ?_ | refine And.intro ?_ ?_ | (intro hq; (try simp at hq); (try (exfalso; omega)); (try (revert hq; intro))))
    · rw [show Try.prog.bytesOf 79 = 32 by kernel_rfl]; omega
    · rfl
    · kernel_rfl
    rw [show Try.prog.cellsOf 39 = 12 by kernel_rfl]
    repeat' (first | refine vcI ?_ | refine And.intro ?_ ?_ | (intro hq; (try simp at hq); (try (exfalso; omega)); (try (revert hq; intro))))
    have hcon : 0 < o.irs.length ∧ o.irs.length ≤ 600 ∧ o.descs.length = o.irs.length ∧ o.types.length = o.irs.length ∧ 1 ≤ o.regs ∧ o.regs ≤ 250 := by omega
    obtain ⟨c1, c2, c3, c4, c5, c6⟩ := hcon
    refine loopS3 mx (by decide) (by kernel_rfl) (fun (k vc vl : Nat) => k ≤ o.irs.length ∧ ∀ i, i < k → (((o.types.getD i []).length : Nat) : Int) = o.regs ∧ shapedX o (o.irs.getD i default) (o.descs.getD i []) = true) (fun k vc vl => [(47, .int .i64 k), (46, .int .i64 o.irs.length), (5, .ptr (1, 45) vc [] 0 0), (4, .int .i64 o.irs.length), (1, .ptr (1, 1) 0 [] 0 0)]) (fun k vc vl => mem46 o vc vl) (fun k vc vl => o.irs.length - k) 0 _ _ ⟨by simp, fun i hi => by omega⟩ ⟨by ((repeat' apply And.intro) <;> (first | exact True.intro | exact NEq.refl _ | (refine NEq.int ?_; first | exact rfl | omega | (rw [wrapI (by omega)]; first | exact rfl | omega)))), ⟨⟨rfl, .obox ?_⟩, ⟨rfl, NEq.owns rfl (by simp) ?_⟩, ⟨rfl, .refl _⟩, trivial⟩, .nil⟩ ?_
    · intro q hq
      exact NEq.of_eq (congrArg (fun l => rowL l q) (by rfl : _ = codeL o (.ref (1, 43) _ [] 4 0 o.irs.length)))
    · intro i q hi hq
      rcases (by have : q < 4 := hq; omega : q = 0 ∨ q = 1 ∨ q = 2 ∨ q = 3) with rfl | rfl | rfl | rfl <;> exact .refl _
    rintro k vc vl nv ⟨hk, hI⟩
    repeat' (first | refine vcI ?_ | refine And.intro ?_ ?_ | (intro hq; (try simp at hq); (try (exfalso; omega)); (try (revert hq; intro))))
    · rename_i hlt hty
      have hview : NEq (view 9 (mem46 o vc vl ++ []) (.ptr (1, 45) vc [] 0 0)) (codeP o (frW o.irs.length fun _ _ => 0)) := view_code (1, 45) (1, 43) rfl rfl 4
      have hk2 : k < o.irs.length := by omega
      have hty2 : (((o.types.getD (k : Int).toNat []).length : Nat) : Int) = o.regs := by first | exact hty | exact hlt
      have hbt : ((((o.types.getD (k : Int).toNat []).length : Nat) : Int) != o.regs) = false := by rw [hty2]; simp
      rw [hbt]
      have hspec := shaped_spec o (frW o.irs.length fun _ _ => 0) k hk2 (by omega) hf hs
      rcases hsx : shapedX o (o.irs.getD k default) (o.descs.getD k []) with _ | _
      · rw [hsx] at hspec
        refine CallS.plain [codeP o (frW o.irs.length fun _ _ => 0), .int .i64 k] (.bool false) hspec ?_ trivial ?_
        · exact LeL.cons hview (LeL.cons (.refl _) LeL.nil)
        repeat' (first | refine vcI ?_ | refine And.intro ?_ ?_ | (intro hq; (try simp at hq); (try (exfalso; omega)); (try (revert hq; intro))))
        rw [openR_bad fun H => by have h1 := H.sh k hk2; rw [hsx] at h1; cases h1]
        exact .refl _
      · rw [hsx] at hspec
        refine CallS.plain [codeP o (frW o.irs.length fun _ _ => 0), .int .i64 k] (.bool true) hspec ?_ trivial ?_
        · exact LeL.cons hview (LeL.cons (.refl _) LeL.nil)
        have hw : IntKind.i64.wrap ((k : Int) + 1) = ((k + 1 : Nat) : Int) := wrapI (by omega)
        repeat' (first | refine vcI ?_ | refine And.intro ?_ ?_ | (intro hq; (try simp at hq); (try (exfalso; omega)); (try (revert hq; intro))))
        refine Exists.intro (k + 1, vc, vl) ⟨⟨by dsimp only; omega, fun i hi => ?_⟩, (by first | omega | (dsimp only; omega)), ⟨by ((repeat' apply And.intro) <;> (first | exact True.intro | exact NEq.refl _ | (refine NEq.int ?_; first | exact rfl | omega | (rw [wrapI (by omega)]; first | exact rfl | omega)))), ⟨⟨rfl, .refl _⟩, ⟨rfl, .refl _⟩, ⟨rfl, .refl _⟩, trivial⟩, .nil⟩⟩
        by_cases e : i = k
        · subst e; exact ⟨hty2, hsx⟩
        · exact hI i (by omega)
    · rw [openR_bad fun H => absurd (H.ty k (by omega)) (by assumption)]
      exact .refl _
    all_goals
      obtain rfl : k = o.irs.length := by omega
      have hwn : IntKind.i64.wrap ((o.irs.length : Int) - 1) = ((o.irs.length - 1 : Nat) : Int) := by rw [IntKind.wrap_i64]; omega
      obtain ⟨hty, hsx⟩ := hI (o.irs.length - 1) (by omega)
      have hop : 1 ≤ (o.irs.getD (o.irs.length - 1) default).op ∧ (o.irs.getD (o.irs.length - 1) default).op ≤ 16 := by
        simp only [shapedX, Bool.and_eq_true, decide_eq_true_eq, Bool.not_eq_true'] at hsx
        exact ⟨hsx.1, hsx.2.1⟩
      try rw [hwn]
      try rw [Int.toNat_natCast]
      try rw [cRow]
      try rw [show Try.prog.cellsOf 4 = 1 by kernel_rfl]
    · omega
    · omega
    · omega
    · show _ < (17 : Int); omega
    · decide
    · show 0 + 12 + (o.irs.getD (o.irs.length - 1) default).op.toNat * 4 + 2 ≤ 81; omega
    · show 0 + 12 + (o.irs.getD (o.irs.length - 1) default).op.toNat * 4 + 2 + 1 ≤ 81; omega
    · decide
    rw [mk_falls o _ _ hop (by show 0 + 12 + (o.irs.getD (o.irs.length - 1) default).op.toNat * 4 + 2 = _; omega)]
    repeat' (first | refine vcI ?_ | refine And.intro ?_ ?_ | (intro hq; (try simp at hq); (try (exfalso; omega)); (try (revert hq; intro))))
    · rw [openR_bad fun H => by have h1 := H.la; simp_all]
      exact .refl _
    · have HO : OpenP o := ⟨c1, c2, c3, c4, c5, c6, fun i hi => (hI i hi).1, fun i hi => (hI i hi).2, by assumption⟩
      refine CallS.onA (L0 := mem0 o vc vl fun _ _ => 0) (M := [((1, 1), ⟨0, .obox 12 (rowL (dol o))⟩)]) (flow_spec o (HO.fl hf hs) vc vl _ _ (Above.chk rfl Above.nil)) (fun r => rfl) ?_
      rintro x L' nv' ⟨rfl, rfl⟩
      repeat' (first | refine vcI ?_ | refine And.intro ?_ ?_ | (intro hq; (try simp at hq); (try (exfalso; omega)); (try (revert hq; intro))))
      rw [openR_ok HO]
      exact NEq.tup2 (view_code (1, 45) (1, 43) rfl rfl 3) (.refl _)
  · rw [openR_bad fun H => by have h1 := H.ne; have h2 := H.le; have h3 := H.hd; have h4 := H.ht; have h5 := H.r1; have h6 := H.r2; omega]; exact .refl _
  · rw [openR_bad fun H => by have h1 := H.ne; have h2 := H.le; have h3 := H.hd; have h4 := H.ht; have h5 := H.r1; have h6 := H.r2; omega]; exact .refl _
end Go.Ab
namespace Go.Ab
open Go.Proofs
set_option maxRecDepth 100000
set_option maxHeartbeats 4000000

noncomputable def liveL (o : DO) (i : Nat) : List Int := listW (wordsP (LiveP o i)) 250
open Classical in
noncomputable def liveE (o : DO) (i : Int) : List Int × Int := if OpenP o then (if 0 ≤ i ∧ i < (o.irs.length : Int) then (liveL o i.toNat, 0) else ([], 3)) else ([], 210)
open Classical in
noncomputable def nextE (o : DO) (i : Int) : List Int × Int := if OpenP o then (if 0 ≤ i ∧ i < (o.irs.length : Int) then (goesL (o.irs.getD i.toNat default) i.toNat, 0) else ([], 3)) else ([], 210)
def ansE (x : List Int × Int) : PV := .tup [ints x.1, .int .i64 x.2]

theorem ans_nils (e : Int) : NEq (.tup [.nils, .int .i64 e]) (ansE ([], e)) := NEq.tup2 .nils (.refl _)
theorem insB_yes {n : Nat} {i : Int} (h : 0 ≤ i ∧ i < (n : Int)) : insB n i = true := by simp [insB, h]
theorem insB_no {n : Nat} {i : Int} (h : ¬ (0 ≤ i ∧ i < (n : Int))) : insB n i = false := by simp only [insB, h, decide_false]

theorem cOpt : Try.prog.cellsOf 39 = 12 := by kernel_rfl
theorem mk_opt (o : DO) (r : RId) (v : Nat) : mkV Try.prog 39 (fun j => cellV r v [] 0 j (rowL (dol o) j)) 0 = .agg (dol o) := by
  show PV.agg (List.map _ (List.range (Try.prog.cellsOf 39))) = _
  rw [cOpt]; rfl
theorem Live_spec (o : DO) (i : Int) (hf : fewN o ≤ 6000) (hs : ∀ l ∈ o.descs, l.length ≤ 1048576 ∧ ∀ f ∈ l, f.small) : CallsF Try.prog 15 [.agg (dol o), .int .i64 i] (ansE (liveE o i)) := by
  have ho := open_spec o hf hs
  refine callsF_ofS mx Try.call15 Try.func15 rfl Try.ntmps15 Try.results15 (by kernel_rfl) (by simp) fun lo => ?_
  repeat' (first | refine vcI ?_ | refine And.intro ?_ ?_ | (intro hq; (try simp at hq); (try (exfalso; omega)); (try (revert hq; intro))))
  rw [mk_opt]
  by_cases HO : OpenP o
  · rw [openR_ok HO] at ho
    refine CallS.frozen (.tup [codeP o (frW o.irs.length fun i => wordsP (LiveP o i)), .int .i64 0]) ho (plainAll rfl) ?_
    repeat' (first | refine vcI ?_ | refine And.intro ?_ ?_ | (intro hq; (try simp at hq); (try (exfalso; omega)); (try (revert hq; intro))))
    by_cases hi : 0 ≤ i ∧ i < (o.irs.length : Int)
    · refine CallS.frozen (.bool true) (insIr_spec o.irs (insB_yes hi)) (plainAll rfl) ?_
      repeat' (first | refine vcI ?_ | refine And.intro ?_ ?_ | (intro hq; (try simp at hq); (try (exfalso; omega)); (try (revert hq; intro))))
      refine CallS.own (oints (listW (wordsP (LiveP o i.toNat)) 250)) (fun id ver => .ref id ver [] 1 0 (listW (wordsP (LiveP o i.toNat)) 250).length) (setList_spec _ (wordsP_lt _)) (plainAll rfl) ?_
      repeat' (first | refine vcI ?_ | refine And.intro ?_ ?_ | (intro hq; (try simp at hq); (try (exfalso; omega)); (try (revert hq; intro))))
      rw [show liveE o i = (liveL o i.toNat, 0) by unfold liveE; rw [if_pos HO, if_pos hi]]
      exact NEq.tup2 (NEq.frzs rfl (by simp; rfl) fun a b ha hb => by show NEq (.int .i64 ((listW (wordsP (LiveP o i.toNat)) 250).getD (0 + a) 0)) _; rw [Nat.zero_add]; exact .refl _) (.refl _)
    · refine CallS.frozen (.bool false) (insIr_spec o.irs (insB_no hi)) (plainAll rfl) ?_
      repeat' (first | refine vcI ?_ | refine And.intro ?_ ?_ | (intro hq; (try simp at hq); (try (exfalso; omega)); (try (revert hq; intro))))
      rw [show liveE o i = ([], 3) by unfold liveE; rw [if_pos HO, if_neg hi]]
      exact ans_nils 3
  · rw [openR_bad HO] at ho
    refine CallS.frozen (.tup [.nilp, .int .i64 210]) ho (plainAll rfl) ?_
    repeat' (first | refine vcI ?_ | refine And.intro ?_ ?_ | (intro hq; (try simp at hq); (try (exfalso; omega)); (try (revert hq; intro))))
    rw [show liveE o i = ([], 210) by unfold liveE; rw [if_neg HO]]
    exact ans_nils 210
theorem mem_listW {ws : Nat → Nat} {n : Nat} {r : Int} : r ∈ listW ws n ↔ ∃ q : Nat, q < n ∧ bitW ws q = true ∧ r = q := by
  induction n with
  | zero => simp [listW]
  | succ n ih =>
    cases h : bitW ws n
    · rw [listW_no h, ih]
      constructor
      · rintro ⟨q, h1, h2⟩; exact ⟨q, by omega, h2⟩
      · rintro ⟨q, h1, h2, h3⟩
        by_cases e : q = n
        · subst e; rw [h] at h2; cases h2
        · exact ⟨q, by omega, h2, h3⟩
    · rw [listW_yes h, List.mem_append, ih]
      constructor
      · rintro (⟨q, h1, h2⟩ | h1)
        · exact ⟨q, by omega, h2⟩
        · rw [List.mem_singleton] at h1; exact ⟨n, by omega, h, h1⟩
      · rintro ⟨q, h1, h2, h3⟩
        by_cases e : q = n
        · subst e; exact .inr (by rw [h3]; simp)
        · exact .inl ⟨q, by omega, h2, h3⟩
theorem mem_liveL {o : DO} {i : Nat} {r : Nat} (hr : r < 250) : (r : Int) ∈ liveL o i ↔ LiveP o i r := by
  unfold liveL
  rw [mem_listW]
  constructor
  · rintro ⟨q, h1, h2, h3⟩
    have : r = q := by omega
    subst this
    exact (bit_wordsP _ _).1 h2
  · intro h
    exact ⟨r, hr, (bit_wordsP _ _).2 h, rfl⟩
theorem goesL_len (x : DI) (i : Nat) : (goesL x i).length ≤ 2 := by
  unfold goesL; split <;> (try split) <;> (try split) <;> (try split) <;> (try split) <;> simp
theorem Next_spec (o : DO) (i : Int) (hf : fewN o ≤ 6000) (hs : ∀ l ∈ o.descs, l.length ≤ 1048576 ∧ ∀ f ∈ l, f.small) : CallsF Try.prog 21 [.agg (dol o), .int .i64 i] (ansE (nextE o i)) := by
  have ho := open_spec o hf hs
  refine callsF_ofS mx Try.call21 Try.func21 rfl Try.ntmps21 Try.results21 (by kernel_rfl) (by simp) fun lo => ?_
  repeat' (first | refine vcI ?_ | refine And.intro ?_ ?_ | (intro hq; (try simp at hq); (try (exfalso; omega)); (try (revert hq; intro))))
  rw [mk_opt]
  by_cases HO : OpenP o
  · rw [openR_ok HO] at ho
    refine CallS.frozen (.tup [codeP o (frW o.irs.length fun i => wordsP (LiveP o i)), .int .i64 0]) ho (plainAll rfl) ?_
    repeat' (first | refine vcI ?_ | refine And.intro ?_ ?_ | (intro hq; (try simp at hq); (try (exfalso; omega)); (try (revert hq; intro))))
    by_cases hi : 0 ≤ i ∧ i < (o.irs.length : Int)
    · refine CallS.frozen (.bool true) (insIr_spec o.irs (insB_yes hi)) (plainAll rfl) ?_
      repeat' (first | refine vcI ?_ | refine And.intro ?_ ?_ | (intro hq; (try simp at hq); (try (exfalso; omega)); (try (revert hq; intro))))
      obtain ⟨k, rfl⟩ := Int.eq_ofNat_of_zero_le hi.1
      refine CallS.own (oints (goesL (o.irs.getD k default) k ++ padL (o.irs.getD k default) k)) (fun id ver => .ref id ver [] 1 0 (goesL (o.irs.getD k default) k).length) (nexts_spec o _ k (by omega) (by have := HO.le; omega) ((HO.fl hf hs).op (by omega))) (plainAll rfl) ?_
      repeat' (first | refine vcI ?_ | refine And.intro ?_ ?_ | (intro hq; (try simp at hq); (try (exfalso; omega)); (try (revert hq; intro))))
      rw [show nextE o k = (goesL (o.irs.getD k default) k, 0) by unfold nextE; rw [if_pos HO, if_pos hi]; rfl]
      exact NEq.tup2 (NEq.frzs rfl (by simp) fun a b ha hb => by show NEq (.int .i64 ((goesL (o.irs.getD k default) k ++ padL (o.irs.getD k default) k).getD (0 + a) 0)) _; rw [Nat.zero_add, getD_app0 _ _ ha]; exact .refl _) (.refl _)
    · refine CallS.frozen (.bool false) (insIr_spec o.irs (insB_no hi)) (plainAll rfl) ?_
      repeat' (first | refine vcI ?_ | refine And.intro ?_ ?_ | (intro hq; (try simp at hq); (try (exfalso; omega)); (try (revert hq; intro))))
      rw [show nextE o i = ([], 3) by unfold nextE; rw [if_pos HO, if_neg hi]]
      exact ans_nils 3
  · rw [openR_bad HO] at ho
    refine CallS.frozen (.tup [.nilp, .int .i64 210]) ho (plainAll rfl) ?_
    repeat' (first | refine vcI ?_ | refine And.intro ?_ ?_ | (intro hq; (try simp at hq); (try (exfalso; omega)); (try (revert hq; intro))))
    rw [show nextE o i = ([], 210) by unfold nextE; rw [if_neg HO]]
    exact ans_nils 210
end Go.Ab
namespace Go.Ab
open Go.Proofs
set_option maxRecDepth 100000
set_option maxHeartbeats 4000000

theorem wayI {L w : Int} (h0 : 0 < L) (h1 : L ≤ 2) : 0 ≤ (IntKind.i64.wrap (w.tmod L + L)).tmod L ∧ (IntKind.i64.wrap (w.tmod L + L)).tmod L < L := by
  have h2 : -L < w.tmod L ∧ w.tmod L < L := by
    refine ⟨?_, Int.tmod_lt_of_pos w h0⟩
    have := Int.tmod_lt_of_pos (-w) h0
    rw [Int.neg_tmod] at this
    omega
  have h3 : IntKind.i64.wrap (w.tmod L + L) = w.tmod L + L := by rw [IntKind.wrap_i64]; omega
  rw [h3]
  exact ⟨Int.tmod_nonneg _ (by omega), Int.tmod_lt_of_pos _ h0⟩
theorem fewB_of {o : DO} (h : fewB o = true) : fewN o ≤ 6000 ∧ o.regs ≤ 60 := by
  simpa [fewB] using h
theorem cIr : Try.prog.cellsOf 49 = 16 := by kernel_rfl
theorem hasB {l : List Int} {r : Int} (h : ¬ r ∈ l) : CallsF Try.prog 22 [ints l, .int .i64 r] (.bool false) := by
  have h1 := has_spec l r
  rw [show l.contains r = false by simpa using h] at h1
  exact h1
theorem Dead_spec (o : DO) (ho : o.small) (i r : Int) (ways : List Int) : CallsF Try.prog 7 [.agg (dol o), .int .i64 i, .int .i64 r, ints ways] (.bool true) := by
  refine callsF_ofS mx Try.call7 Try.func7 rfl Try.ntmps7 Try.results7 (by kernel_rfl) (by simp) fun lo => ?_
  repeat' (first | refine vcI ?_ | refine And.intro ?_ ?_ | (intro hq; (try simp at hq); (try (exfalso; omega)); (try (revert hq; intro))))
  refine CallS.frozen (.bool true) awake_spec (plainAll rfl) ?_
  repeat' (first | refine vcI ?_ | refine And.intro ?_ ?_ | (intro hq; (try simp at hq); (try (exfalso; omega)); (try (revert hq; intro))))
  rw [mk_opt]
  have hfs := few_spec o ho
  rcases hfew : fewB o with _ | _
  · rw [hfew] at hfs
    refine CallS.frozen (.bool false) hfs (plainAll rfl) ?_
    repeat' (first | refine vcI ?_ | refine And.intro ?_ ?_ | (intro hq; (try simp at hq); (try (exfalso; omega)); (try (revert hq; intro))))
    exact .refl _
  · rw [hfew] at hfs
    obtain ⟨hf, hr60⟩ := fewB_of hfew
    have hs := ho.2.2.2.2.1
    refine CallS.frozen (.bool true) hfs (plainAll rfl) ?_
    repeat' (first | refine vcI ?_ | refine And.intro ?_ ?_ | (intro hq; (try simp at hq); (try (exfalso; omega)); (try (revert hq; intro))))
    · exact .refl _
    rw [mk_opt]
    have hl := Live_spec o i hf hs
    by_cases HO : OpenP o
    · by_cases hi : 0 ≤ i ∧ i < (o.irs.length : Int)
      · obtain ⟨k0, rfl⟩ := Int.eq_ofNat_of_zero_le hi.1
        rw [show liveE o k0 = (liveL o (k0 : Int).toNat, 0) by unfold liveE; rw [if_pos HO, if_pos hi]] at hl
        refine CallS.frozen (.tup [ints (liveL o (k0 : Int).toNat), .int .i64 0]) hl (plainAll rfl) ?_
        repeat' (first | refine vcI ?_ | refine And.intro ?_ ?_ | (intro hq; (try simp at hq); (try (exfalso; omega)); (try (revert hq; intro))))
        have hhas := has_spec (liveL o (k0 : Int).toNat) r
        rcases hc : (liveL o (k0 : Int).toNat).contains r with _ | _
        · rw [hc] at hhas
          refine CallS.frozen (.bool false) hhas (plainAll rfl) ?_
          repeat' (first | refine vcI ?_ | refine And.intro ?_ ?_ | (intro hq; (try simp at hq); (try (exfalso; omega)); (try (revert hq; intro))))
          have hrn : (r.toNat : Int) = r := Int.toNat_of_nonneg (by omega)
          have hnl : ¬ LiveP o k0 r.toNat := fun h => by
            have h1 := (mem_liveL (o := o) (i := k0) (r := r.toNat) (by omega)).2 h
            rw [hrn] at h1
            have h2 := List.contains_iff_mem.2 h1
            rw [show (liveL o k0).contains r = (liveL o (k0 : Int).toNat).contains r from rfl, hc] at h2
            cases h2
          refine loopS2 mx (by decide) (by kernel_rfl) (fun (n k : Nat) => n ≤ ways.length ∧ k < o.irs.length ∧ ¬ LiveP o k r.toNat) (fun n k => [(12, .int .i64 n), (9, .bool true), (4, .ptr (1, 4) 0 [] 0 0), (1, .int .i64 k), (2, .int .i64 r), (3, ints ways)]) (fun n k => [((1, 4), ⟨0, .obox 12 (rowL (dol o))⟩)]) (fun n k => ways.length - n) 0 k0 ⟨by simp, by omega, hnl⟩ ⟨by ((repeat' apply And.intro) <;> (first | exact True.intro | exact NEq.refl _ | (refine NEq.int ?_; first | exact rfl | omega | (rw [wrapI (by omega)]; first | exact rfl | omega)))), ⟨⟨rfl, .refl _⟩, trivial⟩, .nil⟩ ?_
          rintro n k nv ⟨hn, hk, hL⟩
          repeat' (first | refine vcI ?_ | refine And.intro ?_ ?_ | (intro hq; (try simp at hq); (try (exfalso; omega)); (try (revert hq; intro))))
          · have := HO.hd; omega
          · have hx : (o.irs.getD k default).args.length ≤ 1048576 := ho.2.2.2.1 _ (by rw [List.getD_eq_getElem?_getD]; exact getD_mem _ hk)
            have hfr : frN (o.descs.getD k []) ≤ 6000 := by
              have h1 := sumL_mem (f := frN) (l := o.descs) (x := o.descs.getD k []) (by rw [List.getD_eq_getElem?_getD]; exact getD_mem _ (by rw [HO.hd]; exact hk))
              unfold fewN at hf
              omega
            have hnu : ¬ r ∈ usedL (o.irs.getD k default) (o.descs.getD k []) ++ usesL (o.descs.getD k []) := fun h => hL (.use hk (by rw [hrn]; exact h))
            rw [List.mem_append, not_or] at hnu
            rw [cIr]
            refine QS.own (oints (usedL (o.irs.getD k default) (o.descs.getD k []))) (fun id ver => .ref id ver [] 1 0 (usedL (o.irs.getD k default) (o.descs.getD k [])).length) (Used_spec (o.irs.getD k default) (o.descs.getD k []) hx) (plainAll rfl) ?_
            repeat' (first | refine vcI ?_ | refine And.intro ?_ ?_ | (intro hq; (try simp at hq); (try (exfalso; omega)); (try (revert hq; intro))))
            refine CallS.plain [ints (usedL (o.irs.getD k default) (o.descs.getD k [])), .int .i64 r] (.bool false) (hasB hnu.1) ?_ trivial ?_
            · exact LeL.cons (view_ints (k := 7) rfl rfl) (LeL.cons (.refl _) LeL.nil)
            repeat' (first | refine vcI ?_ | refine And.intro ?_ ?_ | (intro hq; (try simp at hq); (try (exfalso; omega)); (try (revert hq; intro))))
            · have := HO.hd; omega
            refine QS.frozen (ints (usesL (o.descs.getD k []))) (Uses_spec (o.descs.getD k []) hfr) (plainAll rfl) ?_
            repeat' (first | refine vcI ?_ | refine And.intro ?_ ?_ | (intro hq; (try simp at hq); (try (exfalso; omega)); (try (revert hq; intro))))
            first
            | refine QS.frozen (.bool false) (hasB hnu.2) (plainAll rfl) ?_
            | refine CallS.frozen (.bool false) (hasB hnu.2) (plainAll rfl) ?_
            repeat' (first | refine vcI ?_ | refine And.intro ?_ ?_ | (intro hq; (try simp at hq); (try (exfalso; omega)); (try (revert hq; intro))))
            have hss := sets_spec (o.irs.getD k default).op
            rcases hsb : setsB (o.irs.getD k default).op with _ | _
            · rw [hsb] at hss
              refine CallS.frozen (.bool false) hss (plainAll rfl) ?_
              repeat' (first | refine vcI ?_ | refine And.intro ?_ ?_ | (intro hq; (try simp at hq); (try (exfalso; omega)); (try (revert hq; intro))))
              have hnd : ¬ (setsB (o.irs.getD k default).op = true ∧ (o.irs.getD k default).d = (r.toNat : Int)) := fun h => by rw [hsb] at h; cases h.1
              rw [mk_opt]
              obtain ⟨g, hg⟩ : ∃ g, g = goesL (o.irs.getD k default) k := ⟨_, rfl⟩
              have hx2 := Next_spec o k hf hs
              rw [show nextE o k = (goesL (o.irs.getD k default) k, 0) by unfold nextE; rw [if_pos HO, if_pos (by omega)]; rfl, ← hg] at hx2
              have hgl : g.length ≤ 2 := by rw [hg]; exact goesL_len _ _
              have hgo : ∀ x ∈ g, 0 ≤ x ∧ x < (o.irs.length : Int) ∧ ¬ LiveP o x.toNat r.toNat := fun x hx => by
                rw [hg] at hx
                have h1 := (HO.fl hf hs).go k hk x hx
                exact ⟨h1.1, h1.2, fun h2 => hL (.step hk (k := x.toNat) (by rw [Int.toNat_of_nonneg h1.1]; exact hx) h2 hnd)⟩
              refine CallS.frozen (.tup [ints g, .int .i64 0]) hx2 (plainAll rfl) ?_
              repeat' (first | refine vcI ?_ | refine And.intro ?_ ?_ | (intro hq; (try simp at hq); (try (exfalso; omega)); (try (revert hq; intro))))
              · exact .refl _
              · contradiction
              · contradiction
              all_goals
                have hg0 : 0 < g.length := List.length_pos_iff.2 (by assumption)
                have hway := wayI (L := (g.length : Int)) (w := ways.getD (n : Int).toNat 0) (by omega) (by omega)
              · exact hway.1
              · exact hway.2
              obtain ⟨h1, h2, h3⟩ := hgo (g.getD ((IntKind.i64.wrap ((ways.getD (n : Int).toNat 0).tmod (g.length : Int) + (g.length : Int))).tmod (g.length : Int)).toNat 0) (by rw [List.getD_eq_getElem?_getD]; exact getD_mem _ (by omega))
              have hw : IntKind.i64.wrap ((n : Int) + 1) = ((n + 1 : Nat) : Int) := wrapI (by omega)
              repeat' (first | refine vcI ?_ | refine And.intro ?_ ?_ | (intro hq; (try simp at hq); (try (exfalso; omega)); (try (revert hq; intro))))
              refine Exists.intro (n + 1, (g.getD ((IntKind.i64.wrap ((ways.getD (n : Int).toNat 0).tmod (g.length : Int) + (g.length : Int))).tmod (g.length : Int)).toNat 0).toNat) ⟨⟨by dsimp only; omega, by dsimp only; omega, h3⟩, (by first | omega | (dsimp only; omega)), ⟨by ((repeat' apply And.intro) <;> (first | exact True.intro | exact NEq.refl _ | (refine NEq.int ?_; first | exact rfl | omega | (rw [wrapI (by omega)]; first | exact rfl | omega)))), ⟨⟨rfl, .refl _⟩, trivial⟩, .nil⟩⟩
            · rw [hsb] at hss
              refine CallS.frozen (.bool true) hss (plainAll rfl) ?_
              repeat' (first | refine vcI ?_ | refine And.intro ?_ ?_ | (intro hq; (try simp at hq); (try (exfalso; omega)); (try (revert hq; intro))))
              · exact .refl _
              rename_i hdr
              have hnd : ¬ (setsB (o.irs.getD k default).op = true ∧ (o.irs.getD k default).d = (r.toNat : Int)) := fun h => hdr (by rw [← hrn]; exact h.2)
              rw [mk_opt]
              obtain ⟨g, hg⟩ : ∃ g, g = goesL (o.irs.getD k default) k := ⟨_, rfl⟩
              have hx2 := Next_spec o k hf hs
              rw [show nextE o k = (goesL (o.irs.getD k default) k, 0) by unfold nextE; rw [if_pos HO, if_pos (by omega)]; rfl, ← hg] at hx2
              have hgl : g.length ≤ 2 := by rw [hg]; exact goesL_len _ _
              have hgo : ∀ x ∈ g, 0 ≤ x ∧ x < (o.irs.length : Int) ∧ ¬ LiveP o x.toNat r.toNat := fun x hx => by
                rw [hg] at hx
                have h1 := (HO.fl hf hs).go k hk x hx
                exact ⟨h1.1, h1.2, fun h2 => hL (.step hk (k := x.toNat) (by rw [Int.toNat_of_nonneg h1.1]; exact hx) h2 hnd)⟩
              refine CallS.frozen (.tup [ints g, .int .i64 0]) hx2 (plainAll rfl) ?_
              repeat' (first | refine vcI ?_ | refine And.intro ?_ ?_ | (intro hq; (try simp at hq); (try (exfalso; omega)); (try (revert hq; intro))))
              · exact .refl _
              · contradiction
              · contradiction
              all_goals
                have hg0 : 0 < g.length := List.length_pos_iff.2 (by assumption)
                have hway := wayI (L := (g.length : Int)) (w := ways.getD (n : Int).toNat 0) (by omega) (by omega)
              · exact hway.1
              · exact hway.2
              obtain ⟨h1, h2, h3⟩ := hgo (g.getD ((IntKind.i64.wrap ((ways.getD (n : Int).toNat 0).tmod (g.length : Int) + (g.length : Int))).tmod (g.length : Int)).toNat 0) (by rw [List.getD_eq_getElem?_getD]; exact getD_mem _ (by omega))
              have hw : IntKind.i64.wrap ((n : Int) + 1) = ((n + 1 : Nat) : Int) := wrapI (by omega)
              repeat' (first | refine vcI ?_ | refine And.intro ?_ ?_ | (intro hq; (try simp at hq); (try (exfalso; omega)); (try (revert hq; intro))))
              refine Exists.intro (n + 1, (g.getD ((IntKind.i64.wrap ((ways.getD (n : Int).toNat 0).tmod (g.length : Int) + (g.length : Int))).tmod (g.length : Int)).toNat 0).toNat) ⟨⟨by dsimp only; omega, by dsimp only; omega, h3⟩, (by first | omega | (dsimp only; omega)), ⟨by ((repeat' apply And.intro) <;> (first | exact True.intro | exact NEq.refl _ | (refine NEq.int ?_; first | exact rfl | omega | (rw [wrapI (by omega)]; first | exact rfl | omega)))), ⟨⟨rfl, .refl _⟩, trivial⟩, .nil⟩⟩
          · exact .refl _
        · rw [hc] at hhas
          refine CallS.frozen (.bool true) hhas (plainAll rfl) ?_
          repeat' (first | refine vcI ?_ | refine And.intro ?_ ?_ | (intro hq; (try simp at hq); (try (exfalso; omega)); (try (revert hq; intro))))
          exact .refl _
      · rw [show liveE o i = ([], 3) by unfold liveE; rw [if_pos HO, if_neg hi]] at hl
        refine CallS.frozen (.tup [ints [], .int .i64 3]) hl (plainAll rfl) ?_
        repeat' (first | refine vcI ?_ | refine And.intro ?_ ?_ | (intro hq; (try simp at hq); (try (exfalso; omega)); (try (revert hq; intro))))
        exact .refl _
    · rw [show liveE o i = ([], 210) by unfold liveE; rw [if_neg HO]] at hl
      refine CallS.frozen (.tup [ints [], .int .i64 210]) hl (plainAll rfl) ?_
      repeat' (first | refine vcI ?_ | refine And.intro ?_ ?_ | (intro hq; (try simp at hq); (try (exfalso; omega)); (try (revert hq; intro))))
      exact .refl _
end Go.Ab
namespace Go.Proofs.Ytbclepldghjacaa.regsDead
open Go Go.Ab Go.Proofs
open Go.Proofs.Ytbclepldghjacaa.Common
open Go.ChangeShapes Go.WideShapes Go.ChangeAt Go.RowKit
set_option maxRecDepth 100000

theorem params : ∀ t ∈ Try.f7.params.toList, t < Try.prog.types.size := by
  have h : Try.f7.params.toList.all (fun t => Nat.blt t Try.prog.types.size) = true := by kernel_rfl
  intro t ht
  simpa [Nat.blt_eq] using List.all_eq_true.1 h t ht

theorem contract (H : Type) (enc : TypeId × Value → H) (W : World) (base : Nat) (args : Array Value) (ds gs : List (DataW H)) (before : List MemPlace)
    (hval : ∀ (j : Nat) t v, Try.f7.params[j]? = some t → args[j]? = some v → Value.okWide Try.prog W .any base t v)
    (hW : DataW.Whole enc Try.prog Try.f7.params.toList Rows.regsDeadSpec.vars false W args.toList ds gs before) (hk : Rows.uptoSmall H (ds ++ gs) = true) :
    Calls Try.prog 7 args W fun e W' => ∃ v, e = .returned v ∧ Rows.regsDeadSpec.post enc Try.prog Try.f7 false true false false W args v W' := by
  have hW' := hW
  obtain ⟨p, q, hA0, hV, rfl, hfz, hnd⟩ := hW
  have hA : DataW.TrodAll enc Try.prog W 0 (fun _ => true) true Try.f7.params.toList args.toList ds p := hA0
  rw [Try.params7] at hA hval
  obtain ⟨v0, vs0, d0, ds0, p0, q0, hargs, rfl, rfl, h0, r0⟩ := trodAll_cons hA
  obtain ⟨v1, vs1, d1, ds1, p1, q1, rfl, rfl, rfl, h1, r1⟩ := trodAll_cons r0
  obtain ⟨v2, vs2, d2, ds2, p2, q2, rfl, rfl, rfl, h2, r2⟩ := trodAll_cons r1
  obtain ⟨v3, vs3, d3, ds3, p3, q3, rfl, rfl, rfl, h3, r3⟩ := trodAll_cons r2
  obtain ⟨rfl, rfl, rfl⟩ := trodAll_nil r3
  obtain rfl : args = #[v0, v1, v2, v3] := by cases args; simp_all
  obtain ⟨rfl, rfl⟩ := trodVars_none hV
  have hs := small (by simpa using hk)
  obtain ⟨o, ho, e0⟩ := rOpt.argStruct Try.underlying39 (hval 0 _ v0 rfl rfl) h0 (hs _ (by simp))
  obtain ⟨i, hi, e1⟩ := Reads.argInt Try.underlying3 (hval 1 _ v1 rfl rfl) h1 (hs _ (by simp))
  obtain ⟨r, hr, e2⟩ := Reads.argInt Try.underlying3 (hval 2 _ v2 rfl rfl) h2 (hs _ (by simp))
  obtain ⟨l, hl, e3⟩ := rInts.argSlice Try.underlying40 ints (fun _ => rfl) (hval 3 _ v3 rfl rfl) h3 (hs _ (by simp))
  exact law_of laidOut rowed sizes params rfl rfl rfl Try.underlying4 hW' (Dead_spec o ho i r l) (.cons0 e0 (.cons0 e1 (.cons0 e2 (.cons0 e3 .nil0))))

theorem lifted (os : Os) (started : os.Started) (H : Type) (enc : TypeId × Value → H) (F : Stop.Interp) :
    ReturnsInHanded {} Try.checked os 7 .any ((Rows.OpenSpec.upto Rows.regsDeadSpec).pre6 enc Try.prog Try.f7 Rows.regsDeadUptoRow.domain false) (((Rows.OpenSpec.upto Rows.regsDeadSpec).at F).post enc Try.prog Try.f7 false true false false) := by
  refine returnsInHanded_of_cond (C := Try.checked) (s := Rows.OpenSpec.upto Rows.regsDeadSpec) (k := Rows.uptoSmall) rfl own started (by kernel_rfl) Try.func7
    (OpenSpec.witness (enc := enc) (C := Try.checked) (s := Rows.OpenSpec.upto Rows.regsDeadSpec) (k := Rows.uptoSmall) rfl false ⟨#[], #[.agg #[.int .i64 0, .int .i64 0, .int .i64 0, .int .i64 0, .int .i64 0, .string ⟨#[]⟩, .slice none 0 0, .slice none 0 0, .slice none 0 0, .slice none 0 0, .slice none 0 0, .int .i64 0], .int .i64 0, .int .i64 0, .slice none 0 0], []⟩ 8 (by kernel_rfl) (by kernel_rfl) (by kernel_rfl)
      (x := ([.agg [.lit (.int .i64 0), .agg [.lit (.int .i64 0), .lit (.int .i64 0), .agg [.lit (.int .i64 0), .lit (.int .i64 0), .lit (.string [])]], .nil, .nil, .nil, .nil, .nil, .lit (.int .i64 0)], .lit (.int .i64 0), .lit (.int .i64 0), .nil], [], [])) (by kernel_rfl) rfl (by kernel_rfl)) ?_
  intro W base args ds gs before hval hW _ hk _
  exact contract H enc W base args ds gs before hval hW hk

theorem proved : Rows.RegsDeadUptoSaid :=
  OpenClaim.holds_of_cond 7 Try.f7 rfl rfl rfl rfl rfl rfl rfl ⟨rfl, rfl, rfl, rfl, rfl⟩ rfl rfl rfl rfl rfl (by kernel_rfl) Try.func7 (by kernel_rfl)
    (of_decide_eq_true (by kernel_rfl)) (by unfold Func.isWrapper; first | (rw [if_pos (by decide +kernel)]; kernel_rfl) | (rw [if_neg (by decide +kernel)]; exact ⟨rfl, rfl⟩))
    (fun os started H enc _ F => lifted os started H enc F)
#print axioms proved
end Go.Proofs.Ytbclepldghjacaa.regsDead

/- The runner, where 'list' is known. -/
import Derived.Test.YtbclepldghjacaaA5
import Derived.Test.YtbclepldghjacaaProg
import Derived.KernelRfl
set_option linter.unusedVariables false
set_option linter.unusedSimpArgs false
/- The seat's program; how data lies in memory. -/
namespace Go.Ab
open Go.Proofs
set_option maxRecDepth 100000
theorem mx : Try.prog.follows .mixedOrders = true := by kernel_rfl

theorem bPair : Try.prog.bytesOf 56 = 16 := by kernel_rfl
theorem bInt : Try.prog.bytesOf 3 = 8 := by kernel_rfl

/-- Lists of numbers, of pairs. -/
def ints (l : List Int) : PV := .frz 1 l.length fun i _ => .int .i64 (l.getD i 0)
def oints (l : List Int) : PV := .own 1 l.length fun i _ => .int .i64 (l.getD i 0)
def pcell (p : Int × Int) : Nat → PV
  | 0 => .int .i64 p.1
  | _ => .int .i64 p.2
def prs (l : List (Int × Int)) : PV := .frz 2 l.length fun i o => pcell (l.getD i (0, 0)) o
def oprs (l : List (Int × Int)) : PV := .own 2 l.length fun i o => pcell (l.getD i (0, 0)) o
theorem cellV_pcell (r : RId) (v : Nat) (p : Path) (i o : Nat) (x : Int × Int) (o' : Nat) : cellV r v p i o (pcell x o') = pcell x o' := by cases o' <;> rfl
theorem shape_pcell (x : Int × Int) (o : Nat) : shapeOf (pcell x o) = none := by cases o <;> rfl
theorem dry_pcell (x : Int × Int) (o : Nat) : dryCell (pcell x o) = true := by cases o <;> rfl
theorem view_pcell (k : Nat) (hp : Hp) (x : Int × Int) (o : Nat) : view (k + 1) hp (pcell x o) = pcell x o := by cases o <;> rfl
theorem view_prs {k : Nat} {L : Hp} {r : RId} {v n : Nat} {l : List (Int × Int)} (h : lkH L r = some ⟨v, oprs l⟩) (hn : n = l.length) : NEq (view (k + 2) L (.ref r v [] 2 0 n)) (prs l) := by
  subst hn
  rw [view, h]
  simp only [if_true, getAt, oprs]
  exact NEq.frzs rfl (by simp) fun i o _ _ => by rw [view_pcell, Nat.zero_add]; exact .refl _
theorem view_ints {k : Nat} {L : Hp} {r : RId} {v n : Nat} {l : List Int} (h : lkH L r = some ⟨v, oints l⟩) (hn : n = l.length) : NEq (view (k + 2) L (.ref r v [] 1 0 n)) (ints l) := by
  subst hn
  rw [view, h]
  simp only [if_true, getAt, oints]
  exact NEq.frzs rfl (by simp) fun i o _ _ => by rw [Nat.zero_add]; exact .refl _
theorem getD_app {α : Type} (xs ys : List α) (i : Nat) (d : α) : (xs ++ ys).getD i d = if i < xs.length then xs.getD i d else ys.getD (i - xs.length) d := by
  simp only [List.getD_eq_getElem?_getD, List.getElem?_append]
  split <;> rfl
theorem app_prs {xs ys : List (Int × Int)} {sz n : Nat} {f : Nat → Nat → PV} (hsz : sz = 2) (hn : n = xs.length + ys.length) (h1 : ∀ i o, i < xs.length → o < 2 → NEq (f i o) (pcell (xs.getD i (0, 0)) o)) (h2 : ∀ i o, i < ys.length → o < 2 → NEq (f (xs.length + i) o) (pcell (ys.getD i (0, 0)) o)) :
    NEq (.own sz n f) (oprs (xs ++ ys)) := by
  refine NEq.owns hsz (by simp [hn]) fun i o hi ho => ?_
  rw [getD_app]
  rw [List.length_append] at hi
  by_cases h : i < xs.length
  · rw [if_pos h]; exact h1 _ _ h ho
  · rw [if_neg h]
    have := h2 (i - xs.length) o (by omega) ho
    rwa [show xs.length + (i - xs.length) = i by omega] at this
theorem app_ints {xs ys : List Int} {sz n : Nat} {f : Nat → Nat → PV} (hsz : sz = 1) (hn : n = xs.length + ys.length) (h1 : ∀ i o, i < xs.length → o < 1 → NEq (f i o) (.int .i64 (xs.getD i 0))) (h2 : ∀ i o, i < ys.length → o < 1 → NEq (f (xs.length + i) o) (.int .i64 (ys.getD i 0))) :
    NEq (.own sz n f) (oints (xs ++ ys)) := by
  refine NEq.owns hsz (by simp [hn]) fun i o hi ho => ?_
  rw [getD_app]
  rw [List.length_append] at hi
  by_cases h : i < xs.length
  · rw [if_pos h]; exact h1 _ _ h ho
  · rw [if_neg h]
    have := h2 (i - xs.length) o (by omega) ho
    rwa [show xs.length + (i - xs.length) = i by omega] at this
theorem shape_prs {n : Nat} {xs : List (Int × Int)} (h : n = xs.length) : shapeOf (oprs xs) = some (true, 2, n) := by subst h; rfl
theorem shape_ints {n : Nat} {xs : List Int} (h : n = xs.length) : shapeOf (oints xs) = some (true, 1, n) := by subst h; rfl
theorem one_pair {sz n : Nat} {g : Nat → Nat → PV} (x : Int × Int) (hsz : sz = 2) (hn : n = 1) (h0 : NEq (g 0 0) (.int .i64 x.1)) (h1 : NEq (g 0 1) (.int .i64 x.2)) : NEq (.own sz n g) (oprs [x]) := by
  refine NEq.owns hsz hn fun i o hi ho => ?_
  obtain rfl : i = 0 := by simpa using hi
  obtain rfl | rfl : o = 0 ∨ o = 1 := by omega
  · exact h0
  · exact h1
theorem KpR_prs {hs : Hp} {r id : RId} {v ver : Nat} {l : List (Int × Int)} : KpR none hs r v id ver (oprs l) (oprs l) :=
  .own fun i o _ _ => .leaf (shape_pcell _ _) (shape_pcell _ _) (.view (by rw [view_pcell]; exact .refl _))
theorem KpR_ints {hs : Hp} {r id : RId} {v ver : Nat} {l : List Int} : KpR none hs r v id ver (oints l) (oints l) :=
  .own fun i o _ _ => .leaf rfl rfl (.view (.refl _))
end Go.Ab
/- Small functions over numbers. -/
namespace Go.Ab
open Go.Proofs
set_option maxRecDepth 100000
set_option maxHeartbeats 1000000

theorem contains_take (l : List Int) (n : Int) (k : Nat) (hk : k < l.length) : (l.take (k+1)).contains n = ((l.take k).contains n || decide (l[k]?.getD 0 = n)) := by
  rw [List.take_add_one, List.contains_append]
  simp [hk]
  cases decide (n ∈ List.take k l) <;> simp [eq_comm]
theorem contains_of {l : List Int} {n : Int} {k : Nat} (hk : k < l.length) (h : l[k]?.getD 0 = n) : l.contains n = true := by
  simp [hk] at h; simp [← h]

theorem has_spec (l : List Int) (n : Int) : CallsF Try.prog 22 [ints l, .int .i64 n] (.bool (l.contains n)) := by
  refine callsF_ofS mx Try.call22 Try.func22 rfl Try.ntmps22 Try.results22 (by kernel_rfl) (by simp) fun lo => ?_
  refine loopS mx (by decide) (by kernel_rfl) (fun k : Nat => k ≤ l.length ∧ (l.take k).contains n = false) (fun k => [(5, .int .i64 k), (0, ints l), (1, .int .i64 n)]) (fun _ => []) (fun k => l.length - k) 0 (by simp) ⟨by ((repeat' apply And.intro) <;> (first | exact True.intro | exact NEq.refl _ | (refine NEq.int ?_; first | exact rfl | omega | (rw [wrapI (by omega)]; first | exact rfl | omega)))), trivial, .nil⟩ ?_
  intro k nv ⟨hk, hc⟩
  repeat' (first | (refine And.intro ?_ ?_; focus (first | first | first | exact rfl | exact trivial | exact fun _ => rfl | exact Nat.le_of_ble_eq_true rfl | exact Option.some_ne_none _ | omega | (intro hh; cases hh; done) | assumption | (show (0 : Int) ≤ _; omega) | (rw [bPair]; omega) | (rw [bInt]; omega) | exact fun hh => hh | omega | ((refine ⟨fun hh => ?_, fun hh => ?_⟩) <;> (first | exact rfl | exact beq_iff_eq.2 hh)) | ((repeat' apply And.intro) <;> (first | first | exact rfl | exact trivial | exact fun _ => rfl | exact Nat.le_of_ble_eq_true rfl | exact Option.some_ne_none _ | omega | (intro hh; cases hh; done) | assumption | (show (0 : Int) ≤ _; omega) | (rw [bPair]; omega) | (rw [bInt]; omega))) | (intro hh; first | (cases hh; done) | ((repeat' apply And.intro) <;> (first | first | exact rfl | exact trivial | exact fun _ => rfl | exact Nat.le_of_ble_eq_true rfl | exact Option.some_ne_none _ | omega | (intro hh; cases hh; done) | assumption | (show (0 : Int) ≤ _; omega) | (rw [bPair]; omega) | (rw [bInt]; omega)))))) | (refine And.intro ?_ ?_) | (intro hq; (try simp at hq); (try (exfalso; omega)); (try (revert hq; intro))))
  · rename_i _ h1 h2
    (refine NEq.of_eq ?_; show PV.bool _ = PV.bool _; congr 1)
    rw [contains_of h1 h2]
  · rename_i _ h1 h2
    refine Exists.intro (k+1) ⟨⟨by omega, ?_⟩, (by first | omega | (dsimp only; omega)), ⟨by ((repeat' apply And.intro) <;> (first | exact True.intro | exact NEq.refl _ | (refine NEq.int ?_; first | exact rfl | omega | (rw [wrapI (by omega)]; first | exact rfl | omega)))), trivial, .nil⟩⟩
    rw [contains_take l n k h1, hc]; simp [h2]
  · rename_i _ h1
    (refine NEq.of_eq ?_; show PV.bool _ = PV.bool _; congr 1)
    rw [List.take_of_length_le h1] at hc
    rw [hc]

def setsB (n : Int) : Bool := n == 1 || n == 12 || n == 2 || n == 4 || n == 14 || n == 6 || n == 7 || n == 13
theorem sets_spec (n : Int) : CallsF Try.prog 19 [.int .i64 n] (.bool (setsB n)) := by
  refine callsF_ofS mx Try.call19 Try.func19 rfl Try.ntmps19 Try.results19 (by kernel_rfl) (by simp) fun lo => ?_
  repeat' (first | (refine And.intro ?_ ?_; focus (first | first | first | exact rfl | exact trivial | exact fun _ => rfl | exact Nat.le_of_ble_eq_true rfl | exact Option.some_ne_none _ | omega | (intro hh; cases hh; done) | assumption | (show (0 : Int) ≤ _; omega) | (rw [bPair]; omega) | (rw [bInt]; omega) | exact fun hh => hh | omega | ((refine ⟨fun hh => ?_, fun hh => ?_⟩) <;> (first | exact rfl | exact beq_iff_eq.2 hh)) | ((repeat' apply And.intro) <;> (first | first | exact rfl | exact trivial | exact fun _ => rfl | exact Nat.le_of_ble_eq_true rfl | exact Option.some_ne_none _ | omega | (intro hh; cases hh; done) | assumption | (show (0 : Int) ≤ _; omega) | (rw [bPair]; omega) | (rw [bInt]; omega))) | (intro hh; first | (cases hh; done) | ((repeat' apply And.intro) <;> (first | first | exact rfl | exact trivial | exact fun _ => rfl | exact Nat.le_of_ble_eq_true rfl | exact Option.some_ne_none _ | omega | (intro hh; cases hh; done) | assumption | (show (0 : Int) ≤ _; omega) | (rw [bPair]; omega) | (rw [bInt]; omega)))))) | (refine And.intro ?_ ?_) | (intro hq; (try simp at hq); (try (exfalso; omega)); (try (revert hq; intro))))
  all_goals ((refine NEq.of_eq ?_; show PV.bool _ = PV.bool _; congr 1); simp_all [setsB])

theorem take_eq_succ {α : Type} [Inhabited α] {a b : List α} {k : Nat} (hl : a.length = b.length) (h : a.take k = b.take k) (hk : k < a.length) (e : a[k]?.getD default = b[k]?.getD default) : a.take (k + 1) = b.take (k + 1) := by
  have hk' : k < b.length := by omega
  simp [hk, hk'] at e
  rw [List.take_add_one, List.take_add_one, h, List.getElem?_eq_getElem hk, List.getElem?_eq_getElem hk', e]
theorem take_ne {α : Type} [Inhabited α] {a b : List α} {k : Nat} (e : ¬ a[k]?.getD default = b[k]?.getD default) : a ≠ b := fun h => e (by rw [h])
theorem take_all {α : Type} {a b : List α} {k : Nat} (hl : a.length = b.length) (h : a.take k = b.take k) (hk : a.length ≤ k) : a = b := by
  rwa [List.take_of_length_le hk, List.take_of_length_le (by omega)] at h

theorem sameInts_spec (a b : List Int) : CallsF Try.prog 18 [ints a, ints b] (.bool (decide (a = b))) := by
  refine callsF_ofS mx Try.call18 Try.func18 rfl Try.ntmps18 Try.results18 (by kernel_rfl) (by simp) fun lo => ?_
  repeat' (first | (refine And.intro ?_ ?_; focus (first | first | first | exact rfl | exact trivial | exact fun _ => rfl | exact Nat.le_of_ble_eq_true rfl | exact Option.some_ne_none _ | omega | (intro hh; cases hh; done) | assumption | (show (0 : Int) ≤ _; omega) | (rw [bPair]; omega) | (rw [bInt]; omega) | exact fun hh => hh | omega | ((refine ⟨fun hh => ?_, fun hh => ?_⟩) <;> (first | exact rfl | exact beq_iff_eq.2 hh)) | ((repeat' apply And.intro) <;> (first | first | exact rfl | exact trivial | exact fun _ => rfl | exact Nat.le_of_ble_eq_true rfl | exact Option.some_ne_none _ | omega | (intro hh; cases hh; done) | assumption | (show (0 : Int) ≤ _; omega) | (rw [bPair]; omega) | (rw [bInt]; omega))) | (intro hh; first | (cases hh; done) | ((repeat' apply And.intro) <;> (first | first | exact rfl | exact trivial | exact fun _ => rfl | exact Nat.le_of_ble_eq_true rfl | exact Option.some_ne_none _ | omega | (intro hh; cases hh; done) | assumption | (show (0 : Int) ≤ _; omega) | (rw [bPair]; omega) | (rw [bInt]; omega)))))) | (refine And.intro ?_ ?_) | (intro hq; (try simp at hq); (try (exfalso; omega)); (try (revert hq; intro))))
  · rename_i _ _ h
    (refine NEq.of_eq ?_; show PV.bool _ = PV.bool _; congr 1)
    simp only [Bool.false_eq, decide_eq_false_iff_not]
    intro e; subst e; exact h rfl
  · rename_i _ _ h
    have hl : a.length = b.length := by omega
    refine loopS mx (by decide) (by kernel_rfl) (fun k : Nat => k ≤ a.length ∧ a.take k = b.take k) (fun k => [(5, .int .i64 k), (0, ints a), (1, ints b)]) (fun _ => []) (fun k => a.length - k) 0 (by simp) ⟨by ((repeat' apply And.intro) <;> (first | exact True.intro | exact NEq.refl _ | (refine NEq.int ?_; first | exact rfl | omega | (rw [wrapI (by omega)]; first | exact rfl | omega)))), trivial, .nil⟩ ?_
    intro k nv ⟨hk, hc⟩
    repeat' (first | (refine And.intro ?_ ?_; focus (first | first | first | exact rfl | exact trivial | exact fun _ => rfl | exact Nat.le_of_ble_eq_true rfl | exact Option.some_ne_none _ | omega | (intro hh; cases hh; done) | assumption | (show (0 : Int) ≤ _; omega) | (rw [bPair]; omega) | (rw [bInt]; omega) | exact fun hh => hh | omega | ((refine ⟨fun hh => ?_, fun hh => ?_⟩) <;> (first | exact rfl | exact beq_iff_eq.2 hh)) | ((repeat' apply And.intro) <;> (first | first | exact rfl | exact trivial | exact fun _ => rfl | exact Nat.le_of_ble_eq_true rfl | exact Option.some_ne_none _ | omega | (intro hh; cases hh; done) | assumption | (show (0 : Int) ≤ _; omega) | (rw [bPair]; omega) | (rw [bInt]; omega))) | (intro hh; first | (cases hh; done) | ((repeat' apply And.intro) <;> (first | first | exact rfl | exact trivial | exact fun _ => rfl | exact Nat.le_of_ble_eq_true rfl | exact Option.some_ne_none _ | omega | (intro hh; cases hh; done) | assumption | (show (0 : Int) ≤ _; omega) | (rw [bPair]; omega) | (rw [bInt]; omega)))))) | (refine And.intro ?_ ?_) | (intro hq; (try simp at hq); (try (exfalso; omega)); (try (revert hq; intro))))
    · rename_i _ _ h3
      (refine NEq.of_eq ?_; show PV.bool _ = PV.bool _; congr 1)
      simp only [Bool.false_eq, decide_eq_false_iff_not]
      exact take_ne h3
    · rename_i _ h2 h3
      refine Exists.intro (k+1) ⟨⟨by omega, take_eq_succ hl hc h2 h3⟩, (by first | omega | (dsimp only; omega)), ⟨by ((repeat' apply And.intro) <;> (first | exact True.intro | exact NEq.refl _ | (refine NEq.int ?_; first | exact rfl | omega | (rw [wrapI (by omega)]; first | exact rfl | omega)))), trivial, .nil⟩⟩
    · rename_i _ h2
      (refine NEq.of_eq ?_; show PV.bool _ = PV.bool _; congr 1)
      simp only [Bool.true_eq, decide_eq_true_eq]
      exact take_all hl hc h2

theorem samePairs_spec (a b : List (Int × Int)) : CallsF Try.prog 11 [prs a, prs b] (.bool (decide (a = b))) := by
  refine callsF_ofS mx Try.call11 Try.func11 rfl Try.ntmps11 Try.results11 (by kernel_rfl) (by simp) fun lo => ?_
  repeat' (first | (refine And.intro ?_ ?_; focus (first | first | first | exact rfl | exact trivial | exact fun _ => rfl | exact Nat.le_of_ble_eq_true rfl | exact Option.some_ne_none _ | omega | (intro hh; cases hh; done) | assumption | (show (0 : Int) ≤ _; omega) | (rw [bPair]; omega) | (rw [bInt]; omega) | exact fun hh => hh | omega | ((refine ⟨fun hh => ?_, fun hh => ?_⟩) <;> (first | exact rfl | exact beq_iff_eq.2 hh)) | ((repeat' apply And.intro) <;> (first | first | exact rfl | exact trivial | exact fun _ => rfl | exact Nat.le_of_ble_eq_true rfl | exact Option.some_ne_none _ | omega | (intro hh; cases hh; done) | assumption | (show (0 : Int) ≤ _; omega) | (rw [bPair]; omega) | (rw [bInt]; omega))) | (intro hh; first | (cases hh; done) | ((repeat' apply And.intro) <;> (first | first | exact rfl | exact trivial | exact fun _ => rfl | exact Nat.le_of_ble_eq_true rfl | exact Option.some_ne_none _ | omega | (intro hh; cases hh; done) | assumption | (show (0 : Int) ≤ _; omega) | (rw [bPair]; omega) | (rw [bInt]; omega)))))) | (refine And.intro ?_ ?_) | (intro hq; (try simp at hq); (try (exfalso; omega)); (try (revert hq; intro))))
  · rename_i _ _ h
    (refine NEq.of_eq ?_; show PV.bool _ = PV.bool _; congr 1)
    simp only [Bool.false_eq, decide_eq_false_iff_not]
    intro e; subst e; exact h rfl
  · rename_i _ _ h
    have hl : a.length = b.length := by omega
    refine loopS mx (by decide) (by kernel_rfl) (fun k : Nat => k ≤ a.length ∧ a.take k = b.take k) (fun k => [(5, .int .i64 k), (0, prs a), (1, prs b)]) (fun _ => []) (fun k => a.length - k) 0 (by simp) ⟨by ((repeat' apply And.intro) <;> (first | exact True.intro | exact NEq.refl _ | (refine NEq.int ?_; first | exact rfl | omega | (rw [wrapI (by omega)]; first | exact rfl | omega)))), trivial, .nil⟩ ?_
    intro k nv ⟨hk, hc⟩
    repeat' (first | (refine And.intro ?_ ?_; focus (first | first | first | exact rfl | exact trivial | exact fun _ => rfl | exact Nat.le_of_ble_eq_true rfl | exact Option.some_ne_none _ | omega | (intro hh; cases hh; done) | assumption | (show (0 : Int) ≤ _; omega) | (rw [bPair]; omega) | (rw [bInt]; omega) | exact fun hh => hh | omega | ((refine ⟨fun hh => ?_, fun hh => ?_⟩) <;> (first | exact rfl | exact beq_iff_eq.2 hh)) | ((repeat' apply And.intro) <;> (first | first | exact rfl | exact trivial | exact fun _ => rfl | exact Nat.le_of_ble_eq_true rfl | exact Option.some_ne_none _ | omega | (intro hh; cases hh; done) | assumption | (show (0 : Int) ≤ _; omega) | (rw [bPair]; omega) | (rw [bInt]; omega))) | (intro hh; first | (cases hh; done) | ((repeat' apply And.intro) <;> (first | first | exact rfl | exact trivial | exact fun _ => rfl | exact Nat.le_of_ble_eq_true rfl | exact Option.some_ne_none _ | omega | (intro hh; cases hh; done) | assumption | (show (0 : Int) ≤ _; omega) | (rw [bPair]; omega) | (rw [bInt]; omega)))))) | (refine And.intro ?_ ?_) | (intro hq; (try simp at hq); (try (exfalso; omega)); (try (revert hq; intro))))
    · rename_i _ _ h3
      (refine NEq.of_eq ?_; show PV.bool _ = PV.bool _; congr 1)
      simp only [Bool.false_eq, decide_eq_false_iff_not]
      intro e
      subst e
      simp at h3
    · rename_i _ h2 h3
      exact Exists.intro (k+1) ⟨⟨by omega, take_eq_succ hl hc h2 (Prod.ext h3.1 h3.2)⟩, (by first | omega | (dsimp only; omega)), ⟨by ((repeat' apply And.intro) <;> (first | exact True.intro | exact NEq.refl _ | (refine NEq.int ?_; first | exact rfl | omega | (rw [wrapI (by omega)]; first | exact rfl | omega)))), trivial, .nil⟩⟩
    · rename_i _ h2
      (refine NEq.of_eq ?_; show PV.bool _ = PV.bool _; congr 1)
      simp only [Bool.true_eq, decide_eq_true_eq]
      exact take_all hl hc h2

def isSource (l : List (Int × Int)) (n but : Int) : Bool := l.zipIdx.any fun p => (p.2 : Int) != but && p.1.2 == n
theorem any_take {α : Type} (d : α) {l : List α} {f : α × Nat → Bool} {k : Nat} (hk : k < l.length) : (l.zipIdx.take (k + 1)).any f = ((l.zipIdx.take k).any f || f (l[k]?.getD d, k)) := by
  rw [List.take_add_one, List.any_append]
  simp [hk]
theorem any_mem {α : Type} (d : α) {l : List α} {f : α × Nat → Bool} {k : Nat} (hk : k < l.length) (h : f (l[k]?.getD d, k) = true) : l.zipIdx.any f = true := by
  rw [List.any_eq_true]
  exact ⟨_, List.mem_iff_getElem.2 ⟨k, by simpa using hk, rfl⟩, by simpa [hk] using h⟩
theorem source_spec (l : List (Int × Int)) (n but : Int) : CallsF Try.prog 36 [prs l, .int .i64 n, .int .i64 but] (.bool (isSource l n but)) := by
  unfold isSource
  refine callsF_ofS mx Try.call36 Try.func36 rfl Try.ntmps36 Try.results36 (by kernel_rfl) (by simp) fun lo => ?_
  refine loopS mx (by decide) (by kernel_rfl) (fun k : Nat => k ≤ l.length ∧ ((l.zipIdx.take k).any fun p => (p.2 : Int) != but && p.1.2 == n) = false) (fun k => [(7, .int .i64 k), (0, prs l), (1, .int .i64 n), (2, .int .i64 but)]) (fun _ => []) (fun k => l.length - k) 0 (by simp) ⟨by ((repeat' apply And.intro) <;> (first | exact True.intro | exact NEq.refl _ | (refine NEq.int ?_; first | exact rfl | omega | (rw [wrapI (by omega)]; first | exact rfl | omega)))), trivial, .nil⟩ ?_
  intro k nv ⟨hk, hc⟩
  repeat' (first | (refine And.intro ?_ ?_; focus (first | first | first | exact rfl | exact trivial | exact fun _ => rfl | exact Nat.le_of_ble_eq_true rfl | exact Option.some_ne_none _ | omega | (intro hh; cases hh; done) | assumption | (show (0 : Int) ≤ _; omega) | (rw [bPair]; omega) | (rw [bInt]; omega) | exact fun hh => hh | omega | ((refine ⟨fun hh => ?_, fun hh => ?_⟩) <;> (first | exact rfl | exact beq_iff_eq.2 hh)) | ((repeat' apply And.intro) <;> (first | first | exact rfl | exact trivial | exact fun _ => rfl | exact Nat.le_of_ble_eq_true rfl | exact Option.some_ne_none _ | omega | (intro hh; cases hh; done) | assumption | (show (0 : Int) ≤ _; omega) | (rw [bPair]; omega) | (rw [bInt]; omega))) | (intro hh; first | (cases hh; done) | ((repeat' apply And.intro) <;> (first | first | exact rfl | exact trivial | exact fun _ => rfl | exact Nat.le_of_ble_eq_true rfl | exact Option.some_ne_none _ | omega | (intro hh; cases hh; done) | assumption | (show (0 : Int) ≤ _; omega) | (rw [bPair]; omega) | (rw [bInt]; omega)))))) | (refine And.intro ?_ ?_) | (intro hq; (try simp at hq); (try (exfalso; omega)); (try (revert hq; intro))))
  · rename_i _ h1 h2
    (refine NEq.of_eq ?_; show PV.bool _ = PV.bool _; congr 1)
    rw [any_mem (0, 0) h1 (by simpa using h2)]
  · rename_i _ h1 h2
    refine Exists.intro (k+1) ⟨⟨by omega, ?_⟩, (by first | omega | (dsimp only; omega)), ⟨by ((repeat' apply And.intro) <;> (first | exact True.intro | exact NEq.refl _ | (refine NEq.int ?_; first | exact rfl | omega | (rw [wrapI (by omega)]; first | exact rfl | omega)))), trivial, .nil⟩⟩
    rw [any_take (0, 0) h1, hc]
    simpa using h2
  · rename_i _ h1
    (refine NEq.of_eq ?_; show PV.bool _ = PV.bool _; congr 1)
    rw [List.take_of_length_le (by simpa using h1)] at hc
    rw [hc]

def movesOK (l : List (Int × Int)) (spare : Int) : Bool := l.length ≤ 250 && 0 ≤ spare && spare ≤ 250 && l.zipIdx.all fun p => 0 ≤ p.1.1 && p.1.1 ≤ 250 && p.1.1 != spare && (0 ≤ p.1.2 && p.1.2 ≤ 250 && p.1.2 != spare) && (l.take p.2).all fun q => q.1 != p.1.1
end Go.Ab
/- Moves: the reference. -/
namespace Go.Ab
open Go.Proofs
set_option maxRecDepth 100000
set_option maxHeartbeats 1000000

theorem all_take {α : Type} (d : α) {l : List α} {f : α × Nat → Bool} {k : Nat} (hk : k < l.length) : (l.zipIdx.take (k + 1)).all f = ((l.zipIdx.take k).all f && f (l[k]?.getD d, k)) := by
  rw [List.take_add_one, List.all_append]
  simp [hk]
theorem all_not {α : Type} (d : α) {l : List α} {f : α × Nat → Bool} {k : Nat} (hk : k < l.length) (h : f (l[k]?.getD d, k) = false) : l.zipIdx.all f = false := by
  rw [List.all_eq_false]
  exact ⟨_, List.mem_iff_getElem.2 ⟨k, by simpa using hk, rfl⟩, by simpa [hk] using h⟩
theorem tall_take {α : Type} (d : α) {l : List α} {f : α → Bool} {k : Nat} (hk : k < l.length) : (l.take (k + 1)).all f = ((l.take k).all f && f (l[k]?.getD d)) := by
  rw [List.take_add_one, List.all_append]
  simp [hk]
theorem tall_not {α : Type} (d : α) {l : List α} {f : α → Bool} {j k : Nat} (hk : j < k) (hl : k ≤ l.length) (h : f (l[j]?.getD d) = false) : (l.take k).all f = false := by
  rw [List.all_eq_false]
  refine ⟨l[j], List.mem_iff_getElem.2 ⟨j, by simp; omega, by simp⟩, by simpa [show j < l.length by omega] using h⟩

def inR (x spare : Int) : Bool := 0 ≤ x && x ≤ 250 && x != spare
def moveOK (l : List (Int × Int)) (spare : Int) (p : (Int × Int) × Nat) : Bool := inR p.1.1 spare && inR p.1.2 spare && (l.take p.2).all fun q => p.1.1 != q.1
theorem movesRight_spec (l : List (Int × Int)) (spare : Int) : CallsF Try.prog 35 [prs l, .int .i64 spare] (.bool (l.length ≤ 250 && 0 ≤ spare && spare ≤ 250 && l.zipIdx.all (moveOK l spare))) := by
  refine callsF_ofS mx Try.call35 Try.func35 rfl Try.ntmps35 Try.results35 (by kernel_rfl) (by simp) fun lo => ?_
  repeat' (first | (refine And.intro ?_ ?_; focus (first | first | first | exact rfl | exact trivial | exact fun _ => rfl | exact Nat.le_of_ble_eq_true rfl | exact Option.some_ne_none _ | omega | (intro hh; cases hh; done) | assumption | (show (0 : Int) ≤ _; omega) | (rw [bPair]; omega) | (rw [bInt]; omega) | exact fun hh => hh | omega | ((refine ⟨fun hh => ?_, fun hh => ?_⟩) <;> (first | exact rfl | exact beq_iff_eq.2 hh)) | ((repeat' apply And.intro) <;> (first | first | exact rfl | exact trivial | exact fun _ => rfl | exact Nat.le_of_ble_eq_true rfl | exact Option.some_ne_none _ | omega | (intro hh; cases hh; done) | assumption | (show (0 : Int) ≤ _; omega) | (rw [bPair]; omega) | (rw [bInt]; omega))) | (intro hh; first | (cases hh; done) | ((repeat' apply And.intro) <;> (first | first | exact rfl | exact trivial | exact fun _ => rfl | exact Nat.le_of_ble_eq_true rfl | exact Option.some_ne_none _ | omega | (intro hh; cases hh; done) | assumption | (show (0 : Int) ≤ _; omega) | (rw [bPair]; omega) | (rw [bInt]; omega)))))) | (refine And.intro ?_ ?_) | (intro hq; (try simp at hq); (try (exfalso; omega)); (try (revert hq; intro))))
  · rename_i _ h
    (refine NEq.of_eq ?_; show PV.bool _ = PV.bool _; congr 1)
    symm
    simp only [Bool.and_eq_false_iff, decide_eq_false_iff_not]
    omega
  · rename_i _ h
    have h0 : (decide (l.length ≤ 250) && decide (0 ≤ spare) && decide (spare ≤ 250)) = true := by simp; omega
    rw [h0, Bool.true_and]
    refine loopS mx (by decide) (by kernel_rfl) (fun k : Nat => k ≤ l.length ∧ (l.zipIdx.take k).all (moveOK l spare) = true) (fun k => [(5, .int .i64 k), (0, prs l), (1, .int .i64 spare)]) (fun _ => []) (fun k => l.length - k) 0 (by simp) ⟨by ((repeat' apply And.intro) <;> (first | exact True.intro | exact NEq.refl _ | (refine NEq.int ?_; first | exact rfl | omega | (rw [wrapI (by omega)]; first | exact rfl | omega)))), trivial, .nil⟩ ?_
    intro k nv ⟨hk, hc⟩
    repeat' (first | (refine And.intro ?_ ?_; focus (first | first | first | exact rfl | exact trivial | exact fun _ => rfl | exact Nat.le_of_ble_eq_true rfl | exact Option.some_ne_none _ | omega | (intro hh; cases hh; done) | assumption | (show (0 : Int) ≤ _; omega) | (rw [bPair]; omega) | (rw [bInt]; omega) | exact fun hh => hh | omega | ((refine ⟨fun hh => ?_, fun hh => ?_⟩) <;> (first | exact rfl | exact beq_iff_eq.2 hh)) | ((repeat' apply And.intro) <;> (first | first | exact rfl | exact trivial | exact fun _ => rfl | exact Nat.le_of_ble_eq_true rfl | exact Option.some_ne_none _ | omega | (intro hh; cases hh; done) | assumption | (show (0 : Int) ≤ _; omega) | (rw [bPair]; omega) | (rw [bInt]; omega))) | (intro hh; first | (cases hh; done) | ((repeat' apply And.intro) <;> (first | first | exact rfl | exact trivial | exact fun _ => rfl | exact Nat.le_of_ble_eq_true rfl | exact Option.some_ne_none _ | omega | (intro hh; cases hh; done) | assumption | (show (0 : Int) ≤ _; omega) | (rw [bPair]; omega) | (rw [bInt]; omega)))))) | (refine And.intro ?_ ?_) | (intro hq; (try simp at hq); (try (exfalso; omega)); (try (revert hq; intro))))
    · rename_i _ h1
      refine loopS mx (by decide) (by kernel_rfl) (fun j : Nat => j ≤ 2 ∧ ∀ i, i < j → inR (if i = 0 then (l[k]?.getD (0, 0)).1 else (l[k]?.getD (0, 0)).2) spare = true) (fun j => [(6, .int .i64 j), (5, .int .i64 k), (0, prs l), (1, .int .i64 spare)]) (fun _ => []) (fun j => 2 - j) 0 (by simp) ⟨by ((repeat' apply And.intro) <;> (first | exact True.intro | exact NEq.refl _ | (refine NEq.int ?_; first | exact rfl | omega | (rw [wrapI (by omega)]; first | exact rfl | omega)))), trivial, .nil⟩ ?_
      intro j nv ⟨hj, hjc⟩
      obtain rfl | rfl | rfl : j = 0 ∨ j = 1 ∨ j = 2 := by omega
      · repeat' (first | (refine And.intro ?_ ?_; focus (first | first | first | exact rfl | exact trivial | exact fun _ => rfl | exact Nat.le_of_ble_eq_true rfl | exact Option.some_ne_none _ | omega | (intro hh; cases hh; done) | assumption | (show (0 : Int) ≤ _; omega) | (rw [bPair]; omega) | (rw [bInt]; omega) | exact fun hh => hh | omega | ((refine ⟨fun hh => ?_, fun hh => ?_⟩) <;> (first | exact rfl | exact beq_iff_eq.2 hh)) | ((repeat' apply And.intro) <;> (first | first | exact rfl | exact trivial | exact fun _ => rfl | exact Nat.le_of_ble_eq_true rfl | exact Option.some_ne_none _ | omega | (intro hh; cases hh; done) | assumption | (show (0 : Int) ≤ _; omega) | (rw [bPair]; omega) | (rw [bInt]; omega))) | (intro hh; first | (cases hh; done) | ((repeat' apply And.intro) <;> (first | first | exact rfl | exact trivial | exact fun _ => rfl | exact Nat.le_of_ble_eq_true rfl | exact Option.some_ne_none _ | omega | (intro hh; cases hh; done) | assumption | (show (0 : Int) ≤ _; omega) | (rw [bPair]; omega) | (rw [bInt]; omega)))))) | (refine And.intro ?_ ?_) | (intro hq; (try simp at hq); (try (exfalso; omega)); (try (revert hq; intro))))
        · rename_i _ h2
          (refine NEq.of_eq ?_; show PV.bool _ = PV.bool _; congr 1)
          rw [all_not (0, 0) h1]
          have : inR (l[k]?.getD (0, 0)).1 spare = false := by
            rw [Bool.eq_false_iff]; intro h; simp [inR] at h; omega
          simp [moveOK, this]
        · rename_i _ h2
          refine Exists.intro 1 ⟨⟨by omega, fun i hi => ?_⟩, by decide, ⟨by ((repeat' apply And.intro) <;> (first | exact True.intro | exact NEq.refl _ | (refine NEq.int ?_; first | exact rfl | omega | (rw [wrapI (by omega)]; first | exact rfl | omega)))), trivial, .nil⟩⟩
          obtain rfl : i = 0 := by omega
          simp [inR]; exact h2
      · repeat' (first | (refine And.intro ?_ ?_; focus (first | first | first | exact rfl | exact trivial | exact fun _ => rfl | exact Nat.le_of_ble_eq_true rfl | exact Option.some_ne_none _ | omega | (intro hh; cases hh; done) | assumption | (show (0 : Int) ≤ _; omega) | (rw [bPair]; omega) | (rw [bInt]; omega) | exact fun hh => hh | omega | ((refine ⟨fun hh => ?_, fun hh => ?_⟩) <;> (first | exact rfl | exact beq_iff_eq.2 hh)) | ((repeat' apply And.intro) <;> (first | first | exact rfl | exact trivial | exact fun _ => rfl | exact Nat.le_of_ble_eq_true rfl | exact Option.some_ne_none _ | omega | (intro hh; cases hh; done) | assumption | (show (0 : Int) ≤ _; omega) | (rw [bPair]; omega) | (rw [bInt]; omega))) | (intro hh; first | (cases hh; done) | ((repeat' apply And.intro) <;> (first | first | exact rfl | exact trivial | exact fun _ => rfl | exact Nat.le_of_ble_eq_true rfl | exact Option.some_ne_none _ | omega | (intro hh; cases hh; done) | assumption | (show (0 : Int) ≤ _; omega) | (rw [bPair]; omega) | (rw [bInt]; omega)))))) | (refine And.intro ?_ ?_) | (intro hq; (try simp at hq); (try (exfalso; omega)); (try (revert hq; intro))))
        · rename_i _ h2
          (refine NEq.of_eq ?_; show PV.bool _ = PV.bool _; congr 1)
          rw [all_not (0, 0) h1]
          have : inR (l[k]?.getD (0, 0)).2 spare = false := by
            rw [Bool.eq_false_iff]; intro h; simp [inR] at h; omega
          simp [moveOK, this]
        · rename_i _ h2
          refine Exists.intro 2 ⟨⟨by omega, fun i hi => ?_⟩, by decide, ⟨by ((repeat' apply And.intro) <;> (first | exact True.intro | exact NEq.refl _ | (refine NEq.int ?_; first | exact rfl | omega | (rw [wrapI (by omega)]; first | exact rfl | omega)))), trivial, .nil⟩⟩
          obtain rfl | rfl : i = 0 ∨ i = 1 := by omega
          · exact hjc 0 (by omega)
          · simp [inR]; exact h2
      · have g1 := hjc 0 (by omega)
        have g2 := hjc 1 (by omega)
        simp only [if_true] at g1
        simp only [Nat.one_ne_zero, if_false] at g2
        repeat' (first | (refine And.intro ?_ ?_; focus (first | first | first | exact rfl | exact trivial | exact fun _ => rfl | exact Nat.le_of_ble_eq_true rfl | exact Option.some_ne_none _ | omega | (intro hh; cases hh; done) | assumption | (show (0 : Int) ≤ _; omega) | (rw [bPair]; omega) | (rw [bInt]; omega) | exact fun hh => hh | omega | ((refine ⟨fun hh => ?_, fun hh => ?_⟩) <;> (first | exact rfl | exact beq_iff_eq.2 hh)) | ((repeat' apply And.intro) <;> (first | first | exact rfl | exact trivial | exact fun _ => rfl | exact Nat.le_of_ble_eq_true rfl | exact Option.some_ne_none _ | omega | (intro hh; cases hh; done) | assumption | (show (0 : Int) ≤ _; omega) | (rw [bPair]; omega) | (rw [bInt]; omega))) | (intro hh; first | (cases hh; done) | ((repeat' apply And.intro) <;> (first | first | exact rfl | exact trivial | exact fun _ => rfl | exact Nat.le_of_ble_eq_true rfl | exact Option.some_ne_none _ | omega | (intro hh; cases hh; done) | assumption | (show (0 : Int) ≤ _; omega) | (rw [bPair]; omega) | (rw [bInt]; omega)))))) | (refine And.intro ?_ ?_) | (intro hq; (try simp at hq); (try (exfalso; omega)); (try (revert hq; intro))))
        refine loopS mx (by decide) (by kernel_rfl) (fun j : Nat => j ≤ k ∧ ((l.take j).all fun q => (l[k]?.getD (0, 0)).1 != q.1) = true) (fun j => [(7, .int .i64 j), (5, .int .i64 k), (0, prs l), (1, .int .i64 spare)]) (fun _ => []) (fun j => k - j) 0 (by simp) ⟨by ((repeat' apply And.intro) <;> (first | exact True.intro | exact NEq.refl _ | (refine NEq.int ?_; first | exact rfl | omega | (rw [wrapI (by omega)]; first | exact rfl | omega)))), trivial, .nil⟩ ?_
        intro j nv ⟨hj, hjc⟩
        repeat' (first | (refine And.intro ?_ ?_; focus (first | first | first | exact rfl | exact trivial | exact fun _ => rfl | exact Nat.le_of_ble_eq_true rfl | exact Option.some_ne_none _ | omega | (intro hh; cases hh; done) | assumption | (show (0 : Int) ≤ _; omega) | (rw [bPair]; omega) | (rw [bInt]; omega) | exact fun hh => hh | omega | ((refine ⟨fun hh => ?_, fun hh => ?_⟩) <;> (first | exact rfl | exact beq_iff_eq.2 hh)) | ((repeat' apply And.intro) <;> (first | first | exact rfl | exact trivial | exact fun _ => rfl | exact Nat.le_of_ble_eq_true rfl | exact Option.some_ne_none _ | omega | (intro hh; cases hh; done) | assumption | (show (0 : Int) ≤ _; omega) | (rw [bPair]; omega) | (rw [bInt]; omega))) | (intro hh; first | (cases hh; done) | ((repeat' apply And.intro) <;> (first | first | exact rfl | exact trivial | exact fun _ => rfl | exact Nat.le_of_ble_eq_true rfl | exact Option.some_ne_none _ | omega | (intro hh; cases hh; done) | assumption | (show (0 : Int) ≤ _; omega) | (rw [bPair]; omega) | (rw [bInt]; omega)))))) | (refine And.intro ?_ ?_) | (intro hq; (try simp at hq); (try (exfalso; omega)); (try (revert hq; intro))))
        · rename_i _ h2 h3
          (refine NEq.of_eq ?_; show PV.bool _ = PV.bool _; congr 1)
          rw [all_not (0, 0) h1]
          simp only [moveOK, Bool.and_eq_false_iff]
          exact .inr (tall_not (0, 0) h2 (by omega) (by simpa using h3))
        · rename_i _ h2 h3
          refine Exists.intro (j+1) ⟨⟨by omega, ?_⟩, (by first | omega | (dsimp only; omega)), ⟨by ((repeat' apply And.intro) <;> (first | exact True.intro | exact NEq.refl _ | (refine NEq.int ?_; first | exact rfl | omega | (rw [wrapI (by omega)]; first | exact rfl | omega)))), trivial, .nil⟩⟩
          rw [tall_take (0, 0) (by omega), hjc]
          simpa using h3
        · rename_i _ h2
          refine Exists.intro (k+1) ⟨⟨by omega, ?_⟩, (by first | omega | (dsimp only; omega)), ⟨by ((repeat' apply And.intro) <;> (first | exact True.intro | exact NEq.refl _ | (refine NEq.int ?_; first | exact rfl | omega | (rw [wrapI (by omega)]; first | exact rfl | omega)))), trivial, .nil⟩⟩
          obtain rfl : j = k := by omega
          rw [all_take (0, 0) h1, hc]
          simp only [moveOK, g1, g2, hjc, Bool.and_self]
    · rename_i _ h1
      (refine NEq.of_eq ?_; show PV.bool _ = PV.bool _; congr 1)
      rw [List.take_of_length_le (by simpa using h1)] at hc
      rw [hc]
end Go.Ab
/- Sets of registers. -/
namespace Go.Ab
open Go.Proofs
set_option maxRecDepth 100000
set_option maxHeartbeats 1000000

theorem cW : Try.prog.cellsOf 77 = 1 := by kernel_rfl
def setC (ws : Nat → Nat) : Nat → PV := fun o => .int .u64 (ws o)
def bitW (ws : Nat → Nat) (r : Nat) : Bool := (ws (r / 64)).testBit (r % 64)

theorem wrap64_div {r : Nat} (hr : r < 1000) : IntKind.i64.wrap ((r : Int).tdiv 64) = ((r / 64 : Nat) : Int) := by
  have h : (r : Int).tdiv 64 = ((r / 64 : Nat) : Int) := by
    rw [Int.tdiv_eq_ediv_of_nonneg (by omega)]; rfl
  rw [h, IntKind.wrap_i64]; omega
theorem tmod64 (r : Nat) : (r : Int).tmod 64 = ((r % 64 : Nat) : Int) := by
  rw [Int.tmod_eq_emod_of_nonneg (by omega)]; rfl
theorem wrapU {n : Int} (h0 : 0 ≤ n) (h1 : n < 18446744073709551616) : IntKind.u64.wrap n = n := by
  simp [IntKind.wrap, IntKind.bits, IntKind.signed]; omega
theorem bit_at {w j : Nat} (hw : w < 18446744073709551616) (hj : j < 64) : (IntKind.u64.wrap ((BitVec.ofInt IntKind.u64.bits ((w : Int).fdiv (2 ^ min j IntKind.u64.bits)) &&& BitVec.ofInt IntKind.u64.bits 1).toNat : Int) == 1) = w.testBit j := by
  have hb : IntKind.u64.bits = 64 := rfl
  rw [hb, Nat.min_eq_left (by omega)]
  have h1 : (w : Int).fdiv (2 ^ j) = ((w / 2 ^ j : Nat) : Int) := by
    rw [Int.fdiv_eq_ediv_of_nonneg _ (by exact_mod_cast Nat.zero_le _)]
    norm_cast
  have h2 : BitVec.ofInt 64 ((w : Int).fdiv (2 ^ j)) = BitVec.ofNat 64 (w / 2 ^ j) := by rw [h1]; exact BitVec.ofInt_natCast ..
  have h3 : BitVec.ofInt 64 1 = BitVec.ofNat 64 1 := rfl
  have hlt : w / 2 ^ j < 2 ^ 64 := Nat.lt_of_le_of_lt (Nat.div_le_self ..) hw
  rw [h2, h3, BitVec.toNat_and, BitVec.toNat_ofNat, BitVec.toNat_ofNat, Nat.mod_eq_of_lt hlt]
  have h4 : w / 2 ^ j &&& 1 % 2 ^ 64 = (w / 2 ^ j) % 2 := by
    rw [show (1 % 2 ^ 64 : Nat) = 2 ^ 1 - 1 from rfl, Nat.and_two_pow_sub_one_eq_mod]
  rw [h4]
  have hm : (w / 2 ^ j) % 2 < 2 := Nat.mod_lt _ (by decide)
  rw [wrapU (by omega) (by omega), Nat.testBit_eq_decide_div_mod_eq]
  rw [Bool.eq_iff_iff]
  simp only [beq_iff_eq, decide_eq_true_eq]
  omega

theorem setHas_spec (ws : Nat → Nat) (hw : ∀ o, ws o < 18446744073709551616) (r : Nat) (hr : r < 256) : CallsF Try.prog 43 [.fptr 4 (setC ws) 0, .int .i64 r] (.bool (bitW ws r)) := by
  have e1 := wrap64_div (r := r) (by omega)
  have e2 := tmod64 r
  refine callsF_ofS mx Try.call43 Try.func43 rfl Try.ntmps43 Try.results43 (by kernel_rfl) (by simp) fun lo => ?_
  repeat' (first | (refine And.intro ?_ ?_; focus (first | first | first | exact rfl | exact trivial | exact fun _ => rfl | exact Nat.le_of_ble_eq_true rfl | exact Option.some_ne_none _ | omega | (intro hh; cases hh; done) | assumption | (show (0 : Int) ≤ _; omega) | (rw [bPair]; omega) | (rw [bInt]; omega) | exact fun hh => hh | omega | ((refine ⟨fun hh => ?_, fun hh => ?_⟩) <;> (first | exact rfl | exact beq_iff_eq.2 hh)) | ((repeat' apply And.intro) <;> (first | first | exact rfl | exact trivial | exact fun _ => rfl | exact Nat.le_of_ble_eq_true rfl | exact Option.some_ne_none _ | omega | (intro hh; cases hh; done) | assumption | (show (0 : Int) ≤ _; omega) | (rw [bPair]; omega) | (rw [bInt]; omega))) | (intro hh; first | (cases hh; done) | ((repeat' apply And.intro) <;> (first | first | exact rfl | exact trivial | exact fun _ => rfl | exact Nat.le_of_ble_eq_true rfl | exact Option.some_ne_none _ | omega | (intro hh; cases hh; done) | assumption | (show (0 : Int) ≤ _; omega) | (rw [bPair]; omega) | (rw [bInt]; omega)))))) | (refine And.intro ?_ ?_) | (intro hq; (try simp at hq); (try (exfalso; omega)); (try (revert hq; intro))))
  all_goals first | (rw [cW, e1]; simp; omega) | (rw [cW]; omega) | skip
  · (refine NEq.of_eq ?_; show PV.bool _ = PV.bool _; congr 1)
    rw [e1, e2, cW]
    simp only [Int.toNat_natCast, Nat.zero_add, Nat.mul_one]
    exact bit_at (hw _) (Nat.mod_lt _ (by decide))

/-- The registers of a set below one. -/
def listW (ws : Nat → Nat) (n : Nat) : List Int := ((List.range n).filter (bitW ws)).map Int.ofNat
theorem listW_yes {ws : Nat → Nat} {k : Nat} (h : bitW ws k = true) : listW ws (k + 1) = listW ws k ++ [(k : Int)] := by
  simp [listW, List.range_succ, List.filter_append, h]
theorem listW_no {ws : Nat → Nat} {k : Nat} (h : bitW ws k = false) : listW ws (k + 1) = listW ws k := by
  simp [listW, List.range_succ, List.filter_append, h]
theorem listW_len (ws : Nat → Nat) (k : Nat) : (listW ws k).length ≤ k := by
  unfold listW
  rw [List.length_map]
  exact Nat.le_trans (List.length_filter_le ..) (by simp)

theorem setList_spec (ws : Nat → Nat) (hw : ∀ o, ws o < 18446744073709551616) : CallsO Try.prog 40 [.fptr 4 (setC ws) 0] (oints (listW ws 250)) (fun id ver => .ref id ver [] 1 0 (listW ws 250).length) := by
  refine callsO_ofS mx Try.call40 Try.func40 rfl Try.ntmps40 Try.results40 (by kernel_rfl) (by simp) fun lo => ?_
  refine ghostS 3 (1, 1000) (by decide) 1 (fun _ _ => .undef) rfl (L' := []) (by simp [lkH]) fun v => ?_
  refine loopS2 mx (by decide) (by kernel_rfl) (fun (k v : Nat) => k ≤ 250) (fun k v => [(5, .int .i64 k), (3, .ref (1, 1000) v [] 1 0 (listW ws k).length), (0, .fptr 4 (setC ws) 0)]) (fun k v => [((1, 1000), ⟨v, oints (listW ws k)⟩)]) (fun k v => 250 - k) 0 v (by simp) ⟨?_, ?_, .nil⟩ ?_
  · exact ⟨.refl _, .refs rfl rfl rfl, .refl _, trivial⟩
  · exact ⟨⟨rfl, .owns rfl rfl fun i o hi => absurd hi (by simp [listW])⟩, trivial⟩
  intro k v nv hk
  have hkl := listW_len ws k
  repeat' (first | (refine And.intro ?_ ?_; focus (first | first | first | exact rfl | exact trivial | exact fun _ => rfl | exact Nat.le_of_ble_eq_true rfl | exact Option.some_ne_none _ | omega | (intro hh; cases hh; done) | assumption | (show (0 : Int) ≤ _; omega) | (rw [bPair]; omega) | (rw [bInt]; omega) | exact fun hh => hh | omega | ((refine ⟨fun hh => ?_, fun hh => ?_⟩) <;> (first | exact rfl | exact beq_iff_eq.2 hh)) | ((repeat' apply And.intro) <;> (first | first | exact rfl | exact trivial | exact fun _ => rfl | exact Nat.le_of_ble_eq_true rfl | exact Option.some_ne_none _ | omega | (intro hh; cases hh; done) | assumption | (show (0 : Int) ≤ _; omega) | (rw [bPair]; omega) | (rw [bInt]; omega))) | (intro hh; first | (cases hh; done) | ((repeat' apply And.intro) <;> (first | first | exact rfl | exact trivial | exact fun _ => rfl | exact Nat.le_of_ble_eq_true rfl | exact Option.some_ne_none _ | omega | (intro hh; cases hh; done) | assumption | (show (0 : Int) ≤ _; omega) | (rw [bPair]; omega) | (rw [bInt]; omega)))))) | (refine And.intro ?_ ?_) | (intro hq; (try simp at hq); (try (exfalso; omega)); (try (revert hq; intro))))
  · rename_i hlt
    refine CallS.frozen (.bool (bitW ws k)) (setHas_spec ws hw k (by omega)) (plainAll rfl) ?_
    repeat' (first | (refine And.intro ?_ ?_; focus (first | first | first | exact rfl | exact trivial | exact fun _ => rfl | exact Nat.le_of_ble_eq_true rfl | exact Option.some_ne_none _ | omega | (intro hh; cases hh; done) | assumption | (show (0 : Int) ≤ _; omega) | (rw [bPair]; omega) | (rw [bInt]; omega) | exact fun hh => hh | omega | ((refine ⟨fun hh => ?_, fun hh => ?_⟩) <;> (first | exact rfl | exact beq_iff_eq.2 hh)) | ((repeat' apply And.intro) <;> (first | first | exact rfl | exact trivial | exact fun _ => rfl | exact Nat.le_of_ble_eq_true rfl | exact Option.some_ne_none _ | omega | (intro hh; cases hh; done) | assumption | (show (0 : Int) ≤ _; omega) | (rw [bPair]; omega) | (rw [bInt]; omega))) | (intro hh; first | (cases hh; done) | ((repeat' apply And.intro) <;> (first | first | exact rfl | exact trivial | exact fun _ => rfl | exact Nat.le_of_ble_eq_true rfl | exact Option.some_ne_none _ | omega | (intro hh; cases hh; done) | assumption | (show (0 : Int) ≤ _; omega) | (rw [bPair]; omega) | (rw [bInt]; omega)))))) | (refine And.intro ?_ ?_) | (intro hq; (try simp at hq); (try (exfalso; omega)); (try (revert hq; intro))))
    · rename_i hb
      refine Exists.intro (oints [(k : Int)]) (And.intro ?_ (And.intro (by first | rfl | exact shape_prs (by simp) | exact shape_ints (by simp)) ?_))
      · refine NEq.owns rfl rfl fun i o hi ho => ?_
        obtain rfl : i = 0 := by simpa using hi
        obtain rfl : o = 0 := by omega
        exact .refl _
      repeat' (first | (refine And.intro ?_ ?_; focus (first | first | first | exact rfl | exact trivial | exact fun _ => rfl | exact Nat.le_of_ble_eq_true rfl | exact Option.some_ne_none _ | omega | (intro hh; cases hh; done) | assumption | (show (0 : Int) ≤ _; omega) | (rw [bPair]; omega) | (rw [bInt]; omega) | exact fun hh => hh | omega | ((refine ⟨fun hh => ?_, fun hh => ?_⟩) <;> (first | exact rfl | exact beq_iff_eq.2 hh)) | ((repeat' apply And.intro) <;> (first | first | exact rfl | exact trivial | exact fun _ => rfl | exact Nat.le_of_ble_eq_true rfl | exact Option.some_ne_none _ | omega | (intro hh; cases hh; done) | assumption | (show (0 : Int) ≤ _; omega) | (rw [bPair]; omega) | (rw [bInt]; omega))) | (intro hh; first | (cases hh; done) | ((repeat' apply And.intro) <;> (first | first | exact rfl | exact trivial | exact fun _ => rfl | exact Nat.le_of_ble_eq_true rfl | exact Option.some_ne_none _ | omega | (intro hh; cases hh; done) | assumption | (show (0 : Int) ≤ _; omega) | (rw [bPair]; omega) | (rw [bInt]; omega)))))) | (refine And.intro ?_ ?_) | (intro hq; (try simp at hq); (try (exfalso; omega)); (try (revert hq; intro))))
      refine Exists.intro (oints (listW ws k ++ [(k : Int)])) (And.intro ?_ (And.intro (by first | rfl | exact shape_prs (by simp) | exact shape_ints (by simp)) ?_))
      · exact app_ints rfl rfl (fun i o hi ho => by (try dsimp only); rw [if_pos hi]; exact .refl _) (fun i o hi ho => by (try dsimp only); rw [if_neg (by omega), Nat.add_sub_cancel_left]; (try rw [cellV_pcell]); simp only [Nat.zero_add]; exact .refl _)
      repeat' (first | (refine And.intro ?_ ?_; focus (first | first | first | exact rfl | exact trivial | exact fun _ => rfl | exact Nat.le_of_ble_eq_true rfl | exact Option.some_ne_none _ | omega | (intro hh; cases hh; done) | assumption | (show (0 : Int) ≤ _; omega) | (rw [bPair]; omega) | (rw [bInt]; omega) | exact fun hh => hh | omega | ((refine ⟨fun hh => ?_, fun hh => ?_⟩) <;> (first | exact rfl | exact beq_iff_eq.2 hh)) | ((repeat' apply And.intro) <;> (first | first | exact rfl | exact trivial | exact fun _ => rfl | exact Nat.le_of_ble_eq_true rfl | exact Option.some_ne_none _ | omega | (intro hh; cases hh; done) | assumption | (show (0 : Int) ≤ _; omega) | (rw [bPair]; omega) | (rw [bInt]; omega))) | (intro hh; first | (cases hh; done) | ((repeat' apply And.intro) <;> (first | first | exact rfl | exact trivial | exact fun _ => rfl | exact Nat.le_of_ble_eq_true rfl | exact Option.some_ne_none _ | omega | (intro hh; cases hh; done) | assumption | (show (0 : Int) ≤ _; omega) | (rw [bPair]; omega) | (rw [bInt]; omega)))))) | (refine And.intro ?_ ?_) | (intro hq; (try simp at hq); (try (exfalso; omega)); (try (revert hq; intro))))
      have e := listW_yes hb
      refine Exists.intro (k+1, _) ⟨by omega, (by first | omega | (dsimp only; omega)), ⟨?_, ⟨⟨rfl, ?_⟩, trivial⟩, .nil⟩⟩
      · refine ⟨(by refine NEq.int ?_; first | exact rfl | omega | (rw [wrapI (by omega)]; first | exact rfl | omega)), .refs rfl rfl ?_, .refl _, trivial⟩
        show _ = (listW ws (k+1)).length
        rw [e, List.length_append]; rfl
      · show NEq _ (oints (listW ws (k+1)))
        rw [e]; exact .refl _
    · rename_i hb
      have e := listW_no hb
      refine Exists.intro (k+1, _) ⟨by omega, (by first | omega | (dsimp only; omega)), ⟨?_, ⟨⟨rfl, ?_⟩, trivial⟩, .nil⟩⟩
      · refine ⟨(by refine NEq.int ?_; first | exact rfl | omega | (rw [wrapI (by omega)]; first | exact rfl | omega)), .refs rfl rfl ?_, .refl _, trivial⟩
        show _ = (listW ws (k+1)).length
        rw [e]
      · show NEq _ (oints (listW ws (k+1)))
        rw [e]; exact .refl _
  · rename_i hlt
    obtain rfl : k = 250 := by omega
    exact .inl ⟨(1, 1000), _, oints (listW ws 250), rfl, [], (fun j => by simp only [lkH]; split <;> rfl), fun id ver => ⟨.refs rfl rfl rfl, KpR_ints⟩⟩
end Go.Ab
namespace Go.Ab
open Classical
open Go.Proofs
set_option maxRecDepth 100000
set_option maxHeartbeats 1000000

def bitsK {β : Type} (ws : Nat → Nat) : Nat → List Int → (List Int → β) → β
  | 0, acc, k => k acc
  | r + 1, acc, k => match bitW ws r with
    | true => bitsK ws r (Int.ofNat r :: acc) k
    | false => bitsK ws r acc k
theorem bitsK_eq {β : Type} (ws : Nat → Nat) : ∀ (n : Nat) (acc : List Int) (k : List Int → β), bitsK ws n acc k = k (listW ws n ++ acc) := by
  intro n
  induction n with
  | zero => intro acc k; rfl
  | succ n ih =>
    intro acc k
    unfold bitsK
    cases h : bitW ws n with
    | true => simp only [ih, listW_yes h, List.append_assoc, List.singleton_append]; rfl
    | false => simp only [ih, listW_no h]

def wordX {β : Type} (x : PV) (k : Nat → Option β) : Option β := match x with
  | .int ik z => match ik with
    | .u64 => match z with
      | .ofNat m => match Nat.blt m 18446744073709551616 with
        | true => natK m k
        | false => none
      | .negSucc _ => none
    | _ => none
  | _ => none
theorem wordX_iff {β : Type} {x : PV} {k : Nat → Option β} {y : β} (h : wordX x k = some y) : ∃ m : Nat, x = .int .u64 m ∧ m < 18446744073709551616 ∧ k m = some y := by
  unfold wordX at h
  split at h
  · split at h
    · split at h
      · split at h
        · rename_i hb
          exact ⟨_, rfl, by simpa [Nat.blt_eq] using hb, by rwa [natK_eq] at h⟩
        · cases h
      · cases h
    · cases h
  · cases h
def ws4 (a b c d : Nat) : Nat → Nat
  | 0 => a
  | 1 => b
  | 2 => c
  | 3 => d
  | _ => 0
def cellsX {β : Type} (x : PV) (H : HT) (k : (Nat → PV) → Option β) : Option β := match x with
  | .fptr sz c o => match o with
    | 0 => match Nat.beq sz 4 with
      | true => k c
      | false => none
    | _ => none
  | .ptr r v p i o => match o with
    | 0 => match H.roots r with
      | some ⟨v', node⟩ => match Nat.beq v' v with
        | true => match getAt node p with
          | .own sz _ f => match Nat.beq sz 4 with
            | true => k (f i)
            | false => none
          | .obox sz c => match Nat.beq sz 4 with
            | true => k c
            | false => none
          | _ => none
        | false => none
      | none => none
    | _ => none
  | _ => none
theorem cellsX_iff {β : Type} {x : PV} {H : HT} {k : (Nat → PV) → Option β} {y : β} {hp : Hp} (hh : lkH hp = H.roots) (h : cellsX x H k = some y) : ∃ c, k c = some y ∧ (view 9 hp x = .fptr 4 c 0 ∨ view 9 hp x = .fptr 4 (fun j => view 8 hp (c j)) 0) := by
  unfold cellsX at h
  split at h
  · split at h
    · split at h
      · rename_i hb
        obtain rfl := Nat.eq_of_beq_eq_true hb
        exact ⟨_, h, .inl rfl⟩
      · cases h
    · cases h
  · split at h
    · split at h
      · rename_i hr
        split at h
        · rename_i hb
          obtain rfl := Nat.eq_of_beq_eq_true hb
          split at h
          · split at h
            · rename_i hg _ hb
              obtain rfl := Nat.eq_of_beq_eq_true hb
              refine ⟨_, h, .inr ?_⟩
              rw [view, hh, hr]
              simp only [if_true]
              rw [hg]
            · cases h
          · split at h
            · rename_i hg _ hb
              obtain rfl := Nat.eq_of_beq_eq_true hb
              refine ⟨_, h, .inr ?_⟩
              rw [view, hh, hr]
              simp only [if_true]
              rw [hg]
            · cases h
          · cases h
        · cases h
      · cases h
    · cases h
  · cases h

def listX {β : Type} (ags : List PV) (H : HT) (nv : Nat) (k : PV → HT → Nat → Option β) : Option β := match ags with
  | [x] => cellsX x H fun c => wordX (c 0) fun w0 => wordX (c 1) fun w1 => wordX (c 2) fun w2 => wordX (c 3) fun w3 => bitsK (ws4 w0 w1 w2 w3) 250 [] fun l => natK l.length fun n => natK (nv + 1) fun lv => match Nat.blt lv 1000000000 with
    | true => H.putK (lv, 999998) (some ⟨nv, .own 1 n fun i _ => .int .i64 (l.getD i 0)⟩) fun H => k (.ref (lv, 999998) nv [] 1 0 n) H lv
    | false => none
  | _ => none

/-- Where 'list' is known. -/
def ovL {β : Type} (call : CallX β) : CallX β := fun f ags H nv k => match Nat.beq f 40 with
  | true => listX ags H nv k
  | false => call f ags H nv k

theorem ovL_ok {β : Type} (call : CallX β) (h : CallOK Try.prog call) : CallOK Try.prog (ovL call) := by
  intro f ags H nv k y hl hk
  unfold ovL at hk
  split at hk
  · rename_i hf
    obtain rfl := Nat.eq_of_beq_eq_true hf
    obtain ⟨hp, hh⟩ := hl
    unfold listX at hk
    split at hk
    · rename_i x
      obtain ⟨c, hk, hv⟩ := cellsX_iff hh hk
      obtain ⟨w0, e0, l0, hk⟩ := wordX_iff hk
      obtain ⟨w1, e1, l1, hk⟩ := wordX_iff hk
      obtain ⟨w2, e2, l2, hk⟩ := wordX_iff hk
      obtain ⟨w3, e3, l3, hk⟩ := wordX_iff hk
      rw [bitsK_eq, List.append_nil, natK_eq, natK_eq] at hk
      split at hk
      · rename_i hb
        obtain ⟨H', h1, h2⟩ := HT.putK_spec H (nv + 1, 999998) (some ⟨nv, .own 1 (listW (ws4 w0 w1 w2 w3) 250).length fun i _ => .int .i64 ((listW (ws4 w0 w1 w2 w3) 250).getD i 0)⟩) (fun H => k (.ref (nv + 1, 999998) nv [] 1 0 (listW (ws4 w0 w1 w2 w3) 250).length) H (nv + 1)) (by simpa [Nat.blt_eq] using hb)
        rw [h1] at hk
        have hcell : ∀ j, j < 4 → c j = setC (ws4 w0 w1 w2 w3) j := fun j hj => by
          match j, hj with
          | 0, _ => exact e0
          | 1, _ => exact e1
          | 2, _ => exact e2
          | 3, _ => exact e3
        have hq : NEq (view 9 hp x) (.fptr 4 (setC (ws4 w0 w1 w2 w3)) 0) := by
          rcases hv with hv | hv <;> rw [hv]
          · exact .fptr fun j hj => by rw [hcell j hj]; exact .refl _
          · exact .fptr fun j hj => by rw [hcell j hj]; exact .refl _
        refine ⟨_, H', nv + 1, hk, callsX_of_O (id := (nv + 1, 999998)) (by simp) hh ((setList_spec (ws4 w0 w1 w2 w3) fun o => ?_).less (.cons hq .nil)) (fun i o hi => trivial) h2, setH hp (nv + 1, 999998) (some ⟨nv, .own 1 (listW (ws4 w0 w1 w2 w3) 250).length fun i _ => .int .i64 ((listW (ws4 w0 w1 w2 w3) 250).getD i 0)⟩), ?_⟩
        · match o with
          | 0 => exact l0
          | 1 => exact l1
          | 2 => exact l2
          | 3 => exact l3
          | _ + 4 => exact Nat.zero_lt_succ _
        · rw [h2]; funext j; rw [lookH_setH, hh]
      · cases hk
    · cases hk
  · exact h _ _ _ _ _ _ hl hk

theorem good : goodP Try.prog = true := by kernel_rfl
end Go.Ab

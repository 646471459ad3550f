/- proteuslaw21.RegsRight is true whatever the input, and the input reads as it did, where what it reads is of bulk at most 1048576. -/
import Derived.Test.YtbclepldghjacaaA5
import Derived.Test.YtbclepldghjacaaW1
set_option linter.unusedVariables false
set_option linter.unusedSimpArgs false
namespace Go.Ab
open Go.Proofs
set_option maxRecDepth 100000
set_option maxHeartbeats 4000000

theorem Check_spec (o : DO) (l : List Int) (hll : l.length ≤ 1048576) (hf : fewN o ≤ 6000) (hs : ∀ l ∈ o.descs, l.length ≤ 1048576 ∧ ∀ f ∈ l, f.small) : CallsF Try.prog 14 [.agg (dol o), ints l] (.int .i64 (chkE o l)) := by
  have hp := placed_spec o l hll hf hs
  refine callsF_ofS mx Try.call14 Try.func14 rfl Try.ntmps14 Try.results14 (by kernel_rfl) (by simp) fun lo => ?_
  repeat' (first | refine vcI ?_ | refine And.intro ?_ ?_ | (intro hq; (try simp at hq); (try (exfalso; omega)); (try (revert hq; intro))))
  rw [mk_opt]
  by_cases h : chkE o l = 0
  · rw [placedR_ok h] at hp
    refine CallS.frozen _ hp (plainAll rfl) ?_
    repeat' (first | refine vcI ?_ | refine And.intro ?_ ?_ | (intro hq; (try simp at hq); (try (exfalso; omega)); (try (revert hq; intro))))
    rw [h]; exact .refl _
  · rw [placedR_bad rfl h] at hp
    refine CallS.frozen _ hp (plainAll rfl) ?_
    repeat' (first | refine vcI ?_ | refine And.intro ?_ ?_ | (intro hq; (try simp at hq); (try (exfalso; omega)); (try (revert hq; intro))))
    exact .refl _

/-- What holds where places are right. -/
structure RightP (o : DO) (l : List Int) : Prop where
  op : OpenP o
  len : (l.length : Int) = o.regs
  inn : ∀ r, r < l.length → 0 ≤ l.getD r 0 ∧ l.getD r 0 < (l.length : Int)
  live : ∀ r, LiveP o 0 r → l.getD r 0 = r
  apart : ∀ a b, ColP o a b → a ≠ b → l.getD a 0 ≠ l.getD b 0
theorem chkE_zero {o : DO} {l : List Int} (hf : fewN o ≤ 6000) (hs : ∀ l ∈ o.descs, l.length ≤ 1048576 ∧ ∀ f ∈ l, f.small) : chkE o l = 0 ↔ RightP o l := by
  have key : ∀ (HO : OpenP o), PlacesP o l ↔ (∀ r, LiveP o 0 r → l.getD r 0 = r) ∧ ∀ a b, ColP o a b → a ≠ b → l.getD a 0 ≠ l.getD b 0 := fun HO => by
    have H := HO.fl hf hs
    have hr := H.hr
    constructor
    · intro h
      refine ⟨fun r hl => ?_, fun a b hc hab => ?_⟩
      · have h1 := (hl.lt H).1
        exact h.live (r : Int) ((mem_liveL (by omega)).2 hl)
      · rcases Nat.lt_or_gt_of_ne hab with h1 | h1
        · exact h.apart ((a : Int), (b : Int)) ((mem_collL H HO.r1).2 ⟨a, b, rfl, h1, hc⟩)
        · exact fun e => h.apart ((b : Int), (a : Int)) ((mem_collL H HO.r1).2 ⟨b, a, rfl, h1, hc.symm⟩) e.symm
    · rintro ⟨h1, h2⟩
      refine ⟨fun r hr => ?_, fun p hp => ?_⟩
      · obtain ⟨q, q1, q2, rfl⟩ := mem_listW.1 hr
        exact h1 q ((bit_wordsP _ _).1 q2)
      · obtain ⟨a, b, rfl, h3, h4⟩ := (mem_collL H HO.r1).1 hp
        exact h2 a b h4 (by omega)
  unfold chkE
  constructor
  · intro h
    by_cases HO : OpenP o
    · rw [if_pos HO] at h
      by_cases hc : (l.length : Int) = o.regs ∧ ∀ p ∈ l, regB o p = true
      · rw [if_pos hc] at h
        by_cases hP : PlacesP o l
        · obtain ⟨k1, k2⟩ := (key HO).1 hP
          refine ⟨HO, hc.1, fun r hr => ?_, k1, k2⟩
          have h5 := hc.2 (l.getD r 0) (by rw [List.getD_eq_getElem?_getD]; exact getD_mem _ hr)
          simp only [regB, Bool.and_eq_true, decide_eq_true_eq] at h5
          omega
        · rw [if_neg hP] at h; omega
      · rw [if_neg hc] at h; omega
    · rw [if_neg HO] at h; omega
  · intro h
    have hin : ∀ p ∈ l, regB o p = true := fun p hp => by
      obtain ⟨i, hi, rfl⟩ := List.mem_iff_getElem.1 hp
      have h5 := h.inn i hi
      have e : l.getD i 0 = l[i] := by simp [List.getD_eq_getElem?_getD, hi]
      rw [e] at h5
      have := h.len
      simp only [regB, Bool.and_eq_true, decide_eq_true_eq]
      omega
    rw [if_pos h.op, if_pos ⟨h.len, hin⟩, if_pos ((key h.op).2 ⟨h.live, h.apart⟩)]

/-- Values agree where registers are live. -/
def Agree (o : DO) (l one two : List Int) (k : Nat) : Prop := ∀ r, LiveP o k r → one.getD r 0 = two.getD (l.getD r 0).toNat 0
theorem getD_set {l : List Int} {i j : Nat} {v : Int} : (l.set i v).getD j 0 = if j = i ∧ i < l.length then v else l.getD j 0 := by
  simp only [List.getD_eq_getElem?_getD, List.getElem?_set]
  by_cases e : i = j
  · subst e
    by_cases h : i < l.length
    · simp [h]
    · simp [h]
  · rw [if_neg e, if_neg (fun h => e h.1.symm)]
theorem Agree.next {o : DO} {l one two : List Int} (H : FlH o) (hP : RightP o l) {k : Nat} (hk : k < o.irs.length) {k' : Int} (hg : k' ∈ goesL (o.irs.getD k default) k) (h : Agree o l one two k) (hs : setsB (o.irs.getD k default).op ≠ true) : Agree o l one two k'.toNat := fun r hl => by
  have hgo := H.go k hk k' hg
  exact h r (.step hk (k := k'.toNat) (by rw [Int.toNat_of_nonneg hgo.1]; exact hg) hl fun h1 => hs h1.1)
theorem Agree.set {o : DO} {l one two : List Int} (H : FlH o) (hP : RightP o l) (h1 : one.length = l.length) (h2 : two.length = l.length) {k : Nat} (hk : k < o.irs.length) {k' : Int} (hg : k' ∈ goesL (o.irs.getD k default) k) (h : Agree o l one two k) (hs : setsB (o.irs.getD k default).op = true) (v : Int) :
    Agree o l (one.set (o.irs.getD k default).d.toNat v) (two.set (l.getD (o.irs.getD k default).d.toNat 0).toNat v) k'.toNat := fun r hl => by
  have hgo := H.go k hk k' hg
  have hd := H.dR hk hs
  have hlen := hP.len
  have hrl := (hl.lt H).1
  obtain ⟨d, hdd⟩ : ∃ d : Nat, (o.irs.getD k default).d = (d : Int) := ⟨_, (Int.toNat_of_nonneg hd.1).symm⟩
  rw [hdd, Int.toNat_natCast]
  have hdl : d < l.length := by omega
  have hi1 := hP.inn d hdl
  have hi2 := hP.inn r (by omega)
  rw [getD_set, getD_set]
  by_cases e : r = d
  · subst e
    rw [if_pos ⟨rfl, by omega⟩, if_pos ⟨rfl, by omega⟩]
  · rw [if_neg (fun h => e h.1), if_neg]
    · exact h r (.step hk (k := k'.toNat) (by rw [Int.toNat_of_nonneg hgo.1]; exact hg) hl fun h3 => by have := h3.2; omega)
    · rintro ⟨h3, h4⟩
      refine hP.apart r d ⟨k, hk, .inr ⟨hs, .inr ⟨by rw [hdd], .inr ⟨k', hg, hl⟩⟩⟩⟩ e ?_
      omega
end Go.Ab
namespace Go.Ab
open Go.Proofs
set_option maxRecDepth 100000
set_option maxHeartbeats 1000000

/-- The first number that a set has not. -/
def FirstP (s : Nat → Nat) (p : Nat) : Prop := bitW s p = false ∧ ∀ q, q < p → bitW s q = true
theorem FirstP.eq {s : Nat → Nat} {p q : Nat} (h : FirstP s p) (k : FirstP s q) : p = q := by
  rcases Nat.lt_trichotomy p q with e | e | e
  · have := k.2 p e; rw [h.1] at this; cases this
  · exact e
  · have := h.2 q e; rw [k.1] at this; cases this
open Classical in
noncomputable def firstW (s : Nat → Nat) : Nat := if h : ∃ p, FirstP s p then Classical.choose h else 0
theorem FirstP.first {s : Nat → Nat} {p : Nat} (h : FirstP s p) : firstW s = p := by
  have he : ∃ p, FirstP s p := ⟨p, h⟩
  unfold firstW
  rw [dif_pos he]
  exact (Classical.choose_spec he).eq h

def takeS (l : List Int) (r : Int) (s : Nat → Nat) (k : Int) : Nat → Nat := if k ≠ r ∧ 0 ≤ l.getD k.toNat 0 then setW s (l.getD k.toNat 0).toNat else s
def takenW (l : List Int) (r : Int) (ks : List Int) : Nat → Nat := ks.foldl (takeS l r) fun _ => 0
theorem takenW_snoc (l : List Int) (r : Int) (ks : List Int) (k : Int) : takenW l r (ks ++ [k]) = takeS l r (takenW l r ks) k := by
  unfold takenW; rw [List.foldl_append]; rfl
theorem takeS_lt {l : List Int} {r : Int} {s : Nat → Nat} (h : ∀ o, s o < 18446744073709551616) (k : Int) : ∀ o, takeS l r s k o < 18446744073709551616 := by
  unfold takeS
  split
  · exact setW_lt h _
  · exact h
theorem foldl_inv {α β : Type} {P : β → Prop} {f : β → α → β} (hf : ∀ b a, P b → P (f b a)) (l : List α) {b : β} (h : P b) : P (l.foldl f b) := by
  induction l generalizing b with
  | nil => exact h
  | cons a l ih => exact ih (hf _ _ h)
theorem takenW_lt (l : List Int) (r : Int) (ks : List Int) : ∀ o, takenW l r ks o < 18446744073709551616 :=
  foldl_inv (P := fun s : Nat → Nat => ∀ o, s o < 18446744073709551616) (fun _ k h => takeS_lt h k) ks (fun _ => by decide)
theorem bit_takenW (l : List Int) (r : Int) (ks : List Int) (q : Nat) : bitW (takenW l r ks) q = true ↔ ∃ k ∈ ks, k ≠ r ∧ l.getD k.toNat 0 = q := by
  have key : ∀ s, bitW (ks.foldl (takeS l r) s) q = true ↔ bitW s q = true ∨ ∃ k ∈ ks, k ≠ r ∧ l.getD k.toNat 0 = q := by
    induction ks with
    | nil => simp
    | cons k ks ih =>
      intro s
      rw [List.foldl_cons, ih]
      simp only [List.mem_cons, exists_eq_or_imp]
      have e : bitW (takeS l r s k) q = true ↔ bitW s q = true ∨ (k ≠ r ∧ l.getD k.toNat 0 = q) := by
        unfold takeS
        split
        · rename_i h
          rw [bit_setW, Bool.or_eq_true, decide_eq_true_eq]
          refine or_congr Iff.rfl ⟨fun e => ⟨h.1, by omega⟩, fun e => by omega⟩
        · rename_i h
          refine ⟨.inl, fun h2 => h2.elim id fun h3 => absurd ⟨h3.1, by omega⟩ h⟩
      rw [e, or_assoc]
  unfold takenW
  rw [key]
  simp [bitW]

/-- A list without repetition is no longer than one that has its elements. -/
theorem nodup_le {α : Type} [DecidableEq α] : ∀ {l m : List α}, l.Nodup → (∀ x ∈ l, x ∈ m) → l.length ≤ m.length
  | [], _, _, _ => Nat.zero_le _
  | a :: l, m, h, hs => by
    have hm := hs a (by simp)
    have h1 := List.nodup_cons.1 h
    have := nodup_le (m := m.erase a) h1.2 fun x hx => (List.mem_erase_of_ne (fun e => by subst e; exact h1.1 hx)).2 (hs x (List.mem_cons_of_mem _ hx))
    rw [List.length_erase_of_mem hm] at this
    have := List.length_pos_of_mem hm
    simp only [List.length_cons]
    omega
/-- Numbers that are all taken are fewer than there are registers. -/
theorem taken_few {l : List Int} {r n p : Nat} {ks : List Int} (hr : r < n) (hk : ∀ k ∈ ks, 0 ≤ k ∧ k < (n : Int)) (h : ∀ q, q < p → bitW (takenW l r ks) q = true) : p < n := by
  have h1 := nodup_le (l := (List.range p).map fun (q : Nat) => (q : Int)) (m := ((List.range n).erase r).map fun k => l.getD k 0)
    (by rw [List.Nodup, List.pairwise_map]; exact List.nodup_range.imp fun h e => h (by omega)) fun x hx => by
    obtain ⟨q, hq, rfl⟩ := List.mem_map.1 hx
    obtain ⟨k, k1, k2, k3⟩ := (bit_takenW _ _ _ _).1 (h q (List.mem_range.1 hq))
    obtain ⟨k4, k5⟩ := hk k k1
    exact List.mem_map.2 ⟨k.toNat, (List.mem_erase_of_ne (by omega)).2 (List.mem_range.2 (by omega)), k3⟩
  rw [List.length_map, List.length_map, List.length_range, List.length_erase_of_mem (List.mem_range.2 hr), List.length_range] at h1
  omega

noncomputable def plc0 (o : DO) : List Int := (liveL o 0).foldl (fun l r => l.set r.toNat r) (List.replicate o.regs.toNat (-1))
noncomputable def plcI (o : DO) (l : List Int) (r : Nat) : List Int := if 0 ≤ l.getD r 0 then l else l.set r (firstW (takenW l r (listW (colT o r) 250)))
noncomputable def plcK (o : DO) : Nat → List Int
  | 0 => plc0 o
  | k + 1 => plcI o (plcK o k) k
noncomputable def plcL (o : DO) : List Int := plcK o o.regs.toNat

/-- What holds on the way. -/
structure PlcP (o : DO) (k : Nat) (l : List Int) : Prop where
  len : l.length = o.regs.toNat
  val : ∀ a, a < l.length → l.getD a 0 = -1 ∨ (0 ≤ l.getD a 0 ∧ l.getD a 0 < (l.length : Int))
  got : ∀ a, a < k → 0 ≤ l.getD a 0
  live : ∀ r, LiveP o 0 r → l.getD r 0 = r
  apart : ∀ a b, ColP o a b → a ≠ b → 0 ≤ l.getD a 0 → l.getD a 0 ≠ l.getD b 0
theorem getD_foldset (ls : List Int) (hn : ∀ r ∈ ls, 0 ≤ r) (l : List Int) (a : Nat) : (ls.foldl (fun l r => l.set r.toNat r) l).length = l.length ∧ (ls.foldl (fun l r => l.set r.toNat r) l).getD a 0 = if (a : Int) ∈ ls ∧ a < l.length then (a : Int) else l.getD a 0 := by
  induction ls generalizing l with
  | nil => simp
  | cons r ls ih =>
    have h0 := hn r (by simp)
    obtain ⟨i1, i2⟩ := ih (fun x hx => hn x (List.mem_cons_of_mem _ hx)) (l.set r.toNat r)
    rw [List.foldl_cons, i1, i2, List.length_set, getD_set]
    refine ⟨rfl, ?_⟩
    simp only [List.mem_cons]
    by_cases hm : (a : Int) ∈ ls ∧ a < l.length
    · rw [if_pos hm, if_pos ⟨.inr hm.1, hm.2⟩]
    · rw [if_neg hm]
      by_cases e : a = r.toNat ∧ r.toNat < l.length
      · rw [if_pos e, if_pos ⟨.inl (by omega), by omega⟩]; omega
      · rw [if_neg e, if_neg]
        rintro ⟨h1 | h1, h2⟩
        · exact e ⟨by omega, by omega⟩
        · exact hm ⟨h1, h2⟩
theorem rep_get {n a : Nat} (h : a < n) : (List.replicate n (-1 : Int)).getD a 0 = -1 := by
  rw [List.getD_eq_getElem?_getD, List.getElem?_replicate, if_pos h]; rfl
theorem getD_over {l : List Int} {a : Nat} (h : ¬ a < l.length) : l.getD a 0 = 0 := by
  rw [List.getD_eq_getElem?_getD, List.getElem?_eq_none (by omega)]; rfl
theorem plc0_P {o : DO} (H : FlH o) : PlcP o 0 (plc0 o) := by
  have hlt := list_lt H 0
  have hr := H.hr
  have G := fun a => getD_foldset (liveL o 0) (fun r hr => (hlt r hr).1) (List.replicate o.regs.toNat (-1)) a
  simp only [List.length_replicate] at G
  have len : (plc0 o).length = o.regs.toNat := (G 0).1
  have hm : ∀ a : Nat, ((a : Int) ∈ liveL o 0 ∧ a < o.regs.toNat) ↔ LiveP o 0 a := fun a => by
    constructor
    · rintro ⟨h1, h2⟩; exact (mem_liveL (by omega)).1 h1
    · intro h; have := (h.lt H).1; exact ⟨(mem_liveL (by omega)).2 h, by omega⟩
  have g : ∀ a, a < o.regs.toNat → (LiveP o 0 a ∧ (plc0 o).getD a 0 = a) ∨ (¬ LiveP o 0 a ∧ (plc0 o).getD a 0 = -1) := fun a ha => by
    have h1 : (plc0 o).getD a 0 = _ := (G a).2
    by_cases h : (a : Int) ∈ liveL o 0 ∧ a < o.regs.toNat
    · rw [if_pos h] at h1; exact .inl ⟨(hm a).1 h, h1⟩
    · rw [if_neg h, rep_get ha] at h1; exact .inr ⟨fun k => h ((hm a).2 k), h1⟩
  refine ⟨len, fun a ha => ?_, fun a ha => by omega, fun r h => ?_, fun a b hc hab h0 => ?_⟩
  · rw [len] at ha ⊢
    rcases g a ha with ⟨_, h⟩ | ⟨_, h⟩
    · exact .inr (by omega)
    · exact .inl h
  · have := (h.lt H).1
    rcases g r (by omega) with ⟨_, h1⟩ | ⟨h1, _⟩
    · exact h1
    · exact absurd h h1
  · have := hc.lt H
    rcases g a (by omega) with ⟨_, h1⟩ | ⟨_, h1⟩ <;> rcases g b (by omega) with ⟨_, h2⟩ | ⟨_, h2⟩ <;> omega
theorem col_nn {o : DO} (H : FlH o) {r : Nat} (hr : r < 250) : ∀ k ∈ listW (colT o r) 250, 0 ≤ k ∧ k < ((o.regs.toNat : Nat) : Int) := fun k hk => by
  have h1 := col_lt H hr hk
  have h2 := (listW_nn k hk).1
  omega
theorem plcI_P {o : DO} (H : FlH o) {k : Nat} {l : List Int} (hk : k < o.regs.toNat) (hp : PlcP o k l) {p : Nat} (hf : FirstP (takenW l k (listW (colT o k) 250)) p) (hn : l.getD k 0 < 0) : PlcP o (k + 1) (l.set k p) := by
  have hr := H.hr
  have len := hp.len
  have hpn := taken_few hk (col_nn H (by omega)) hf.2
  have hl1 : l.getD k 0 = -1 := by rcases hp.val k (by omega) with h | h <;> omega
  have hnot : ∀ b, ColP o k b → b ≠ k → l.getD b 0 ≠ (p : Int) := fun b hc hb e => by
    have h1 : bitW (takenW l k (listW (colT o k) 250)) p = true := (bit_takenW _ _ _ _).2 ⟨(b : Int), (mem_colT H (by omega)).2 ⟨b, rfl, hc⟩, by omega, e⟩
    rw [hf.1] at h1; cases h1
  refine ⟨by rw [List.length_set]; exact len, fun a ha => ?_, fun a ha => ?_, fun r h => ?_, fun a b hc hab h0 => ?_⟩
  · rw [List.length_set] at ha ⊢
    rw [getD_set]
    by_cases e : a = k ∧ k < l.length
    · rw [if_pos e]; exact .inr (by omega)
    · rw [if_neg e]; exact hp.val a ha
  · rw [getD_set]
    by_cases e : a = k ∧ k < l.length
    · rw [if_pos e]; omega
    · rw [if_neg e]; exact hp.got a (by omega)
  · rw [getD_set, if_neg]
    · exact hp.live r h
    · rintro ⟨rfl, _⟩; have := hp.live r h; omega
  · rw [getD_set] at h0 ⊢
    rw [getD_set]
    by_cases e : a = k
    · subst e
      rw [if_pos ⟨rfl, by omega⟩, if_neg fun h => hab h.1.symm]
      exact fun e => hnot b hc (Ne.symm hab) e.symm
    · rw [if_neg fun h => e h.1] at h0 ⊢
      by_cases e2 : b = k
      · subst e2
        rw [if_pos ⟨rfl, by omega⟩]
        exact hnot a hc.symm hab
      · rw [if_neg fun h => e2 h.1]
        exact hp.apart a b hc hab h0
theorem plcI_keep {o : DO} {k : Nat} {l : List Int} (hp : PlcP o k l) (hn : 0 ≤ l.getD k 0) : PlcP o (k + 1) l :=
  ⟨hp.len, hp.val, fun a ha => by rcases (by omega : a < k ∨ a = k) with h | rfl; exact hp.got a h; exact hn, hp.live, hp.apart⟩
/-- A set that does not have all of the first numbers has a first one that it has not. -/
theorem exists_first {s : Nat → Nat} : ∀ n, (∃ q, q < n ∧ bitW s q = false) → ∃ p, FirstP s p
  | 0, h => by obtain ⟨q, h, _⟩ := h; omega
  | n + 1, h => by
    by_cases hc : ∃ q, q < n ∧ bitW s q = false
    · exact exists_first n hc
    · obtain ⟨q, q1, q2⟩ := h
      have hq : q = n := by
        rcases (by omega : q < n ∨ q = n) with h | h
        · exact absurd ⟨q, h, q2⟩ hc
        · exact h
      subst hq
      exact ⟨q, q2, fun x hx => by cases hb : bitW s x; exact absurd ⟨x, hx, hb⟩ hc; rfl⟩
theorem taken_first {o : DO} (H : FlH o) {k : Nat} {l : List Int} (hk : k < o.regs.toNat) : ∃ p, FirstP (takenW l k (listW (colT o k) 250)) p := by
  have hr := H.hr
  refine exists_first o.regs.toNat (Classical.byContradiction fun h => ?_)
  have := taken_few (l := l) (p := o.regs.toNat) hk (col_nn H (r := k) (by omega)) fun q hq => by
    cases hb : bitW (takenW l k (listW (colT o k) 250)) q
    · exact absurd ⟨q, hq, hb⟩ h
    · rfl
  omega
theorem plcK_P {o : DO} (H : FlH o) : ∀ k, k ≤ o.regs.toNat → PlcP o k (plcK o k)
  | 0, _ => plc0_P H
  | k + 1, hk => by
    have ih := plcK_P H k (by omega)
    unfold plcK plcI
    split
    · rename_i h; exact plcI_keep ih h
    · rename_i h
      obtain ⟨p, hp⟩ := taken_first (l := plcK o k) H (show k < o.regs.toNat by omega)
      rw [hp.first]
      exact plcI_P H (by omega) ih hp (by omega)
theorem plcL_right {o : DO} (HO : OpenP o) (hf : fewN o ≤ 6000) (hs : ∀ l ∈ o.descs, l.length ≤ 1048576 ∧ ∀ f ∈ l, f.small) : RightP o (plcL o) := by
  have H := HO.fl hf hs
  have h := plcK_P H o.regs.toNat (Nat.le_refl _)
  have h1 := HO.r1
  refine ⟨HO, ?_, fun r hr => ?_, h.live, fun a b hc hab => ?_⟩
  · show ((plcK o o.regs.toNat).length : Int) = _
    rw [h.len]; omega
  · rcases h.val r hr with h2 | h2
    · have := h.got r (by have := h.len; show r < _; unfold plcL at hr; omega)
      omega
    · exact h2
  · have := hc.lt H
    exact h.apart a b hc hab (h.got a (by omega))
end Go.Ab
namespace Go.Ab
open Go.Proofs
set_option maxRecDepth 100000
set_option maxHeartbeats 4000000

theorem Mul64_spec (n : Nat) (hn : n ≤ 250) : CallsF Try.prog 80 [.int .u64 1, .int .u64 n] (.tup [.int .u64 0, .int .u64 n]) := by
  refine callsF_ofS mx Try.call80 Try.func80 rfl Try.ntmps80 Try.results80 (by kernel_rfl) (by simp) fun lo => ?_
  repeat' (first | refine vcI ?_ | refine And.intro ?_ ?_ | (intro hq; (try simp at hq); (try (exfalso; omega)); (try (revert hq; intro))))
  refine NEq.tup2 (NEq.of_eq (congrArg (PV.int .u64) ?_)) (NEq.of_eq (congrArg (PV.int .u64) ?_))
  · revert n; decide +kernel
  · rw [Int.one_mul]; exact wrapU (by omega) (by omega)
theorem Mul_spec (n : Nat) (hn : n ≤ 250) : CallsF Try.prog 57 [.int .u64 1, .int .u64 n] (.tup [.int .u64 0, .int .u64 n]) := by
  have h := Mul64_spec n hn
  refine callsF_ofS mx Try.call57 Try.func57 rfl Try.ntmps57 Try.results57 (by kernel_rfl) (by simp) fun lo => ?_
  repeat' (first | refine vcI ?_ | refine And.intro ?_ ?_ | (intro hq; (try simp at hq); (try (exfalso; omega)); (try (revert hq; intro))))
  refine CallS.frozen _ h (plainAll rfl) ?_
  repeat' (first | refine vcI ?_ | refine And.intro ?_ ?_ | (intro hq; (try simp at hq); (try (exfalso; omega)); (try (revert hq; intro))))
  exact NEq.tup2 (.refl _) (.refl _)
def rptL (x : Int) (n m : Nat) : List Int := List.replicate m x ++ List.replicate (n - m) 0
theorem rptL_len (x : Int) {n m : Nat} (h : m ≤ n) : (rptL x n m).length = n := by unfold rptL; simp; omega
theorem rptL_get (x : Int) (n m i : Nat) : (rptL x n m).getD i 0 = if i < m then x else 0 := by
  unfold rptL
  rw [List.getD_eq_getElem?_getD, List.getElem?_append]
  by_cases h : i < m
  · simp [h]
  · rw [if_neg (by simpa using h), if_neg h]
    by_cases h2 : i - m < n - m
    · simp [h2]
    · rw [List.getElem?_eq_none (by simp; omega)]; rfl
theorem Repeat_spec (x : Int) (n : Nat) (h1 : 1 ≤ n) (hn : n ≤ 250) : CallsO Try.prog 39 [ints [x], .int .i64 n] (oints (List.replicate n x)) (fun id ver => .ref id ver [] 1 0 (List.replicate n x).length) := by
  have hm := Mul_spec n hn
  have hw : IntKind.u64.wrap (n : Int) = (n : Int) := wrapU (by omega) (by omega)
  have hw2 : IntKind.i64.wrap (n : Int) = (n : Int) := wrapI (by omega)
  have hw3 : IntKind.u64.wrap ((([x] : List Int).length : Nat) : Int) = 1 := by show IntKind.u64.wrap 1 = 1; decide
  refine callsO_ofS mx Try.call39 Try.func39 rfl Try.ntmps39 Try.results39 (by kernel_rfl) (by simp) fun lo => ?_
  repeat' (first | refine vcI ?_ | refine And.intro ?_ ?_ | (intro hq; (try simp at hq); (try (exfalso; omega)); (try (revert hq; intro))))
  refine CallS.plain [.int .u64 1, .int .u64 n] _ hm (LeL.cons (NEq.of_eq (congrArg (PV.int .u64) hw3)) (LeL.cons (NEq.of_eq (congrArg (PV.int .u64) hw)) LeL.nil)) (fun c hc => by rcases List.mem_cons.1 hc with rfl | hc; exact trivial; rw [List.mem_singleton] at hc; subst hc; exact trivial) ?_
  repeat' (first | refine vcI ?_ | refine And.intro ?_ ?_ | (intro hq; (try simp at hq); (try (exfalso; omega)); (try (revert hq; intro))))
  rw [hw2]
  refine Exists.intro (oints (List.replicate n 0)) (And.intro ?_ (And.intro (by first | rfl | exact shape_prs (by simp) | exact shape_ints (by simp) | exact shape_odvs (by simp)) ?_))
  · refine NEq.owns rfl (by simp) fun i o hi ho => ?_
    rw [show (List.replicate n (0 : Int)).getD i 0 = 0 by rw [List.getD_eq_getElem?_getD]; simp [List.getElem?_replicate]; split <;> rfl]
    obtain rfl : o = 0 := by omega
    exact .refl _
  have hlr : (List.replicate n (0 : Int)).length = n := by simp
  repeat' (first | refine vcI ?_ | refine And.intro ?_ ?_ | (intro hq; (try simp at hq); (try (exfalso; omega)); (try (revert hq; intro))))
  · rename_i i hi o ho
    rfl
  · rfl
  refine Exists.intro (oints (rptL x n 1)) (And.intro ?_ (And.intro ?_ ?_))
  · refine NEq.owns rfl (by rw [hlr, rptL_len x h1]) fun i o hi ho => ?_
    rw [rptL_get]
    have hz : (List.replicate n (0 : Int)).getD i 0 = 0 := by rw [List.getD_eq_getElem?_getD]; simp [List.getElem?_replicate]; split <;> rfl
    have hmin : [x].length.min ((n : Int).toNat - 0) = 1 := by show min 1 _ = 1; omega
    dsimp only
    rw [hz, hmin]
    by_cases h : i < 1
    · obtain rfl : i = 0 := by omega
      rw [if_pos ⟨by omega, by omega⟩, if_pos (by omega)]; exact .refl _
    · rw [if_neg (by omega), if_neg h]; exact .refl _
  · exact shape_ints (by rw [hlr, rptL_len x h1])
  rw [show [x].length.min ((n : Int).toNat - 0) = 1 by show min 1 _ = 1; omega]
  repeat' (first | refine vcI ?_ | refine And.intro ?_ ?_ | (intro hq; (try simp at hq); (try (exfalso; omega)); (try (revert hq; intro))))
  refine loopS2 mx (by decide) (by kernel_rfl) (fun (m v7 : Nat) => 1 ≤ m ∧ m ≤ n) (fun m v7 => [(8, .int .i64 m), (7, .ref (1, 30) v7 [] 1 0 n)]) (fun m v7 => [((1, 30), ⟨v7, oints (rptL x n m)⟩)]) (fun m v7 => n - m) 1 _ ⟨by omega, by omega⟩ ⟨by ((repeat' apply And.intro) <;> (first | exact True.intro | exact NEq.refl _ | (refine NEq.int ?_; first | exact rfl | omega | (rw [wrapI (by omega)]; first | exact rfl | omega)))), ⟨⟨rfl, .refl _⟩, trivial⟩, .nil⟩ ?_
  rintro m v7 nv ⟨hm1, hm2⟩
  have hln := rptL_len x hm2
  have hmm : (0 + (m : Int).toNat - (0 + 0)).min (0 + (n - 0) - (0 + (m : Int).toNat)) = min m (n - m) := by show min _ _ = _; omega
  have hwm : IntKind.i64.wrap ((m : Int) + ((0 + (m : Int).toNat - (0 + 0)).min (0 + (n - 0) - (0 + (m : Int).toNat)) : Nat)) = ((m + min m (n - m) : Nat) : Int) := by rw [hmm]; exact wrapI (by omega)
  repeat' (first | refine vcI ?_ | refine And.intro ?_ ?_ | (intro hq; (try simp at hq); (try (exfalso; omega)); (try (revert hq; intro))))
  · rfl
  · rw [hwm]
    refine Exists.intro (m + min m (n - m), v7) ⟨⟨by dsimp only; omega, by dsimp only; omega⟩, (by first | omega | (dsimp only; omega)), ⟨by ((repeat' apply And.intro) <;> (first | exact True.intro | exact NEq.refl _ | (refine NEq.int ?_; first | exact rfl | omega | (rw [wrapI (by omega)]; first | exact rfl | omega)))), ⟨⟨rfl, ?_⟩, trivial⟩, .nil⟩⟩
    refine NEq.owns rfl (by rw [hln, rptL_len x (by omega)]) fun i o hi ho => ?_
    rw [rptL_get]
    dsimp only
    rw [hmm]
    by_cases hc : m ≤ i ∧ i < m + min m (n - m)
    · rw [if_pos (by omega), if_pos (by omega)]
      show NEq (.int .i64 ((rptL x n m).getD _ 0)) _
      rw [rptL_get, if_pos (by omega)]; exact .refl _
    · rw [if_neg (by omega), rptL_get]
      by_cases h : i < m
      · rw [if_pos h, if_pos (by omega)]; exact .refl _
      · rw [if_neg h, if_neg (by omega)]; exact .refl _
  · obtain rfl : m = n := by omega
    rw [show rptL x m m = List.replicate m x by simp [rptL]]
    exact keepS_ints rfl (by simp)
end Go.Ab
namespace Go.Ab
open Go.Proofs
set_option maxRecDepth 100000
set_option maxHeartbeats 4000000

theorem setPut11_spec (ws : Nat → Nat) (hw : ∀ o, ws o < 18446744073709551616) (r : Nat) (hr : r < 256) (v nv : Nat) (S : Hp) (hS : Above 2 S) :
    CallsA Try.prog 42 [.ptr (1, 11) v [] 0 0, .int .i64 r] ([((1, 11), ⟨v, .obox 4 (setC ws)⟩)] ++ S) nv
      fun x hp' nv' => ∃ L', hp' = L' ++ S ∧ (x = .tup [] ∧ L' = [((1, 11), ⟨v, .obox 4 (setC (setW ws r))⟩)]) := by
  have e1 := wrap64_div (r := r) (by omega)
  have e2 := tmod64 r
  refine callsA_ofS (lv := 2) (by decide) mx Try.call42 Try.func42 rfl Try.ntmps42 Try.results42 (by kernel_rfl) (by simp) fun lo => ?_
  repeat' (first | refine vcI ?_ | refine And.intro ?_ ?_ | (intro hq; (try simp at hq); (try (exfalso; omega)); (try (revert hq; intro))))
  · rw [cW, e1]; simp; omega
  · rw [cW]; decide
  · show 0 + (IntKind.i64.wrap ((r : Int).tdiv 64)).toNat * Try.prog.cellsOf 77 + 1 ≤ 4
    rw [cW, e1]; simp; omega
  refine Exists.intro (PV.tup []) (Exists.intro _ (And.intro ⟨rfl, rfl⟩ (And.intro (.refl _) (And.intro ⟨⟨rfl, .obox fun o ho => ?_⟩, trivial⟩ (.names rfl)))))
  show NEq (if 0 + (IntKind.i64.wrap ((r : Int).tdiv 64)).toNat * Try.prog.cellsOf 77 ≤ o ∧ o < 0 + (IntKind.i64.wrap ((r : Int).tdiv 64)).toNat * Try.prog.cellsOf 77 + 1 then List.getD [PV.int .u64 (IntKind.u64.wrap ((BitVec.ofInt IntKind.u64.bits (ws (0 + (IntKind.i64.wrap ((r : Int).tdiv 64)).toNat * Try.prog.cellsOf 77) : Int) ||| BitVec.ofInt IntKind.u64.bits (IntKind.u64.wrap (1 * 2 ^ min ((r : Int).tmod 64).toNat IntKind.u64.bits))).toNat : Int))] (o - (0 + (IntKind.i64.wrap ((r : Int).tdiv 64)).toNat * Try.prog.cellsOf 77)) .undef else .int .u64 (ws o)) (.int .u64 (setW ws r o))
  rw [cW, e1, e2]
  simp only [Int.toNat_natCast, Nat.zero_add, Nat.mul_one]
  rw [or_at (hw _) (Nat.mod_lt _ (by decide))]
  by_cases c : o = r / 64
  · subst c
    rw [if_pos (by omega), Nat.sub_self]
    simp only [setW, if_true]
    exact .refl _
  · rw [if_neg (by omega)]
    simp only [setW, if_neg c]
    exact .refl _

theorem put_setI {l : List Int} {a b i : Nat} {c : PV} {v : Int} (hi : i < l.length) (hb : b < 1) (hc : NEq c (.int .i64 v)) : NEq (if a = i ∧ 0 ≤ b ∧ b < 0 + 1 then List.getD [c] (b - 0) .undef else .int .i64 (l.getD a 0)) (.int .i64 ((l.set i v).getD a 0)) := by
  obtain rfl : b = 0 := by omega
  rw [getD_set]
  by_cases e : a = i
  · rw [if_pos ⟨e, by omega, by omega⟩, if_pos ⟨e, hi⟩]; exact hc
  · rw [if_neg (fun h => e h.1), if_neg (fun h => e h.1)]; exact .refl _
theorem view_at {hp : Hp} {r : RId} {v k n i : Nat} {W : Nat → Nat → Nat} (h : lkH hp r = some ⟨v, owW n W⟩) : NEq (view (k + 2) hp (.ptr r v [] i 0)) (.fptr 4 (setC (W i)) 0) := by
  rw [view, h]
  simp only [if_true, getAt, owW]
  exact NEq.fptr fun o ho => .refl _
noncomputable def plc0K (o : DO) (k : Nat) : List Int := ((liveL o 0).take k).foldl (fun l r => l.set r.toNat r) (List.replicate o.regs.toNat (-1))
theorem plc0K_len (o : DO) (k : Nat) : (plc0K o k).length = o.regs.toNat := by
  have h := (getD_foldset ((liveL o 0).take k) (fun r hr => (listW_nn (s := lvW o 0) (n := 250) r (List.mem_of_mem_take hr)).1) (List.replicate o.regs.toNat (-1)) 0).1
  unfold plc0K
  rw [h]; simp
theorem plc0K_succ (o : DO) {k : Nat} (hk : k < (liveL o 0).length) : plc0K o (k + 1) = (plc0K o k).set ((liveL o 0).getD k 0).toNat ((liveL o 0).getD k 0) := by
  unfold plc0K; rw [take_succD 0 hk, List.foldl_append]; rfl
open Classical in
noncomputable def plcE (o : DO) : List Int × Int := if OpenP o then (plcL o, 0) else ([], 210)
def mem58 (n : Nat) (l : List Int) (W : Nat → Nat → Nat) (v6 v9 : Nat) : Hp := [((1, 26), ⟨v6, oints l⟩), ((1, 44), ⟨v9, owW n W⟩)]
theorem Places_spec (o : DO) (hf : fewN o ≤ 6000) (hs : ∀ l ∈ o.descs, l.length ≤ 1048576 ∧ ∀ f ∈ l, f.small) : CallsF Try.prog 13 [.agg (dol o)] (ansE (plcE o)) := by
  have ho := open_spec o hf hs
  refine callsF_ofS mx Try.call13 Try.func13 rfl Try.ntmps13 Try.results13 (by kernel_rfl) (by simp) fun lo => ?_
  repeat' (first | refine vcI ?_ | refine And.intro ?_ ?_ | (intro hq; (try simp at hq); (try (exfalso; omega)); (try (revert hq; intro))))
  rw [mk_opt]
  by_cases HO : OpenP o
  · rw [openR_ok HO] at ho
    refine CallS.frozen (.tup [codeP o (frW o.irs.length fun i => wordsP (LiveP o i)), .int .i64 0]) ho (plainAll rfl) ?_
    have H := HO.fl hf hs
    have hrr := H.hr
    have hr1 := HO.r1
    obtain ⟨n, hn⟩ : ∃ n : Nat, o.regs = (n : Int) := ⟨o.regs.toNat, (Int.toNat_of_nonneg (by omega)).symm⟩
    have hnt : o.regs.toNat = n := by omega
    have htg := together_spec o H hr1
    rw [hnt] at htg
    repeat' (first | refine vcI ?_ | refine And.intro ?_ ?_ | (intro hq; (try simp at hq); (try (exfalso; omega)); (try (revert hq; intro))))
    refine Exists.intro (oints [-1]) (And.intro ?_ (And.intro (by first | rfl | exact shape_prs (by simp) | exact shape_ints (by simp) | exact shape_odvs (by simp)) ?_))
    · exact one_ints _ rfl rfl (.refl _)
    repeat' (first | refine vcI ?_ | refine And.intro ?_ ?_ | (intro hq; (try simp at hq); (try (exfalso; omega)); (try (revert hq; intro))))
    refine CallS.ownInts [ints [-1], .int .i64 n] (List.replicate n (-1)) (Repeat_spec (-1) n (by omega) (by omega)) (LeL.cons (view_ints (k := 7) rfl rfl) (LeL.cons (NEq.of_eq (congrArg (PV.int .i64) hn)) LeL.nil)) ?_
    repeat' (first | refine vcI ?_ | refine And.intro ?_ ?_ | (intro hq; (try simp at hq); (try (exfalso; omega)); (try (revert hq; intro))))
    · have := HO.ne; omega
    rw [List.length_replicate]
    refine CallS.ownInts [.fptr 4 (setC (lvW o 0)) 0] (liveL o 0) (setList_spec (lvW o 0) (lvW_lt o 0)) (LeL.cons (.refl _) LeL.nil) ?_
    repeat' (first | refine vcI ?_ | refine And.intro ?_ ?_ | (intro hq; (try simp at hq); (try (exfalso; omega)); (try (revert hq; intro))))
    have hll0 : (liveL o 0).length ≤ 250 := listW_len _ _
    have hlt0 : ∀ j, j < (liveL o 0).length → 0 ≤ (liveL o 0).getD j 0 ∧ (liveL o 0).getD j 0 < (n : Int) := fun j hj => by
      have h1 := list_lt H 0 ((liveL o 0).getD j 0) (by rw [List.getD_eq_getElem?_getD]; exact getD_mem _ hj)
      omega
    have e0 : plc0K o 0 = List.replicate n (-1) := by unfold plc0K; rw [hnt]; rfl
    refine loopS3 mx (by decide) (by kernel_rfl) (fun (k v32 v6 : Nat) => k ≤ (liveL o 0).length) (fun k v32 v6 => [(34, .int .i64 k), (33, .int .i64 (liveL o 0).length), (32, .ref (1, 32) v32 [] 1 0 (liveL o 0).length), (6, .ref (1, 26) v6 [] 1 0 n), (5, .int .i64 0), (4, codeP o (frW o.irs.length fun i => wordsP (LiveP o i)))]) (fun k v32 v6 => [((1, 32), ⟨v32, oints (liveL o 0)⟩), ((1, 26), ⟨v6, oints (plc0K o k)⟩)]) (fun k v32 v6 => (liveL o 0).length - k) 0 _ _ (by simp) ⟨by ((repeat' apply And.intro) <;> (first | exact True.intro | exact NEq.refl _ | (refine NEq.int ?_; first | exact rfl | omega | (rw [wrapI (by omega)]; first | exact rfl | omega)))), ⟨⟨rfl, .refl _⟩, ⟨rfl, NEq.of_eq (by rw [e0])⟩, trivial⟩, .nil⟩ ?_
    intro k v32 v6 nv hk
    have ek : 0 + (k : Int).toNat = k := by omega
    have hwk : IntKind.i64.wrap ((k : Int) + 1) = ((k + 1 : Nat) : Int) := wrapI (by omega)
    repeat' (first | refine vcI ?_ | refine And.intro ?_ ?_ | (intro hq; (try simp at hq); (try (exfalso; omega)); (try (revert hq; intro))))
    · rw [ek]; exact (hlt0 k (by assumption)).1
    · rw [ek]; have := (hlt0 k (by assumption)).2; omega
    · rfl
    · have hkl : k < (liveL o 0).length := by assumption
      have hlk := hlt0 k hkl
      rw [ek]
      refine Exists.intro (oints (plc0K o (k + 1))) (And.intro (NEq.owns rfl ((plc0K_len o k).trans (plc0K_len o (k + 1)).symm) fun a b ha hb => ?_) (And.intro (shape_ints ((plc0K_len o k).trans (plc0K_len o (k + 1)).symm)) ?_))
      · rw [plc0K_succ o hkl, show 0 + ((liveL o 0).getD k 0).toNat = ((liveL o 0).getD k 0).toNat from Nat.zero_add _]
        exact put_setI (l := plc0K o k) (i := ((liveL o 0).getD k 0).toNat) (by have := plc0K_len o k; omega) hb (.refl _)
      repeat' (first | refine vcI ?_ | refine And.intro ?_ ?_ | (intro hq; (try simp at hq); (try (exfalso; omega)); (try (revert hq; intro))))
      exact Exists.intro (k + 1, v32, v6) ⟨by dsimp only; omega, (by first | omega | (dsimp only; omega)), ⟨by ((repeat' apply And.intro) <;> (first | exact True.intro | exact NEq.refl _ | (refine NEq.int ?_; first | exact rfl | omega | (rw [wrapI (by omega)]; first | exact rfl | omega)))), ⟨⟨rfl, .refl _⟩, ⟨rfl, .refl _⟩, trivial⟩, .nil⟩⟩
    obtain rfl : k = (liveL o 0).length := by omega
    repeat' (first | refine vcI ?_ | refine And.intro ?_ ?_ | (intro hq; (try simp at hq); (try (exfalso; omega)); (try (revert hq; intro))))
    refine CallS.own (owW n (colT o)) (fun id ver => .ref id ver [] 4 0 n) htg (plainAll rfl) ?_
    repeat' (first | refine vcI ?_ | refine And.intro ?_ ?_ | (intro hq; (try simp at hq); (try (exfalso; omega)); (try (revert hq; intro))))
    rw [show plc0K o (liveL o 0).length = plcK o 0 by unfold plc0K plcK plc0; rw [List.take_length]]
    have hP : ∀ k, k ≤ o.regs.toNat → PlcP o k (plcK o k) := fun k hk => plcK_P H k hk
    have hln : ∀ k, k ≤ n → (plcK o k).length = n := fun k hk => by rw [(hP k (by omega)).len, hnt]
    refine loopS3 mx (by decide) (by kernel_rfl) (fun (k v6 v9 : Nat) => k ≤ n) (fun k v6 v9 => [(47, .int .i64 k), (46, .int .i64 n), (9, .ref (1, 44) v9 [] 4 0 n), (6, .ref (1, 26) v6 [] 1 0 n), (5, .int .i64 0), (4, codeP o (frW o.irs.length fun i => wordsP (LiveP o i)))]) (fun k v6 v9 => mem58 n (plcK o k) (colT o) v6 v9) (fun k v6 v9 => n - k) 0 _ _ (by simp) ⟨by ((repeat' apply And.intro) <;> (first | exact True.intro | exact NEq.refl _ | (refine NEq.int ?_; first | exact rfl | omega | (rw [wrapI (by omega)]; first | exact rfl | omega)))), ⟨⟨rfl, .refl _⟩, ⟨rfl, .refl _⟩, trivial⟩, .nil⟩ ?_
    intro k v6 v9 nv hk
    have ek : 0 + (k : Int).toNat = k := by omega
    have hwk : IntKind.i64.wrap ((k : Int) + 1) = ((k + 1 : Nat) : Int) := wrapI (by omega)
    have hlk := hln k hk
    repeat' (first | refine vcI ?_ | refine And.intro ?_ ?_ | (intro hq; (try simp at hq); (try (exfalso; omega)); (try (revert hq; intro))))
    · have hge : 0 ≤ (plcK o k).getD k 0 := by assumption
      have hkn : k < n := by assumption
      refine Exists.intro (k + 1, v6, v9) ⟨by dsimp only; omega, (by first | omega | (dsimp only; omega)), ⟨by ((repeat' apply And.intro) <;> (first | exact True.intro | exact NEq.refl _ | (refine NEq.int ?_; first | exact rfl | omega | (rw [wrapI (by omega)]; first | exact rfl | omega)))), ⟨⟨rfl, NEq.of_eq ?_⟩, ⟨rfl, .refl _⟩, trivial⟩, .nil⟩⟩
      show oints (plcK o k) = oints (plcI o (plcK o k) k)
      unfold plcI; rw [if_pos hge]
    · have hlt : (plcK o k).getD k 0 < 0 := by assumption
      have hkn : k < n := by assumption
      have hPk := hP k (by omega)
      refine CallS.ownInts [.fptr 4 (setC (colT o (0 + (k : Int).toNat))) 0] (listW (colT o (0 + (k : Int).toNat)) 250) (setList_spec _ (togW_lt o _ _)) (LeL.cons (view_at (k := 7) rfl) LeL.nil) ?_
      rw [ek]
      repeat' (first | refine vcI ?_ | refine And.intro ?_ ?_ | (intro hq; (try simp at hq); (try (exfalso; omega)); (try (revert hq; intro))))
      obtain ⟨ks, hks⟩ : ∃ ks, ks = listW (colT o k) 250 := ⟨_, rfl⟩
      have hksl : ks.length ≤ 250 := by rw [hks]; exact listW_len _ _
      have hkn2 : ∀ j, j < ks.length → 0 ≤ ks.getD j 0 ∧ ks.getD j 0 < (n : Int) := fun j hj => by
        have h1 := col_nn H (r := k) (by omega) (ks.getD j 0) (by rw [← hks, List.getD_eq_getElem?_getD]; exact getD_mem _ hj)
        omega
      rw [← hks]
      refine loopS5 mx (by decide) (by kernel_rfl) (fun (j v58 v11 v6 v9 : Nat) => j ≤ ks.length) (fun j v58 v11 v6 v9 => [(60, .int .i64 j), (59, .int .i64 ks.length), (58, .ref (1, 58) v58 [] 1 0 ks.length), (10, .int .i64 k), (11, .ptr (1, 11) v11 [] 0 0), (47, .int .i64 k), (46, .int .i64 n), (9, .ref (1, 44) v9 [] 4 0 n), (6, .ref (1, 26) v6 [] 1 0 n), (5, .int .i64 0), (4, codeP o (frW o.irs.length fun i => wordsP (LiveP o i)))]) (fun j v58 v11 v6 v9 => ((1, 58), ⟨v58, oints ks⟩) :: ((1, 11), ⟨v11, .obox 4 (setC (takenW (plcK o k) k (ks.take j)))⟩) :: mem58 n (plcK o k) (colT o) v6 v9) (fun j v58 v11 v6 v9 => ks.length - j) 0 _ _ _ _ (by simp) ⟨by ((repeat' apply And.intro) <;> (first | exact True.intro | exact NEq.refl _ | (refine NEq.int ?_; first | exact rfl | omega | (rw [wrapI (by omega)]; first | exact rfl | omega)))), ⟨⟨rfl, .refl _⟩, ⟨rfl, .obox ?_⟩, ⟨rfl, .refl _⟩, ⟨rfl, .refl _⟩, trivial⟩, .nil⟩ ?_
      · intro q hq
        rcases (by have : q < 4 := hq; omega : q = 0 ∨ q = 1 ∨ q = 2 ∨ q = 3) with rfl | rfl | rfl | rfl <;> exact .refl _
      intro j v58 v11 v6 v9 nv hj
      have ej : 0 + (j : Int).toNat = j := by omega
      have hwj : IntKind.i64.wrap ((j : Int) + 1) = ((j + 1 : Nat) : Int) := wrapI (by omega)
      repeat' (first | refine vcI ?_ | refine And.intro ?_ ?_ | (intro hq; (try simp at hq); (try (exfalso; omega)); (try (revert hq; intro))))
      iterate 2
        · rw [ej]; exact (hkn2 j (by assumption)).1
        · rw [ej]; have := (hkn2 j (by assumption)).2; omega
      · have hjl : j < ks.length := by assumption
        rename_i hcond
        have hc2 : ks.getD j 0 ≠ (k : Int) ∧ 0 ≤ (plcK o k).getD (ks.getD j 0).toNat 0 := hcond
        have hkj := hkn2 j hjl
        have hv := hPk.val (ks.getD j 0).toNat (by omega)
        obtain ⟨q, hq⟩ : ∃ q : Nat, (plcK o k).getD (ks.getD j 0).toNat 0 = (q : Int) := ⟨_, (Int.toNat_of_nonneg hc2.2).symm⟩
        have hvq : (plcK o k).getD (0 + (ks.getD (0 + (j : Int).toNat) 0).toNat) 0 = (q : Int) := by rw [ej, Nat.zero_add]; exact hq
        refine CallS.on1e (r := (1, 11)) (v := v11) (node' := .obox 4 (setC (takenW (plcK o k) k (ks.take j)))) (args' := [.ptr (1, 11) v11 [] 0 0, .int .i64 q]) (n := 2) rfl rfl (LeL.cons (.refl _) (LeL.cons (NEq.of_eq (congrArg (PV.int .i64) hvq)) LeL.nil)) (Above.chk rfl Above.nil) (fun S' hS' => setPut11_spec _ (takenW_lt _ _ _) q (by omega) v11 _ S' hS') ?_
        rintro x L' nv' ⟨rfl, rfl⟩
        repeat' (first | refine vcI ?_ | refine And.intro ?_ ?_ | (intro hq; (try simp at hq); (try (exfalso; omega)); (try (revert hq; intro))))
        refine Exists.intro (j + 1, v58, v11, v6, v9) ⟨by dsimp only; omega, (by first | omega | (dsimp only; omega)), ⟨by ((repeat' apply And.intro) <;> (first | exact True.intro | exact NEq.refl _ | (refine NEq.int ?_; first | exact rfl | omega | (rw [wrapI (by omega)]; first | exact rfl | omega)))), ⟨⟨rfl, .refl _⟩, ⟨rfl, NEq.of_eq ?_⟩, ⟨rfl, .refl _⟩, ⟨rfl, .refl _⟩, trivial⟩, .nil⟩⟩
        show PV.obox 4 (setC _) = PV.obox 4 (setC (takenW (plcK o k) k (ks.take (j + 1))))
        rw [take_succD 0 hjl, takenW_snoc]
        unfold takeS
        rw [if_pos hc2, hq]; rfl
      · have hjl : j < ks.length := by assumption
        rename_i hcond
        have hc2 : ks.getD j 0 ≠ (k : Int) → (plcK o k).getD (ks.getD j 0).toNat 0 < 0 := hcond
        refine Exists.intro (j + 1, v58, v11, v6, v9) ⟨by dsimp only; omega, (by first | omega | (dsimp only; omega)), ⟨by ((repeat' apply And.intro) <;> (first | exact True.intro | exact NEq.refl _ | (refine NEq.int ?_; first | exact rfl | omega | (rw [wrapI (by omega)]; first | exact rfl | omega)))), ⟨⟨rfl, .refl _⟩, ⟨rfl, NEq.of_eq ?_⟩, ⟨rfl, .refl _⟩, ⟨rfl, .refl _⟩, trivial⟩, .nil⟩⟩
        show PV.obox 4 (setC _) = PV.obox 4 (setC (takenW (plcK o k) k (ks.take (j + 1))))
        rw [take_succD 0 hjl, takenW_snoc]
        unfold takeS
        rw [if_neg fun h => by have := hc2 h.1; omega]
      · obtain rfl : j = ks.length := by omega
        rw [List.take_length]
        obtain ⟨s, hsd⟩ : ∃ s, s = takenW (plcK o k) k ks := ⟨_, rfl⟩
        have hsl : ∀ o, s o < 18446744073709551616 := by rw [hsd]; exact takenW_lt _ _ _
        rw [← hsd]
        have hfew : ∀ p, (∀ q, q < p → bitW s q = true) → p < n := fun p h => taken_few (l := plcK o k) (r := k) (ks := ks) hkn (by rw [hks]; intro x hx; have := col_nn H (r := k) (by omega) x hx; omega) (by rw [← hsd]; exact h)
        repeat' (first | refine vcI ?_ | refine And.intro ?_ ?_ | (intro hq; (try simp at hq); (try (exfalso; omega)); (try (revert hq; intro))))
        refine loopS4 mx (by decide) (by kernel_rfl) (fun (p v11 v6 v9 : Nat) => ∀ q, q < p → bitW s q = true) (fun p v11 v6 v9 => [(14, .int .i64 p), (10, .int .i64 k), (11, .ptr (1, 11) v11 [] 0 0), (47, .int .i64 k), (46, .int .i64 n), (9, .ref (1, 44) v9 [] 4 0 n), (6, .ref (1, 26) v6 [] 1 0 n), (5, .int .i64 0), (4, codeP o (frW o.irs.length fun i => wordsP (LiveP o i)))]) (fun p v11 v6 v9 => ((1, 11), ⟨v11, .obox 4 (setC s)⟩) :: mem58 n (plcK o k) (colT o) v6 v9) (fun p v11 v6 v9 => n - p) 0 _ _ _ (by intro q hq; omega) ⟨by ((repeat' apply And.intro) <;> (first | exact True.intro | exact NEq.refl _ | (refine NEq.int ?_; first | exact rfl | omega | (rw [wrapI (by omega)]; first | exact rfl | omega)))), ⟨⟨rfl, .refl _⟩, ⟨rfl, .refl _⟩, ⟨rfl, .refl _⟩, trivial⟩, .nil⟩ ?_
        intro p v11 v6 v9 nv hp
        have hpn := hfew p hp
        have hwp : IntKind.i64.wrap ((p : Int) + 1) = ((p + 1 : Nat) : Int) := wrapI (by omega)
        repeat' (first | refine vcI ?_ | refine And.intro ?_ ?_ | (intro hq; (try simp at hq); (try (exfalso; omega)); (try (revert hq; intro))))
        have hh := setHas_spec s hsl p (by omega)
        rcases hb : bitW s p with _ | _
        · rw [hb] at hh
          refine CallS.plain [.fptr 4 (setC s) 0, .int .i64 p] (.bool false) hh (LeL.cons (view_set (k := 7) rfl) (LeL.cons (.refl _) LeL.nil)) trivial ?_
          repeat' (first | refine vcI ?_ | refine And.intro ?_ ?_ | (intro hq; (try simp at hq); (try (exfalso; omega)); (try (revert hq; intro))))
          · rfl
          have hfs : FirstP s p := ⟨hb, hp⟩
          have hl1 := hln (k + 1) (by omega)
          refine Exists.intro (oints (plcK o (k + 1))) (And.intro (NEq.owns rfl (hlk.trans hl1.symm) fun a b ha hb => ?_) (And.intro (shape_ints (hlk.trans hl1.symm)) ?_))
          · rw [show plcK o (k + 1) = plcI o (plcK o k) k from rfl]
            unfold plcI
            rw [if_neg (show ¬ 0 ≤ (plcK o k).getD k 0 by omega), ← hks, ← hsd, hfs.first, ek]
            exact put_setI (l := plcK o k) (i := k) (by omega) hb (.refl _)
          repeat' (first | refine vcI ?_ | refine And.intro ?_ ?_ | (intro hq; (try simp at hq); (try (exfalso; omega)); (try (revert hq; intro))))
          exact Exists.intro (k + 1, v6, v9) ⟨by dsimp only; omega, (by first | omega | (dsimp only; omega)), ⟨by ((repeat' apply And.intro) <;> (first | exact True.intro | exact NEq.refl _ | (refine NEq.int ?_; first | exact rfl | omega | (rw [wrapI (by omega)]; first | exact rfl | omega)))), ⟨⟨rfl, .refl _⟩, ⟨rfl, .refl _⟩, trivial⟩, .nil⟩⟩
        · rw [hb] at hh
          refine CallS.plain [.fptr 4 (setC s) 0, .int .i64 p] (.bool true) hh (LeL.cons (view_set (k := 7) rfl) (LeL.cons (.refl _) LeL.nil)) trivial ?_
          repeat' (first | refine vcI ?_ | refine And.intro ?_ ?_ | (intro hq; (try simp at hq); (try (exfalso; omega)); (try (revert hq; intro))))
          exact Exists.intro (p + 1, v11, v6, v9) ⟨fun q hq => by rcases (by dsimp only at hq; omega : q < p ∨ q = p) with h | rfl; exact hp q h; exact hb, (by first | omega | (dsimp only; omega)), ⟨by ((repeat' apply And.intro) <;> (first | exact True.intro | exact NEq.refl _ | (refine NEq.int ?_; first | exact rfl | omega | (rw [wrapI (by omega)]; first | exact rfl | omega)))), ⟨⟨rfl, .refl _⟩, ⟨rfl, .refl _⟩, ⟨rfl, .refl _⟩, trivial⟩, .nil⟩⟩
    · obtain rfl : k = n := by omega
      rw [show plcE o = (plcL o, 0) by unfold plcE; rw [if_pos HO], show plcL o = plcK o k by unfold plcL; rw [hnt]]
      exact NEq.tup2 (view_ints (k := 6) (l := plcK o k) rfl (hln k (by omega)).symm) (.refl _)
  · rw [openR_bad HO] at ho
    refine CallS.frozen (.tup [.nilp, .int .i64 210]) ho (plainAll rfl) ?_
    repeat' (first | refine vcI ?_ | refine And.intro ?_ ?_ | (intro hq; (try simp at hq); (try (exfalso; omega)); (try (revert hq; intro))))
    rw [show plcE o = ([], 210) by unfold plcE; rw [if_neg HO]]
    exact ans_nils 210
end Go.Ab
namespace Go.Ab
open Go.Proofs
set_option maxRecDepth 100000
set_option maxHeartbeats 1000000

theorem listW_nodup (s : Nat → Nat) : ∀ n, (listW s n).Nodup
  | 0 => by simp [listW]
  | n + 1 => by
    cases h : bitW s n
    · rw [listW_no h]; exact listW_nodup s n
    · rw [listW_yes h, List.nodup_append]
      refine ⟨listW_nodup s n, by simp, fun a ha b hb => ?_⟩
      have := listW_nn a ha
      rw [List.mem_singleton] at hb
      omega
theorem widthL_snoc (l : List Int) (x : Int) : widthL (l ++ [x]) = if IntKind.i64.wrap (x + 1) > widthL l then IntKind.i64.wrap (x + 1) else widthL l := by
  unfold widthL; rw [List.foldl_append]; rfl
theorem widthL_ge {l : List Int} (h : ∀ x ∈ l, 0 ≤ x ∧ x < 1000) : 0 ≤ widthL l ∧ ∀ x ∈ l, x + 1 ≤ widthL l := by
  have key : ∀ l : List Int, (∀ x ∈ l, 0 ≤ x ∧ x < 1000) → ∀ n : Int, 0 ≤ n → n ≤ l.foldl (fun n x => if IntKind.i64.wrap (x + 1) > n then IntKind.i64.wrap (x + 1) else n) n ∧ ∀ x ∈ l, x + 1 ≤ l.foldl (fun n x => if IntKind.i64.wrap (x + 1) > n then IntKind.i64.wrap (x + 1) else n) n := by
    intro l
    induction l with
    | nil => intro _ n hn; exact ⟨Int.le_refl _, by simp⟩
    | cons a l ih =>
      intro hl n hn
      have ha := hl a (by simp)
      have hw : IntKind.i64.wrap (a + 1) = a + 1 := wrapI (by omega)
      rw [List.foldl_cons, hw]
      by_cases hc : a + 1 > n
      · rw [if_pos hc]
        obtain ⟨i1, i2⟩ := ih (fun x hx => hl x (List.mem_cons_of_mem _ hx)) (a + 1) (by omega)
        refine ⟨by omega, fun x hx => ?_⟩
        rcases List.mem_cons.1 hx with rfl | hx
        · exact i1
        · exact i2 x hx
      · rw [if_neg hc]
        obtain ⟨i1, i2⟩ := ih (fun x hx => hl x (List.mem_cons_of_mem _ hx)) n hn
        refine ⟨i1, fun x hx => ?_⟩
        rcases List.mem_cons.1 hx with rfl | hx
        · omega
        · exact i2 x hx
  exact key l h 0 (Int.le_refl _)
theorem width_live {o : DO} {l : List Int} (H : FlH o) (hP : RightP o l) (i : Nat) : ((liveL o i).length : Int) ≤ widthL l := by
  have hr := H.hr
  have hlen := hP.len
  have hin : ∀ x ∈ l, 0 ≤ x ∧ x < 1000 := fun x hx => by
    obtain ⟨k, hk, rfl⟩ := List.mem_iff_getElem.1 hx
    have h := hP.inn k hk
    have e : l.getD k 0 = l[k] := by simp [List.getD_eq_getElem?_getD, hk]
    omega
  obtain ⟨h0, hw⟩ := widthL_ge hin
  have hlv : ∀ x ∈ liveL o i, ∃ q : Nat, x = q ∧ LiveP o i q ∧ q < l.length := fun x hx => by
    obtain ⟨q, _, q2, q3⟩ := mem_listW.1 hx
    have h1 := (bit_wordsP _ _).1 q2
    have := (LiveP.lt H h1).1
    exact ⟨q, q3, h1, by omega⟩
  have h1 := nodup_le (l := (liveL o i).map fun r => l.getD r.toNat 0) (m := (List.range (widthL l).toNat).map fun (q : Nat) => (q : Int))
    (by
      rw [List.Nodup, List.pairwise_map]
      refine List.Pairwise.imp_of_mem (fun ha hb hab => ?_) (listW_nodup _ 250)
      obtain ⟨p, rfl, p1, p2⟩ := hlv _ ha
      obtain ⟨q, rfl, q1, q2⟩ := hlv _ hb
      exact hP.apart p q ⟨i, (p1.lt H).2, .inl ⟨p1, q1⟩⟩ (by omega)) fun x hx => by
    obtain ⟨r, hr, rfl⟩ := List.mem_map.1 hx
    obtain ⟨p, rfl, p1, p2⟩ := hlv _ hr
    have h2 := hP.inn p p2
    have h3 := hw (l.getD p 0) (by rw [List.getD_eq_getElem?_getD]; exact getD_mem _ p2)
    refine List.mem_map.2 ⟨(l.getD p 0).toNat, List.mem_range.2 (by omega), ?_⟩
    show ((l.getD p 0).toNat : Int) = l.getD p 0
    omega
  rw [List.length_map, List.length_map, List.length_range] at h1
  omega
end Go.Ab
namespace Go.Ab
open Go.Proofs
set_option maxRecDepth 100000
set_option maxHeartbeats 4000000

theorem wayI {L w : Int} (h0 : 0 < L) (h1 : L ≤ 2) : 0 ≤ (IntKind.i64.wrap (w.tmod L + L)).tmod L ∧ (IntKind.i64.wrap (w.tmod L + L)).tmod L < L := by
  have h2 : -L < w.tmod L ∧ w.tmod L < L := by
    refine ⟨?_, Int.tmod_lt_of_pos w h0⟩
    have := Int.tmod_lt_of_pos (-w) h0
    rw [Int.neg_tmod] at this
    omega
  have h3 : IntKind.i64.wrap (w.tmod L + L) = w.tmod L + L := by rw [IntKind.wrap_i64]; omega
  rw [h3]
  exact ⟨Int.tmod_nonneg _ (by omega), Int.tmod_lt_of_pos _ h0⟩
theorem fewB_of {o : DO} (h : fewB o = true) : fewN o ≤ 6000 ∧ o.regs ≤ 60 := by
  simpa [fewB] using h
theorem cIr : Try.prog.cellsOf 49 = 16 := by kernel_rfl
theorem hasB {l : List Int} {r : Int} (h : ¬ r ∈ l) : CallsF Try.prog 22 [ints l, .int .i64 r] (.bool false) := by
  have h1 := has_spec l r
  rw [show l.contains r = false by simpa using h] at h1
  exact h1
theorem Dead_spec (o : DO) (ho : o.small) (i r : Int) (ways : List Int) : CallsF Try.prog 7 [.agg (dol o), .int .i64 i, .int .i64 r, ints ways] (.bool true) := by
  refine callsF_ofS mx Try.call7 Try.func7 rfl Try.ntmps7 Try.results7 (by kernel_rfl) (by simp) fun lo => ?_
  repeat' (first | refine vcI ?_ | refine And.intro ?_ ?_ | (intro hq; (try simp at hq); (try (exfalso; omega)); (try (revert hq; intro))))
  refine CallS.frozen (.bool true) awake_spec (plainAll rfl) ?_
  repeat' (first | refine vcI ?_ | refine And.intro ?_ ?_ | (intro hq; (try simp at hq); (try (exfalso; omega)); (try (revert hq; intro))))
  rw [mk_opt]
  have hfs := few_spec o ho
  rcases hfew : fewB o with _ | _
  · rw [hfew] at hfs
    refine CallS.frozen (.bool false) hfs (plainAll rfl) ?_
    repeat' (first | refine vcI ?_ | refine And.intro ?_ ?_ | (intro hq; (try simp at hq); (try (exfalso; omega)); (try (revert hq; intro))))
    exact .refl _
  · rw [hfew] at hfs
    obtain ⟨hf, hr60⟩ := fewB_of hfew
    have hs := ho.2.2.2.2.1
    refine CallS.frozen (.bool true) hfs (plainAll rfl) ?_
    repeat' (first | refine vcI ?_ | refine And.intro ?_ ?_ | (intro hq; (try simp at hq); (try (exfalso; omega)); (try (revert hq; intro))))
    · exact .refl _
    rw [mk_opt]
    have hl := Live_spec o i hf hs
    by_cases HO : OpenP o
    · by_cases hi : 0 ≤ i ∧ i < (o.irs.length : Int)
      · obtain ⟨k0, rfl⟩ := Int.eq_ofNat_of_zero_le hi.1
        rw [show liveE o k0 = (liveL o (k0 : Int).toNat, 0) by unfold liveE; rw [if_pos HO, if_pos hi]] at hl
        refine CallS.frozen (.tup [ints (liveL o (k0 : Int).toNat), .int .i64 0]) hl (plainAll rfl) ?_
        repeat' (first | refine vcI ?_ | refine And.intro ?_ ?_ | (intro hq; (try simp at hq); (try (exfalso; omega)); (try (revert hq; intro))))
        have hhas := has_spec (liveL o (k0 : Int).toNat) r
        rcases hc : (liveL o (k0 : Int).toNat).contains r with _ | _
        · rw [hc] at hhas
          refine CallS.frozen (.bool false) hhas (plainAll rfl) ?_
          repeat' (first | refine vcI ?_ | refine And.intro ?_ ?_ | (intro hq; (try simp at hq); (try (exfalso; omega)); (try (revert hq; intro))))
          have hrn : (r.toNat : Int) = r := Int.toNat_of_nonneg (by omega)
          have hnl : ¬ LiveP o k0 r.toNat := fun h => by
            have h1 := (mem_liveL (o := o) (i := k0) (r := r.toNat) (by omega)).2 h
            rw [hrn] at h1
            have h2 := List.contains_iff_mem.2 h1
            rw [show (liveL o k0).contains r = (liveL o (k0 : Int).toNat).contains r from rfl, hc] at h2
            cases h2
          refine loopS2 mx (by decide) (by kernel_rfl) (fun (n k : Nat) => n ≤ ways.length ∧ k < o.irs.length ∧ ¬ LiveP o k r.toNat) (fun n k => [(12, .int .i64 n), (9, .bool true), (4, .ptr (1, 4) 0 [] 0 0), (1, .int .i64 k), (2, .int .i64 r), (3, ints ways)]) (fun n k => [((1, 4), ⟨0, .obox 12 (rowL (dol o))⟩)]) (fun n k => ways.length - n) 0 k0 ⟨by simp, by omega, hnl⟩ ⟨by ((repeat' apply And.intro) <;> (first | exact True.intro | exact NEq.refl _ | (refine NEq.int ?_; first | exact rfl | omega | (rw [wrapI (by omega)]; first | exact rfl | omega)))), ⟨⟨rfl, .refl _⟩, trivial⟩, .nil⟩ ?_
          rintro n k nv ⟨hn, hk, hL⟩
          repeat' (first | refine vcI ?_ | refine And.intro ?_ ?_ | (intro hq; (try simp at hq); (try (exfalso; omega)); (try (revert hq; intro))))
          · have := HO.hd; omega
          · have hx : (o.irs.getD k default).args.length ≤ 1048576 := ho.2.2.2.1 _ (by rw [List.getD_eq_getElem?_getD]; exact getD_mem _ hk)
            have hfr : frN (o.descs.getD k []) ≤ 6000 := by
              have h1 := sumL_mem (f := frN) (l := o.descs) (x := o.descs.getD k []) (by rw [List.getD_eq_getElem?_getD]; exact getD_mem _ (by rw [HO.hd]; exact hk))
              unfold fewN at hf
              omega
            have hnu : ¬ r ∈ usedL (o.irs.getD k default) (o.descs.getD k []) ++ usesL (o.descs.getD k []) := fun h => hL (.use hk (by rw [hrn]; exact h))
            rw [List.mem_append, not_or] at hnu
            rw [cIr]
            refine QS.own (oints (usedL (o.irs.getD k default) (o.descs.getD k []))) (fun id ver => .ref id ver [] 1 0 (usedL (o.irs.getD k default) (o.descs.getD k [])).length) (Used_spec (o.irs.getD k default) (o.descs.getD k []) hx) (plainAll rfl) ?_
            repeat' (first | refine vcI ?_ | refine And.intro ?_ ?_ | (intro hq; (try simp at hq); (try (exfalso; omega)); (try (revert hq; intro))))
            refine CallS.plain [ints (usedL (o.irs.getD k default) (o.descs.getD k [])), .int .i64 r] (.bool false) (hasB hnu.1) ?_ trivial ?_
            · exact LeL.cons (view_ints (k := 7) rfl rfl) (LeL.cons (.refl _) LeL.nil)
            repeat' (first | refine vcI ?_ | refine And.intro ?_ ?_ | (intro hq; (try simp at hq); (try (exfalso; omega)); (try (revert hq; intro))))
            · have := HO.hd; omega
            refine QS.frozen (ints (usesL (o.descs.getD k []))) (Uses_spec (o.descs.getD k []) hfr) (plainAll rfl) ?_
            repeat' (first | refine vcI ?_ | refine And.intro ?_ ?_ | (intro hq; (try simp at hq); (try (exfalso; omega)); (try (revert hq; intro))))
            first
            | refine QS.frozen (.bool false) (hasB hnu.2) (plainAll rfl) ?_
            | refine CallS.frozen (.bool false) (hasB hnu.2) (plainAll rfl) ?_
            repeat' (first | refine vcI ?_ | refine And.intro ?_ ?_ | (intro hq; (try simp at hq); (try (exfalso; omega)); (try (revert hq; intro))))
            have hss := sets_spec (o.irs.getD k default).op
            rcases hsb : setsB (o.irs.getD k default).op with _ | _
            · rw [hsb] at hss
              refine CallS.frozen (.bool false) hss (plainAll rfl) ?_
              repeat' (first | refine vcI ?_ | refine And.intro ?_ ?_ | (intro hq; (try simp at hq); (try (exfalso; omega)); (try (revert hq; intro))))
              have hnd : ¬ (setsB (o.irs.getD k default).op = true ∧ (o.irs.getD k default).d = (r.toNat : Int)) := fun h => by rw [hsb] at h; cases h.1
              rw [mk_opt]
              obtain ⟨g, hg⟩ : ∃ g, g = goesL (o.irs.getD k default) k := ⟨_, rfl⟩
              have hx2 := Next_spec o k hf hs
              rw [show nextE o k = (goesL (o.irs.getD k default) k, 0) by unfold nextE; rw [if_pos HO, if_pos (by omega)]; rfl, ← hg] at hx2
              have hgl : g.length ≤ 2 := by rw [hg]; exact goesL_len _ _
              have hgo : ∀ x ∈ g, 0 ≤ x ∧ x < (o.irs.length : Int) ∧ ¬ LiveP o x.toNat r.toNat := fun x hx => by
                rw [hg] at hx
                have h1 := (HO.fl hf hs).go k hk x hx
                exact ⟨h1.1, h1.2, fun h2 => hL (.step hk (k := x.toNat) (by rw [Int.toNat_of_nonneg h1.1]; exact hx) h2 hnd)⟩
              refine CallS.frozen (.tup [ints g, .int .i64 0]) hx2 (plainAll rfl) ?_
              repeat' (first | refine vcI ?_ | refine And.intro ?_ ?_ | (intro hq; (try simp at hq); (try (exfalso; omega)); (try (revert hq; intro))))
              · exact .refl _
              · contradiction
              · contradiction
              all_goals
                have hg0 : 0 < g.length := List.length_pos_iff.2 (by assumption)
                have hway := wayI (L := (g.length : Int)) (w := ways.getD (n : Int).toNat 0) (by omega) (by omega)
              · exact hway.1
              · exact hway.2
              obtain ⟨h1, h2, h3⟩ := hgo (g.getD ((IntKind.i64.wrap ((ways.getD (n : Int).toNat 0).tmod (g.length : Int) + (g.length : Int))).tmod (g.length : Int)).toNat 0) (by rw [List.getD_eq_getElem?_getD]; exact getD_mem _ (by omega))
              have hw : IntKind.i64.wrap ((n : Int) + 1) = ((n + 1 : Nat) : Int) := wrapI (by omega)
              repeat' (first | refine vcI ?_ | refine And.intro ?_ ?_ | (intro hq; (try simp at hq); (try (exfalso; omega)); (try (revert hq; intro))))
              refine Exists.intro (n + 1, (g.getD ((IntKind.i64.wrap ((ways.getD (n : Int).toNat 0).tmod (g.length : Int) + (g.length : Int))).tmod (g.length : Int)).toNat 0).toNat) ⟨⟨by dsimp only; omega, by dsimp only; omega, h3⟩, (by first | omega | (dsimp only; omega)), ⟨by ((repeat' apply And.intro) <;> (first | exact True.intro | exact NEq.refl _ | (refine NEq.int ?_; first | exact rfl | omega | (rw [wrapI (by omega)]; first | exact rfl | omega)))), ⟨⟨rfl, .refl _⟩, trivial⟩, .nil⟩⟩
            · rw [hsb] at hss
              refine CallS.frozen (.bool true) hss (plainAll rfl) ?_
              repeat' (first | refine vcI ?_ | refine And.intro ?_ ?_ | (intro hq; (try simp at hq); (try (exfalso; omega)); (try (revert hq; intro))))
              · exact .refl _
              rename_i hdr
              have hnd : ¬ (setsB (o.irs.getD k default).op = true ∧ (o.irs.getD k default).d = (r.toNat : Int)) := fun h => hdr (by rw [← hrn]; exact h.2)
              rw [mk_opt]
              obtain ⟨g, hg⟩ : ∃ g, g = goesL (o.irs.getD k default) k := ⟨_, rfl⟩
              have hx2 := Next_spec o k hf hs
              rw [show nextE o k = (goesL (o.irs.getD k default) k, 0) by unfold nextE; rw [if_pos HO, if_pos (by omega)]; rfl, ← hg] at hx2
              have hgl : g.length ≤ 2 := by rw [hg]; exact goesL_len _ _
              have hgo : ∀ x ∈ g, 0 ≤ x ∧ x < (o.irs.length : Int) ∧ ¬ LiveP o x.toNat r.toNat := fun x hx => by
                rw [hg] at hx
                have h1 := (HO.fl hf hs).go k hk x hx
                exact ⟨h1.1, h1.2, fun h2 => hL (.step hk (k := x.toNat) (by rw [Int.toNat_of_nonneg h1.1]; exact hx) h2 hnd)⟩
              refine CallS.frozen (.tup [ints g, .int .i64 0]) hx2 (plainAll rfl) ?_
              repeat' (first | refine vcI ?_ | refine And.intro ?_ ?_ | (intro hq; (try simp at hq); (try (exfalso; omega)); (try (revert hq; intro))))
              · exact .refl _
              · contradiction
              · contradiction
              all_goals
                have hg0 : 0 < g.length := List.length_pos_iff.2 (by assumption)
                have hway := wayI (L := (g.length : Int)) (w := ways.getD (n : Int).toNat 0) (by omega) (by omega)
              · exact hway.1
              · exact hway.2
              obtain ⟨h1, h2, h3⟩ := hgo (g.getD ((IntKind.i64.wrap ((ways.getD (n : Int).toNat 0).tmod (g.length : Int) + (g.length : Int))).tmod (g.length : Int)).toNat 0) (by rw [List.getD_eq_getElem?_getD]; exact getD_mem _ (by omega))
              have hw : IntKind.i64.wrap ((n : Int) + 1) = ((n + 1 : Nat) : Int) := wrapI (by omega)
              repeat' (first | refine vcI ?_ | refine And.intro ?_ ?_ | (intro hq; (try simp at hq); (try (exfalso; omega)); (try (revert hq; intro))))
              refine Exists.intro (n + 1, (g.getD ((IntKind.i64.wrap ((ways.getD (n : Int).toNat 0).tmod (g.length : Int) + (g.length : Int))).tmod (g.length : Int)).toNat 0).toNat) ⟨⟨by dsimp only; omega, by dsimp only; omega, h3⟩, (by first | omega | (dsimp only; omega)), ⟨by ((repeat' apply And.intro) <;> (first | exact True.intro | exact NEq.refl _ | (refine NEq.int ?_; first | exact rfl | omega | (rw [wrapI (by omega)]; first | exact rfl | omega)))), ⟨⟨rfl, .refl _⟩, trivial⟩, .nil⟩⟩
          · exact .refl _
        · rw [hc] at hhas
          refine CallS.frozen (.bool true) hhas (plainAll rfl) ?_
          repeat' (first | refine vcI ?_ | refine And.intro ?_ ?_ | (intro hq; (try simp at hq); (try (exfalso; omega)); (try (revert hq; intro))))
          exact .refl _
      · rw [show liveE o i = ([], 3) by unfold liveE; rw [if_pos HO, if_neg hi]] at hl
        refine CallS.frozen (.tup [ints [], .int .i64 3]) hl (plainAll rfl) ?_
        repeat' (first | refine vcI ?_ | refine And.intro ?_ ?_ | (intro hq; (try simp at hq); (try (exfalso; omega)); (try (revert hq; intro))))
        exact .refl _
    · rw [show liveE o i = ([], 210) by unfold liveE; rw [if_neg HO]] at hl
      refine CallS.frozen (.tup [ints [], .int .i64 210]) hl (plainAll rfl) ?_
      repeat' (first | refine vcI ?_ | refine And.intro ?_ ?_ | (intro hq; (try simp at hq); (try (exfalso; omega)); (try (revert hq; intro))))
      exact .refl _
end Go.Ab
namespace Go.Ab
open Go.Proofs
set_option maxRecDepth 100000
set_option maxHeartbeats 8000000

theorem Right_spec (o : DO) (ho : o.small) (l : List Int) (hll : l.length ≤ 1048576) (i : Int) : CallsF Try.prog 4 [.agg (dol o), ints l, .int .i64 i] (.bool true) := by
  refine callsF_ofS mx Try.call4 Try.func4 rfl Try.ntmps4 Try.results4 (by kernel_rfl) (by simp) fun lo => ?_
  repeat' (first | refine vcI ?_ | refine And.intro ?_ ?_ | (intro hq; (try simp at hq); (try (exfalso; omega)); (try (revert hq; intro))))
  refine CallS.frozen (.bool true) awake_spec (plainAll rfl) ?_
  repeat' (first | refine vcI ?_ | refine And.intro ?_ ?_ | (intro hq; (try simp at hq); (try (exfalso; omega)); (try (revert hq; intro))))
  rw [mk_opt]
  have hfs := few_spec o ho
  rcases hfew : fewB o with _ | _
  · rw [hfew] at hfs
    refine CallS.frozen (.bool false) hfs (plainAll rfl) ?_
    repeat' (first | refine vcI ?_ | refine And.intro ?_ ?_ | (intro hq; (try simp at hq); (try (exfalso; omega)); (try (revert hq; intro))))
    exact .refl _
  · rw [hfew] at hfs
    obtain ⟨hf, hr60⟩ := fewB_of hfew
    have hs := ho.2.2.2.2.1
    have hck := Check_spec o l hll hf hs
    have hpl := Places_spec o hf hs
    have hlv := Live_spec o i hf hs
    refine CallS.frozen (.bool true) hfs (plainAll rfl) ?_
    repeat' (first | refine vcI ?_ | refine And.intro ?_ ?_ | (intro hq; (try simp at hq); (try (exfalso; omega)); (try (revert hq; intro))))
    · exact .refl _
    · rw [mk_opt]
      by_cases HO : OpenP o
      · have H := HO.fl hf hs
        have hpr := plcL_right HO hf hs
        have hck2 := Check_spec o (plcL o) (by have := hpr.len; have := HO.r2; omega) hf hs
        rw [(chkE_zero hf hs).2 hpr] at hck2
        rw [show plcE o = (plcL o, 0) by unfold plcE; rw [if_pos HO]] at hpl
        refine CallS.frozen (.tup [ints (plcL o), .int .i64 0]) hpl (plainAll rfl) ?_
        repeat' (first | refine vcI ?_ | refine And.intro ?_ ?_ | (intro hq; (try simp at hq); (try (exfalso; omega)); (try (revert hq; intro))))
        rw [mk_opt]
        refine CallS.frozen (.int .i64 0) hck2 (plainAll rfl) ?_
        repeat' (first | refine vcI ?_ | refine And.intro ?_ ?_ | (intro hq; (try simp at hq); (try (exfalso; omega)); (try (revert hq; intro))))
        rw [mk_opt]
        by_cases hi : 0 ≤ i ∧ i < (o.irs.length : Int)
        · rw [show liveE o i = (liveL o i.toNat, 0) by unfold liveE; rw [if_pos HO, if_pos hi]] at hlv
          refine CallS.frozen (.tup [ints (liveL o i.toNat), .int .i64 0]) hlv (plainAll rfl) ?_
          repeat' (first | refine vcI ?_ | refine And.intro ?_ ?_ | (intro hq; (try simp at hq); (try (exfalso; omega)); (try (revert hq; intro))))
          rw [cOpt]
          by_cases hc : chkE o l = 0
          · rw [hc] at hck
            have hP := (chkE_zero hf hs).1 hc
            have w1 := width_live H hP i.toNat
            have w2 := width_live H hpr i.toNat
            have b1 : decide (widthL l ≥ ((liveL o i.toNat).length : Int)) = true := decide_eq_true w1
            have b2 : decide (widthL (plcL o) ≥ ((liveL o i.toNat).length : Int)) = true := decide_eq_true w2
            first
            | refine CallS.frozen (.int .i64 0) hck (plainAll rfl) ?_
            | refine QS.frozen (.int .i64 0) hck (plainAll rfl) ?_
            repeat' (first | refine vcI ?_ | refine And.intro ?_ ?_ | (intro hq; (try simp at hq); (try (exfalso; omega)); (try (revert hq; intro))))
            have hw1 := width_spec l hll
            have hw2 := width_spec (plcL o) (by have := hpr.len; have := HO.r2; omega)
            first
            | refine CallS.frozen (.int .i64 (widthL l)) hw1 (plainAll rfl) ?_
            | refine QS.frozen (.int .i64 (widthL l)) hw1 (plainAll rfl) ?_
            repeat' (first | refine vcI ?_ | refine And.intro ?_ ?_ | (intro hq; (try simp at hq); (try (exfalso; omega)); (try (revert hq; intro))))
            rw [b1]
            first
            | refine CallS.frozen (.int .i64 (widthL (plcL o))) hw2 (plainAll rfl) ?_
            | refine QS.frozen (.int .i64 (widthL (plcL o))) hw2 (plainAll rfl) ?_
            repeat' (first | refine vcI ?_ | refine And.intro ?_ ?_ | (intro hq; (try simp at hq); (try (exfalso; omega)); (try (revert hq; intro))))
            rw [b2]
            exact .refl _
          · have hck3 := hck
            first
            | refine CallS.frozen (.int .i64 (chkE o l)) hck (plainAll rfl) ?_
            | refine QS.frozen (.int .i64 (chkE o l)) hck (plainAll rfl) ?_
            repeat' (first | refine vcI ?_ | refine And.intro ?_ ?_ | (intro hq; (try simp at hq); (try (exfalso; omega)); (try (revert hq; intro))))
            exact .refl _
        · rw [show liveE o i = ([], 3) by unfold liveE; rw [if_pos HO, if_neg hi]] at hlv
          refine CallS.frozen (.tup [ints [], .int .i64 3]) hlv (plainAll rfl) ?_
          repeat' (first | refine vcI ?_ | refine And.intro ?_ ?_ | (intro hq; (try simp at hq); (try (exfalso; omega)); (try (revert hq; intro))))
          exact .refl _
      · rw [show plcE o = ([], 210) by unfold plcE; rw [if_neg HO]] at hpl
        rw [show chkE o l = 210 by unfold chkE; rw [if_neg HO]] at hck
        refine CallS.frozen (.tup [ints [], .int .i64 210]) hpl (plainAll rfl) ?_
        repeat' (first | refine vcI ?_ | refine And.intro ?_ ?_ | (intro hq; (try simp at hq); (try (exfalso; omega)); (try (revert hq; intro))))
        rw [cOpt]
        first
        | refine CallS.frozen (.int .i64 210) hck (plainAll rfl) ?_
        | refine QS.frozen (.int .i64 210) hck (plainAll rfl) ?_
        repeat' (first | refine vcI ?_ | refine And.intro ?_ ?_ | (intro hq; (try simp at hq); (try (exfalso; omega)); (try (revert hq; intro))))
        exact .refl _
end Go.Ab
namespace Go.Proofs.Ytbclepldghjacaa.regsRight
open Go Go.Ab Go.Proofs
open Go.Proofs.Ytbclepldghjacaa.Common
open Go.ChangeShapes Go.WideShapes Go.ChangeAt Go.RowKit
set_option maxRecDepth 100000

theorem params : ∀ t ∈ Try.f4.params.toList, t < Try.prog.types.size := by
  have h : Try.f4.params.toList.all (fun t => Nat.blt t Try.prog.types.size) = true := by kernel_rfl
  intro t ht
  simpa [Nat.blt_eq] using List.all_eq_true.1 h t ht

theorem contract (H : Type) (enc : TypeId × Value → H) (W : World) (base : Nat) (args : Array Value) (ds gs : List (DataW H)) (before : List MemPlace)
    (hval : ∀ (j : Nat) t v, Try.f4.params[j]? = some t → args[j]? = some v → Value.okWide Try.prog W .any base t v)
    (hW : DataW.Whole enc Try.prog Try.f4.params.toList Rows.regsRightSpec.vars false W args.toList ds gs before) (hk : Rows.uptoSmall H (ds ++ gs) = true) :
    Calls Try.prog 4 args W fun e W' => ∃ v, e = .returned v ∧ Rows.regsRightSpec.post enc Try.prog Try.f4 false true false false W args v W' := by
  have hW' := hW
  obtain ⟨p, q, hA0, hV, rfl, hfz, hnd⟩ := hW
  have hA : DataW.TrodAll enc Try.prog W 0 (fun _ => true) true Try.f4.params.toList args.toList ds p := hA0
  rw [Try.params4] at hA hval
  obtain ⟨v0, vs0, d0, ds0, p0, q0, hargs, rfl, rfl, h0, r0⟩ := trodAll_cons hA
  obtain ⟨v1, vs1, d1, ds1, p1, q1, rfl, rfl, rfl, h1, r1⟩ := trodAll_cons r0
  obtain ⟨v2, vs2, d2, ds2, p2, q2, rfl, rfl, rfl, h2, r2⟩ := trodAll_cons r1
  obtain ⟨rfl, rfl, rfl⟩ := trodAll_nil r2
  obtain rfl : args = #[v0, v1, v2] := by cases args; simp_all
  obtain ⟨rfl, rfl⟩ := trodVars_none hV
  have hs := small (by simpa using hk)
  obtain ⟨o, ho, e0⟩ := rOpt.argStruct Try.underlying39 (hval 0 _ v0 rfl rfl) h0 (hs _ (by simp))
  obtain ⟨l, hl, e1⟩ := rInts.argSlice Try.underlying40 ints (fun _ => rfl) (hval 1 _ v1 rfl rfl) h1 (hs _ (by simp))
  obtain ⟨i, hi, e2⟩ := Reads.argInt Try.underlying3 (hval 2 _ v2 rfl rfl) h2 (hs _ (by simp))
  exact law_of laidOut rowed sizes params rfl rfl rfl Try.underlying4 hW' (Right_spec o ho l hl i) (.cons0 e0 (.cons0 e1 (.cons0 e2 .nil0)))

theorem lifted (os : Os) (started : os.Started) (H : Type) (enc : TypeId × Value → H) (F : Stop.Interp) :
    ReturnsInHanded {} Try.checked os 4 .any ((Rows.OpenSpec.upto Rows.regsRightSpec).pre6 enc Try.prog Try.f4 Rows.regsRightUptoRow.domain false) (((Rows.OpenSpec.upto Rows.regsRightSpec).at F).post enc Try.prog Try.f4 false true false false) := by
  refine returnsInHanded_of_cond (C := Try.checked) (s := Rows.OpenSpec.upto Rows.regsRightSpec) (k := Rows.uptoSmall) rfl own started (by kernel_rfl) Try.func4
    (OpenSpec.witness (enc := enc) (C := Try.checked) (s := Rows.OpenSpec.upto Rows.regsRightSpec) (k := Rows.uptoSmall) rfl false ⟨#[], #[.agg #[.int .i64 0, .int .i64 0, .int .i64 0, .int .i64 0, .int .i64 0, .string ⟨#[]⟩, .slice none 0 0, .slice none 0 0, .slice none 0 0, .slice none 0 0, .slice none 0 0, .int .i64 0], .slice none 0 0, .int .i64 0], []⟩ 8 (by kernel_rfl) (by kernel_rfl) (by kernel_rfl)
      (x := ([.agg [.lit (.int .i64 0), .agg [.lit (.int .i64 0), .lit (.int .i64 0), .agg [.lit (.int .i64 0), .lit (.int .i64 0), .lit (.string [])]], .nil, .nil, .nil, .nil, .nil, .lit (.int .i64 0)], .nil, .lit (.int .i64 0)], [], [])) (by kernel_rfl) rfl (by kernel_rfl)) ?_
  intro W base args ds gs before hval hW _ hk _
  exact contract H enc W base args ds gs before hval hW hk

theorem proved : Rows.RegsRightUptoSaid :=
  OpenClaim.holds_of_cond 4 Try.f4 rfl rfl rfl rfl rfl rfl rfl ⟨rfl, rfl, rfl, rfl, rfl⟩ rfl rfl rfl rfl rfl (by kernel_rfl) Try.func4 (by kernel_rfl)
    (of_decide_eq_true (by kernel_rfl)) (by unfold Func.isWrapper; first | (rw [if_pos (by decide +kernel)]; kernel_rfl) | (rw [if_neg (by decide +kernel)]; exact ⟨rfl, rfl⟩))
    (fun os started H enc _ F => lifted os started H enc F)
#print axioms proved
end Go.Proofs.Ytbclepldghjacaa.regsRight

/- Calls met by their contracts. -/
import Derived.Test.YtbclepldghjacaaA1
import Derived.Deep.AppendSrc
import Derived.ChangeKeysEq
import Derived.Maps.RangeRun
import Derived.Lib.AppendZeros
import Derived.RangeFuncIn
import Derived.RangeFuncRecord
set_option linter.unusedVariables false
set_option linter.unusedSimpArgs false
/- append. -/
namespace Go.Ab
open Classical

/-- A root whose node has another block, or more in its own. -/
structure Regrow (w w' : World) (B B' : Blocks) (H H' : Roots) (r : RId) (x : Option Nat) (rt' : Root) : Prop where
  blk : ∀ r' p, B' r' p = if r' = r ∧ p = [] then x else B r' p
  old : x = B r [] ∨ ∃ nb, x = some nb ∧ w.heap.size ≤ nb
  lt : ∀ b, x = some b → b < w'.heap.size
  roots : ∀ j, H' j = if j = r then some rt' else H j
  size : w.heap.size ≤ w'.heap.size
  heap : ∀ k, k < w.heap.size → x ≠ some k → w'.heap[k]? = w.heap[k]?
  shape : ∀ k s, w.shape? k = some s → w'.shape? k = some s
  os : w'.os = w.os
  tape : w'.tape = w.tape
  output : w'.output = w.output

theorem Regrow.mono {w w' B B' H H' V ver} {r : RId} {x : Option Nat} {rt rt' : Root} (g : Regrow w w' B B' H H' r x rt') (hr : HR w B H V) (hver : ¬ V ver) (hv : rt'.ver = ver) (hH : H r = some rt) : Mono w B H V w' B' H' (ors V ver) := by
  have hlt : ∀ r p b, B r p = some b → b < w.heap.size := fun r p b h => (hr.dom r p b h).1
  have hne : ∀ b, (∀ p, B r p ≠ some b) → b < w.heap.size → x ≠ some b := by
    intro b h1 h2 e
    rcases g.old with h | ⟨nb, h, h3⟩
    · exact h1 [] (h ▸ e)
    · rw [h] at e; cases e; omega
  refine ⟨g.size, fun b hb hf => ⟨fun r' p => ?_, g.heap b hb (hne b (fun p => hf r p) hb)⟩, fun r' p b h0 hb => ?_, fun r' p b hb => ?_, g.shape, fun _ h => .inl h, fun j rt2 h => ?_, g.os, g.tape, g.output⟩
  · rw [g.blk]
    split
    · exact hne b (fun p => hf r p) hb
    · exact hf r' p
  · have hrr : r' ≠ r := fun e => hr.lev r rt hH (e ▸ h0)
    refine ⟨by rw [g.blk, if_neg (fun e => hrr e.1)]; exact hb, g.heap b (hlt _ _ _ hb) (hne b (fun p hp => hrr (hr.inj _ _ _ _ _ hb hp).1) (hlt _ _ _ hb))⟩
  · rw [g.blk] at hb
    split at hb
    · rcases g.old with h | ⟨nb, h, h3⟩
      · exact .inr ⟨r, [], h ▸ hb⟩
      · rw [h] at hb; cases hb; exact .inl h3
    · exact .inr ⟨r', p, hb⟩
  · rw [g.roots] at h
    split at h
    · cases h; left; rw [hv]; exact hver
    · rename_i hj
      exact .inr ⟨rt2, h, rfl, fun p s hp => ⟨hp, by rw [g.blk, if_neg (fun e => hj e.1)]⟩⟩

theorem Regrow.hr {w w' B B' H H' V ver} {r : RId} {x : Option Nat} {rt : Root} {sz n n' : Nat} {f f' : Nat → Nat → PV} {v : Value} (g : Regrow w w' B B' H H' r x ⟨ver, .own sz n' f'⟩) (hr : HR w B H V) (hver : ¬ V ver) (hH : H r = some rt)
    (hnode : rt.node = .own sz n f) (hn : n ≤ n') (hf : ∀ i o, i < n → f' i o = f i o) (hx : ∀ b, x = some b → True) (ht : TR w' B' H' (ors V ver) r [] (.own sz n' f') v) : HR w' B' H' (ors V ver) := by
  have hm := g.mono hr hver rfl hH
  have hlt : ∀ r p b, B r p = some b → b < w.heap.size := fun r p b h => (hr.dom r p b h).1
  have hne : ∀ r' p b, ¬ (r' = r ∧ p = []) → B r' p = some b → x ≠ some b := by
    intro r' p b h1 h2 e
    rcases g.old with h | ⟨nb, h, h3⟩
    · exact h1 (hr.inj _ _ _ _ _ h2 (h ▸ e))
    · rw [h] at e; cases e; have := hlt _ _ _ h2; omega
  refine ⟨fun j rt2 h => ?_, fun j rt2 h => ?_, fun r' p b h => ?_, fun j rt2 h => ?_, fun r1 p1 r2 p2 b h1 h2 => ?_⟩
  · rw [g.roots] at h
    split at h
    · rename_i e; subst e; cases h; exact .own ht
    · rename_i hj
      exact (hr.root j rt2 h).mono hm (fun t s _ => ⟨by rw [g.blk, if_neg (fun e => hj e.1)], fun b hb => g.heap b (hlt _ _ _ hb) (hne j t b (fun e => hj e.1) hb)⟩)
  · rw [g.roots] at h
    split at h
    · cases h; exact .inr rfl
    · exact .inl (hr.ver j rt2 h)
  · rw [g.blk] at h
    split at h
    · rename_i e
      obtain ⟨rfl, rfl⟩ := e
      exact ⟨g.lt b h, .inr ⟨⟨ver, .own sz n' f'⟩, (true, sz, n'), by rw [g.roots, if_pos rfl], at_nil.2 rfl⟩⟩
    · rename_i hrp
      obtain ⟨h1, h2⟩ := hr.dom r' p b h
      refine ⟨Nat.lt_of_lt_of_le h1 g.size, h2.imp id fun ⟨rt2, s, h3, h4⟩ => ?_⟩
      by_cases e : r' = r
      · subst e
        rw [hH] at h3
        cases h3
        refine ⟨_, s, by rw [g.roots, if_pos rfl], ?_⟩
        rw [hnode] at h4
        cases p with
        | nil => exact absurd ⟨rfl, rfl⟩ hrp
        | cons y p =>
          obtain ⟨i, o⟩ := y
          obtain ⟨⟨hi, ho, h5⟩, h6⟩ := h4
          refine ⟨⟨by omega, ho, by rw [hf i o hi]; exact h5⟩, ?_⟩
          simp only [getAt] at h6 ⊢
          rw [hf i o hi]
          exact h6
      · exact ⟨rt2, s, by rw [g.roots, if_neg e]; exact h3, h4⟩
  · rw [g.roots] at h
    split at h
    · rename_i e; rw [e]; exact hr.lev r rt hH
    · exact hr.lev j rt2 h
  · rw [g.blk] at h1 h2
    split at h1
    · rename_i e1
      split at h2
      · rename_i e2; exact ⟨e1.1.trans e2.1.symm, e1.2.trans e2.2.symm⟩
      · rename_i e2; exact absurd h1 (hne _ _ _ e2 h2)
    · rename_i e1
      split at h2
      · exact absurd h2 (hne _ _ _ e1 h1)
      · exact hr.inj _ _ _ _ _ h1 h2

/-- The heap behind cells that were set. -/
theorem setCells_facts {b : Nat} {e : TypeId} : ∀ (vs : List Value) (off : Nat) (w : World) (cs : Array Value), w.heap[b]? = some (.cells cs e (0, 0)) → off + vs.length ≤ cs.size →
    ∃ cs', (w.setCells b off vs).heap[b]? = some (.cells cs' e (0, 0)) ∧ cs'.size = cs.size ∧ (∀ j, cs'.getD j Go.undef = if off ≤ j ∧ j < off + vs.length then vs.getD (j - off) Go.undef else cs.getD j Go.undef) ∧
      (w.setCells b off vs).heap.size = w.heap.size ∧ (∀ k, k ≠ b → (w.setCells b off vs).heap[k]? = w.heap[k]?) ∧ (w.setCells b off vs).os = w.os ∧ (w.setCells b off vs).tape = w.tape ∧ (w.setCells b off vs).output = w.output := by
  intro vs
  induction vs with
  | nil =>
    intro off w cs hh _
    refine ⟨cs, hh, rfl, fun j => ?_, rfl, fun _ _ => rfl, rfl, rfl, rfl⟩
    rw [if_neg]
    simp only [List.length_nil]
    omega
  | cons v vs ih =>
    intro off w cs hh hle
    simp only [List.length_cons] at hle
    have h1 := setCell_putBlock hh off v
    have hself : (w.setCell ⟨b, off, none⟩ v).heap[b]? = some (.cells (cs.setIfInBounds off v) e (0, 0)) := by rw [h1]; exact putBlock_self hh
    obtain ⟨cs', g1, g2, g3, g4, g5, g6, g7, g8⟩ := ih (off + 1) (w.setCell ⟨b, off, none⟩ v) (cs.setIfInBounds off v) hself (by simp; omega)
    refine ⟨cs', g1, by rw [g2]; simp, fun j => ?_, ?_, fun k hk => ?_, ?_, ?_, ?_⟩
    · rw [g3]
      by_cases hj : j = off
      · subst hj
        rw [if_neg (by omega), if_pos (by simp)]
        have : j < cs.size := by omega
        simp [Array.getD_eq_getD_getElem?, this]
      · have e1 : (cs.setIfInBounds off v).getD j Go.undef = cs.getD j Go.undef := by
          simp [Array.getD_eq_getD_getElem?, Array.getElem?_setIfInBounds, Ne.symm hj]
        by_cases hr : off + 1 ≤ j ∧ j < off + 1 + vs.length
        · rw [if_pos hr, if_pos (by simp only [List.length_cons]; omega)]
          obtain ⟨d, hd⟩ : ∃ d, j - off = d + 1 := ⟨j - off - 1, by omega⟩
          rw [hd, show j - (off + 1) = d by omega]
          rfl
        · rw [if_neg hr, if_neg (by simp only [List.length_cons]; omega), e1]
    · show ((w.setCell ⟨b, off, none⟩ v).setCells b (off + 1) vs).heap.size = _
      rw [g4, h1, putBlock_size]
    · show ((w.setCell ⟨b, off, none⟩ v).setCells b (off + 1) vs).heap[k]? = _
      rw [g5 k hk, h1, putBlock_heap, if_neg hk]
    · exact g6.trans (by rw [h1]; rfl)
    · exact g7.trans (by rw [h1]; rfl)
    · exact g8.trans (by rw [h1]; rfl)

/-- What is appended: so many elements, and their cells. -/
def srcA (sz : Nat) : PV → (Nat → (Nat → Nat → PV) → A) → A
  | .nils, k => k 0 fun _ _ => .undef
  | .frz sz' m g, k => .vc (sz' = sz ∧ ∀ i, i < m → ∀ o, o < sz → dryCell (g i o) = true) (k m g)
  | .fcl sz' m g, k => .vc (sz' = sz ∧ ∀ i, i < m → ∀ o, o < sz → dryCell (g i o) = true) (k m g)
  | .ref r v p sz' lo hi, k => .rd r fun
    | some rt => .vc (rt.ver = v ∧ sz' = sz) <| match getAt rt.node p with
      | .own _ _ f => k (hi - lo) fun i o => cellV r v p (lo + i) o (f (lo + i) o)
      | _ => .fail
    | none => .fail
  | _, _ => .fail

def appendA (P : Program) (id : RId) (ver : Nat) (t : TypeId) (x y : PV) : A :=
  match sliceOf P t with
  | some e => match zeroL P e with
    | some z => .vc (z.length = P.cellsOf e ∧ 0 < z.length ∧ z.all dryCell = true) <| match x with
      | .nils => srcA z.length y fun m c => .vc (m * P.bytesOf e ≤ 140737488355328 ∧ m ≤ 140737488355328)
          (.wr id (some ⟨ver, .own z.length m c⟩) (.ret (.ref id ver [] z.length 0 m)))
      | .fcl sz' n f => .vc (sz' = z.length ∧ ∀ i, i < n → ∀ o, o < sz' → dryCell (f i o) = true) (srcA z.length y fun m c => .vc ((n + m) * P.bytesOf e ≤ 140737488355328 ∧ n + m ≤ 140737488355328 ∧ (n = 0 ∨ 0 < m))
          (.wr id (some ⟨ver, .own z.length (n + m) fun i o => if i < n then f i o else c (i - n) o⟩) (.ret (.ref id ver [] z.length 0 (n + m)))))
      | .ref r v [] sz' 0 hi => .rd r fun
        | some rt => match rt.node with
          | .own sz'' n f => .vc (rt.ver = v ∧ sz' = z.length ∧ sz'' = z.length ∧ hi = n) (srcA z.length y fun m c => .vc ((n + m) * P.bytesOf e ≤ 140737488355328 ∧ n + m ≤ 140737488355328)
              (.wr r (some ⟨ver, .own z.length (n + m) fun i o => if i < n then f i o else c (i - n) o⟩) (.ret (.ref r ver [] z.length 0 (n + m)))))
          | _ => .fail
        | none => .fail
      | _ => .fail
    | none => .fail
  | none => .fail

/-- What a source yields. -/
theorem srcA_wp {P : Program} {t e : TypeId} {w : World} {B : Blocks} {hp : List (RId × Root)} {V : Nat → Prop} (hr : HR w B (lkH hp) V) (hu : P.underlying t = some (.slice e)) {sz : Nat} (h0 : 0 < sz) {y : PV} {vy : Value} (hy : VR w B (lkH hp) V y vy) {k : Nat → (Nat → Nat → PV) → A} {K : PV → List (RId × Root) → Prop}
    (h : (srcA sz y k).wp hp K) : ∃ m c val, (k m c).wp hp K ∧ Src P sz t vy m ((List.range (m * sz)).map val) w ∧ ∀ i o, i < m → o < sz → VR w B (lkH hp) V (c i o) (val (i * sz + o)) := by
  have idx : ∀ {m j : Nat}, j < m * sz → j / sz < m ∧ j % sz < sz ∧ j / sz * sz + j % sz = j := fun {m j} hj => ⟨(Nat.div_lt_iff_lt_mul h0).2 hj, Nat.mod_lt _ h0, by rw [Nat.mul_comm]; exact Nat.div_add_mod j sz⟩
  have mk : ∀ (m cap : Nat) (A : Option Addr) (val : Nat → Value), (0 < m → ∃ b off, A = some ⟨b, off, none⟩ ∧ ∀ j, j < m * sz → w.cell? ⟨b, off + j, none⟩ = some (val j)) → (∀ j, j < m * sz → (val j).oneCell' = true) →
      Src P sz t (.slice A m cap) m ((List.range (m * sz)).map val) w := by
    intro m cap A val hc hone
    have hmem : ∀ u ∈ (List.range (m * sz)).map val, u.oneCell' = true := fun u hu => by
      obtain ⟨j, hj, rfl⟩ := List.mem_map.1 hu
      exact hone j (List.mem_range.1 hj)
    rcases Nat.eq_zero_or_pos m with rfl | hm
    · have e0 : (List.range (0 * sz)).map val = [] := by simp
      rw [e0]
      cases A with
      | none => exact ⟨.inl ⟨e, hu⟩, fun _ => rfl, run_firstCells_none w sz 0 0 cap, run_firstCells_none w.drew sz 0 0 cap, by simp, fun _ h => by cases h⟩
      | some a => exact Src.ofSlice w hu a 0 cap [] (by simp) (fun j u h => by simp at h) (fun _ h => by cases h)
    · obtain ⟨b, off, rfl, hc'⟩ := hc hm
      refine Src.ofSlice w hu ⟨b, off, none⟩ m cap _ (by simp) (fun j u h => ?_) hmem
      simp only [List.getElem?_map] at h
      have hj : j < m * sz := by
        rcases Nat.lt_or_ge j (m * sz) with h1 | h1
        · exact h1
        · rw [List.getElem?_eq_none (by simpa using h1)] at h; cases h
      rw [List.getElem?_range hj] at h
      simp only [Option.map_some, Option.some.injEq] at h
      subst h
      rw [add_plain]
      exact hc' j hj
  unfold srcA at h
  split at h
  · cases hy
    exact ⟨0, _, fun _ => Go.undef, h, mk 0 0 none _ (fun h => by omega) (fun j hj => by omega), fun i o hi => by omega⟩
  · rename_i sz' m g
    obtain ⟨⟨rfl, hdry⟩, hk⟩ := h
    cases hy with
    | @frz _ _ _ _ _ A cap gv hn hmx hA hg =>
      refine ⟨m, g, fun j => gv (j / sz') (j % sz'), hk, mk m cap A _ (fun hm => ?_) (fun j hj => ?_), fun i o hi ho => ?_⟩
      · obtain ⟨b, off, rfl, _, _, hc⟩ := hA hm
        refine ⟨b, off, rfl, fun j hj => ?_⟩
        obtain ⟨h1, h2, h3⟩ := idx hj
        have := hc _ _ h1 h2
        rw [h3] at this
        exact this
      · obtain ⟨h1, h2, _⟩ := idx hj
        have hd := hdry _ h1 _ h2
        exact ((hg _ _ h1 h2).oneCell (dryCell_one (H := H0) hd).1 (dryCell_one (H := H0) hd).2).1
      · have h1 : (i * sz' + o) / sz' = i := by rw [Nat.mul_comm, Nat.mul_add_div h0, Nat.div_eq_of_lt ho, Nat.add_zero]
        have h2 : (i * sz' + o) % sz' = o := by rw [Nat.mul_comm, Nat.mul_add_mod, Nat.mod_eq_of_lt ho]
        simp only [h1, h2]
        exact (hg i o hi ho).lift (fun _ _ _ h => h)
  · rename_i sz' m g
    obtain ⟨⟨rfl, hdry⟩, hk⟩ := h
    cases hy with
    | @fcl _ _ _ _ _ A gv hmx hA hg =>
      refine ⟨m, g, fun j => gv (j / sz') (j % sz'), hk, mk m m A _ (fun hm => ?_) (fun j hj => ?_), fun i o hi ho => ?_⟩
      · obtain ⟨b, off, rfl, _, _, hc⟩ := hA hm
        refine ⟨b, off, rfl, fun j hj => ?_⟩
        obtain ⟨h1, h2, h3⟩ := idx hj
        have := hc _ _ h1 h2
        rw [h3] at this
        exact this
      · obtain ⟨h1, h2, _⟩ := idx hj
        have hd := hdry _ h1 _ h2
        exact ((hg _ _ h1 h2).oneCell (dryCell_one (H := H0) hd).1 (dryCell_one (H := H0) hd).2).1
      · have h1 : (i * sz' + o) / sz' = i := by rw [Nat.mul_comm, Nat.mul_add_div h0, Nat.div_eq_of_lt ho, Nat.add_zero]
        have h2 : (i * sz' + o) % sz' = o := by rw [Nat.mul_comm, Nat.mul_add_mod, Nat.mod_eq_of_lt ho]
        simp only [h1, h2]
        exact (hg i o hi ho).lift (fun _ _ _ h => h)
  · rename_i r v p sz' lo hi
    simp only [A.wp] at h
    cases hH : lkH hp r with
    | none => rw [hH] at h; exact h.elim
    | some rt =>
      rw [hH] at h
      obtain ⟨⟨hver, rfl⟩, h⟩ := h
      cases hy with
      | ref hv hy =>
      obtain ⟨n, hat, hlo, hhi, hx⟩ := hy rt hH hver
      have hnode := (hr.root r rt hH).node p hat
      split at h
      · rename_i s2 n2 f hg
        have hs := hat.2
        rw [hg] at hs
        simp only [shapeOf, Option.some.injEq, Prod.mk.injEq, true_and] at hs
        obtain ⟨rfl, rfl⟩ := hs
        rcases hx with ⟨b, A, cap, e', mm, hB, rfl, hcap, hA, hsh, hle⟩ | ⟨hB, ⟨A0, rfl⟩, h00⟩
        · rcases hnode.out with ⟨hBn, _⟩ | ⟨b', cs, e2, hB', hh, ⟨hsz, hone⟩, htr⟩
          · rw [hB] at hBn; cases hBn
          · obtain rfl : b' = b := by rw [hB] at hB'; exact (Option.some.inj hB').symm
            have hfit : ∀ j, j < (hi - lo) * s2 → lo * s2 + j < cs.size := fun j hj => by
              have h1 : lo * s2 + (hi - lo) * s2 = hi * s2 := by rw [← Nat.add_mul]; congr 1; omega
              have h2 : hi * s2 ≤ n2 * s2 := Nat.mul_le_mul_right _ hhi
              omega
            refine ⟨hi - lo, _, fun j => cs.getD (lo * s2 + j) Go.undef, h, mk _ cap (some A) _ (fun hm => ?_) (fun j hj => hone _ (hfit j hj)), fun i o hi' ho => ?_⟩
            · rw [hA (by omega)]
              refine ⟨b', lo * s2, rfl, fun j hj => ?_⟩
              have := hfit j hj
              simp only [World.cell?, hh]
              simp [Array.getD_eq_getD_getElem?, this]
            · have := (htr (lo + i) o (by omega) ho).1
              rw [hg] at this
              have h3 := TR.cellV (ver := v) hr hH hver (s := (true, s2, n2)) hat (show lo + i < n2 by omega) ho (c := f (lo + i) o) (by rw [hg]; rfl) (.inl rfl) this
              show VR _ _ _ _ _ (cs.getD (lo * s2 + (i * s2 + o)) Go.undef)
              rw [show lo * s2 + (i * s2 + o) = (lo + i) * s2 + o by rw [Nat.add_mul]; omega]
              exact h3
        · have e0 : hi - lo = 0 := by omega
          rw [e0] at h
          exact ⟨0, _, fun _ => Go.undef, h, mk 0 0 A0 _ (fun h => by omega) (fun j hj => by omega), fun i o hi => by omega⟩
      · exact h.elim
  · exact h.elim

theorem getD_rangeMap (val : Nat → Value) (k j : Nat) (h : j < k) : ((List.range k).map val).getD j Go.undef = val j := by
  simp [List.getD_eq_getElem?_getD, h]

/-- The cells of a slice that grew. -/
theorem grown_cells {olds news : List Value} {z : Array Value} {sz n m cap : Nat} (hz : z.size = sz) (ho : olds.length = n * sz) (hn : news.length = m * sz) (hc : n + m ≤ cap) :
    ((olds ++ news).toArray ++ Builtin.zeroCells z (cap - (n + m))).size = cap * sz ∧
    (∀ j, j < n * sz → ((olds ++ news).toArray ++ Builtin.zeroCells z (cap - (n + m))).getD j Go.undef = olds.getD j Go.undef) ∧
    (∀ j, j < m * sz → ((olds ++ news).toArray ++ Builtin.zeroCells z (cap - (n + m))).getD (n * sz + j) Go.undef = news.getD j Go.undef) := by
  have hs : (Builtin.zeroCells z (cap - (n + m))).size = (cap - (n + m)) * sz := by rw [size_zeroCells, hz]
  refine ⟨?_, fun j hj => ?_, fun j hj => ?_⟩
  · simp only [Array.size_append, List.size_toArray, List.length_append, ho, hn, hs]
    rw [← Nat.add_mul, ← Nat.add_mul]
    congr 1
    omega
  · simp only [Array.getD_eq_getD_getElem?, List.getD_eq_getElem?_getD]
    rw [Array.getElem?_append_left (by simp; omega), List.getElem?_toArray, List.getElem?_append_left (by omega)]
  · simp only [Array.getD_eq_getD_getElem?, List.getD_eq_getElem?_getD]
    rw [Array.getElem?_append_left (by simp; omega), List.getElem?_toArray, List.getElem?_append_right (by omega), ho]
    congr 2
    omega

theorem oneCells_grown {l : List Value} {z : Array Value} {k : Nat} (hl : ∀ u ∈ l, u.oneCell' = true) (hz : OneCells z) (h0 : 0 < z.size) : OneCells (l.toArray ++ Builtin.zeroCells z k) := by
  intro j hj
  simp only [Array.size_append, List.size_toArray] at hj
  by_cases h : j < l.length
  · have e1 : (l.toArray ++ Builtin.zeroCells z k).getD j Go.undef = l[j] := by
      simp only [Array.getD_eq_getD_getElem?]
      rw [Array.getElem?_append_left (by simpa using h)]
      simp [h]
    rw [e1]
    exact hl _ (List.getElem_mem h)
  · have hk : j - l.length < k * z.size := by rw [size_zeroCells] at hj; omega
    have e1 : (l.toArray ++ Builtin.zeroCells z k).getD j Go.undef = z.getD ((j - l.length) % z.size) Go.undef := by
      simp only [Array.getD_eq_getD_getElem?]
      rw [Array.getElem?_append_right (by simp; omega)]
      have := getD_range_mod z (k * z.size) (j - l.length) hk h0
      simp only [Array.getD_eq_getD_getElem?] at this
      simpa [Builtin.zeroCells] using this
    rw [e1]
    exact hz _ (Nat.mod_lt _ h0)

theorem heap_drew (w : World) : w.drew.heap = w.heap := rfl

theorem HR.drew {w : World} {B : Blocks} {H : Roots} {V : Nat → Prop} (hr : HR w B H V) : HR w.drew B H V ∧ Mono w B H V w.drew B H V := by
  have hm : Mono w B H V w.drew B H V := ⟨Nat.le_refl _, fun _ _ h => ⟨h, rfl⟩, fun _ _ _ _ h => ⟨h, rfl⟩, fun r p _ h => .inr ⟨r, p, h⟩, fun _ _ h => h, fun _ h => h, fun _ rt h => .inr ⟨rt, h, rfl, fun _ _ h => ⟨h, rfl⟩⟩, rfl, rfl, rfl⟩
  exact ⟨⟨fun r rt h => (hr.root r rt h).mono hm (fun _ _ _ => ⟨rfl, fun _ _ => rfl⟩), hr.ver, hr.dom, hr.lev, hr.inj⟩, hm⟩

theorem run_firstCells_zero {P : Program} (w : World) (sz : Nat) (A : Option Addr) (len cap : Nat) : (Builtin.firstCells sz 0 (.slice A len cap)).run P w = .ok #[] w := by
  cases A with
  | none => exact run_firstCells_none w sz 0 len cap
  | some a => have := run_firstCells_some (P := P) w sz 0 a len cap [] (by simp) (fun j v h => by simp at h); simpa using this

/-- A root for a nil slice. -/
theorem ghostRoot {w : World} {B : Blocks} {hp : List (RId × Root)} {V : Nat → Prop} {ver : Nat} (hr : HR w B (lkH hp) V) (hver : ¬ V ver) (id : RId) (hid : id.1 ≠ 0) (sz : Nat) (c : Nat → Nat → PV) (A0 : Option Addr := none) :
    ∃ B', HR w B' (lkH (setH hp id (some ⟨ver, .own sz 0 c⟩))) (ors V ver) ∧ Mono w B (lkH hp) V w B' (lkH (setH hp id (some ⟨ver, .own sz 0 c⟩))) (ors V ver) ∧
      VR w B' (lkH (setH hp id (some ⟨ver, .own sz 0 c⟩))) (ors V ver) (.ref id ver [] sz 0 0) (.slice A0 0 0) := by
  let B' : Blocks := fun r p => if r = id then none else B r p
  have hB : ∀ r p b, B' r p = some b → r ≠ id ∧ B r p = some b := fun r p b h => by
    by_cases e : r = id
    · simp [B', e] at h
    · exact ⟨e, by simpa [B', e] using h⟩
  have hne : ∀ r p, r ≠ id → B' r p = B r p := fun r p h => by simp [B', h]
  have hlk : ∀ j, lkH (setH hp id (some ⟨ver, .own sz 0 c⟩)) j = if j = id then some ⟨ver, .own sz 0 c⟩ else lkH hp j := fun j => lookH_setH ..
  have hm : Mono w B (lkH hp) V w B' (lkH (setH hp id (some ⟨ver, .own sz 0 c⟩))) (ors V ver) := by
    refine ⟨Nat.le_refl _, fun b _ hf => ⟨fun r p h => hf r p (hB r p b h).2, rfl⟩, fun r p b h0 h => ⟨by rw [hne r p (fun e => hid (e ▸ h0))]; exact h, rfl⟩, fun r p b h => .inr ⟨r, p, (hB r p b h).2⟩, fun _ _ h => h, fun _ h => .inl h, fun j rt h => ?_, rfl, rfl, rfl⟩
    rw [hlk] at h
    split at h
    · cases h; exact .inl hver
    · rename_i hj; exact .inr ⟨rt, h, rfl, fun p s hp => ⟨hp, hne j p hj⟩⟩
  refine ⟨B', ⟨fun j rt h => ?_, fun j rt h => ?_, fun r p b h => ?_, fun j rt h => ?_, fun r p r' p' b h h' => hr.inj _ _ _ _ _ (hB r p b h).2 (hB r' p' b h').2⟩, hm, .ref (.inr rfl) fun rt h _ => ?_⟩
  · rw [hlk] at h
    split at h
    · rename_i e; subst e; cases h; exact .own (.nil (A := A0) (by simp [B']))
    · rename_i hj; exact (hr.root j rt h).mono hm (fun t s _ => ⟨hne j t hj, fun _ _ => rfl⟩)
  · rw [hlk] at h
    split at h
    · cases h; exact .inr rfl
    · exact .inl (hr.ver j rt h)
  · obtain ⟨h1, h2⟩ := hB r p b h
    obtain ⟨h3, h4⟩ := hr.dom r p b h2
    exact ⟨h3, h4.imp (fun h => h) fun ⟨rt, s, h5, h6⟩ => ⟨rt, s, by rw [hlk, if_neg h1]; exact h5, h6⟩⟩
  · rw [hlk] at h
    split at h
    · rename_i e; rw [e]; exact hid
    · exact hr.lev j rt h
  · rw [hlk, if_pos rfl] at h
    cases h
    exact ⟨0, at_nil.2 rfl, Nat.le_refl _, Nat.le_refl _, .inr ⟨by simp [B'], ⟨A0, rfl⟩, rfl⟩⟩

theorem run_append_zero {P : Program} {w : World} {t ty e : TypeId} {i : TypeInfo} (ht : P.underlying t = some (.slice e)) (hi : P.info? e = some i) {x : Value} (hs : Src P i.size t x 0 [] w) (base : Option Addr) (n cap : Nat) (hc : n ≤ cap) :
    (Builtin.append_ #[t, t] ty #[.slice base n cap, x]).run P w = .ok (.slice base n cap) w := by
  have hl := hs.len w
  have hcs := hs.cells
  cases base <;> simp [Builtin.append_, run_underlying ht, sizeOf, typeInfo, hi, hl, hcs, hc, storeCells]

/-- The grown node, and its value, behind its memory's turn. -/
theorem grow_fin {w w' : World} {B B' : Blocks} {hp : List (RId × Root)} {V : Nat → Prop} {ver : Nat} {r : RId} {rt : Root} {sz n m : Nat} {f c : Nat → Nat → PV} {xb : Option Nat} (hr : HR w B (lkH hp) V) (hver : ¬ V ver) (hH : lkH hp r = some rt) (hnode : rt.node = .own sz n f)
    (g : Regrow w w' B B' (lkH hp) (lkH (setH hp r (some ⟨ver, .own sz (n + m) fun i o => if i < n then f i o else c (i - n) o⟩))) r xb ⟨ver, .own sz (n + m) fun i o => if i < n then f i o else c (i - n) o⟩) {b cap : Nat} {cs cs' : Array Value} {e : TypeId}
    (hx : xb = some b) (hold : ∀ i o, i < n → o < sz → TR w B (lkH hp) V r [(i, o)] (f i o) (cs.getD (i * sz + o) Go.undef)) (hh : w'.heap[b]? = some (.cells cs' e (0, 0))) (hcap : cap * sz ≤ cs'.size) (hone : OneCells cs') (hle : n + m ≤ cap) (hmax : n + m ≤ 140737488355328)
    (h1 : ∀ i o, i < n → o < sz → cs'.getD (i * sz + o) Go.undef = cs.getD (i * sz + o) Go.undef) (h2 : ∀ i o, i < m → o < sz → VR w B (lkH hp) V (c i o) (cs'.getD ((n + i) * sz + o) Go.undef)) {Ad : Addr} (hAd : 0 < cap → Ad = ⟨b, 0, none⟩) :
    HR w' B' (lkH (setH hp r (some ⟨ver, .own sz (n + m) fun i o => if i < n then f i o else c (i - n) o⟩))) (ors V ver) ∧
    Mono w B (lkH hp) V w' B' (lkH (setH hp r (some ⟨ver, .own sz (n + m) fun i o => if i < n then f i o else c (i - n) o⟩))) (ors V ver) ∧
    VR w' B' (lkH (setH hp r (some ⟨ver, .own sz (n + m) fun i o => if i < n then f i o else c (i - n) o⟩))) (ors V ver) (.ref r ver [] sz 0 (n + m)) (.slice (some Ad) (n + m) cap) := by
  have hm := g.mono hr hver rfl hH
  have hBr : B' r [] = some b := by rw [g.blk, if_pos ⟨rfl, rfl⟩, hx]
  have hne : ∀ i o t k, B r ((i, o) :: t) = some k → xb ≠ some k := by
    intro i o t k h1 e
    rcases g.old with h | ⟨nb, h, h3⟩
    · have := (hr.inj _ _ _ _ _ h1 (h ▸ e)).2; cases this
    · rw [h] at e; cases e; have := (hr.dom _ _ _ h1).1; omega
  have htr : TR w' B' (lkH (setH hp r (some ⟨ver, .own sz (n + m) fun i o => if i < n then f i o else c (i - n) o⟩))) (ors V ver) r [] (.own sz (n + m) fun i o => if i < n then f i o else c (i - n) o) (.slice (some Ad) (n + m) cap) := by
    refine .own hAd hBr hh ⟨hcap, hone⟩ hle hmax fun i o hi ho => ?_
    by_cases h : i < n
    · simp only [h, if_true]
      rw [h1 i o h ho]
      refine (hold i o h ho).mono hm fun t s _ => ⟨?_, fun k hk => g.heap k (hr.dom _ _ _ hk).1 (hne _ _ _ _ hk)⟩
      show B' r ((i, o) :: t) = B r ((i, o) :: t)
      rw [g.blk, if_neg (fun e => by cases e.2)]
    · simp only [h, if_false]
      have := h2 (i - n) o (by omega) ho
      rw [show n + (i - n) = i by omega] at this
      exact .leaf (this.mono hm)
  refine ⟨g.hr hr hver hH hnode (by omega) (fun i o hi => by simp [hi]) (fun _ _ => trivial) htr, hm, .ref (.inr rfl) fun rt2 h _ => ?_⟩
  rw [lookH_setH, if_pos rfl] at h
  cases h
  refine ⟨n + m, at_nil.2 rfl, Nat.zero_le _, Nat.le_refl _, .inl ⟨b, Ad, cap, e, cs'.size, hBr, rfl, by omega, fun h => by rw [hAd h]; simp, ?_, by simpa using hcap⟩⟩
  simp [World.shape?, hh]

theorem Real.append {P : Program} {w : World} {B : Blocks} {hp : List (RId × Root)} {V : Nat → Prop} {ver : Nat} (hr : HR w B (lkH hp) V) (hver : ¬ V ver) (id : RId) (hid : id.1 ≠ 0) (t ty : TypeId) {x y : PV} {vx vy : Value}
    (hx : VR w B (lkH hp) V x vx) (hy : VR w B (lkH hp) V y vy) : Real P w B hp V ver (Builtin.append_ #[t, t] ty #[vx, vy]) (appendA P id ver t x y) := by
  intro K hK
  unfold appendA at hK
  split at hK
  · rename_i e he
    split at hK
    · rename_i z hz
      obtain ⟨⟨hzl, h0, hdry⟩, hK⟩ := hK
      have hu := sliceOf_some he
      obtain ⟨zv, e1, e2, e3⟩ := zeroL_some hz w
      have hi : (P.info? e).isSome := by unfold zeroL at hz; cases hh : P.info? e <;> simp_all
      obtain ⟨i, hi'⟩ := Option.isSome_iff_exists.1 hi
      have hbytes : P.bytesOf e = i.bytes := by simp [Program.bytesOf, hi']
      have hsize : i.size = z.length := by rw [hzl]; simp [Program.cellsOf, hi']
      obtain ⟨zz, hzz, hzzl⟩ : ∃ zz, i.zero = some zz ∧ zz.cells.toList.map cv = z := by
        unfold zeroL at hz
        rw [hi'] at hz
        simp only [Option.bind_some, Option.map_eq_some_iff] at hz
        obtain ⟨zz, h1, h2⟩ := hz
        exact ⟨zz, h1, h2⟩
      have hzzs : zz.cells.size = z.length := by rw [← hzzl]; simp
      have hzone : OneCells zz.cells := by
        have hL : LR w B (lkH hp) V z zz.cells := ⟨hzzs.symm, fun j hj => by
          rw [← hzzl]
          have : j < zz.cells.size := by omega
          simp [List.getD_eq_getElem?_getD, Array.getD_eq_getD_getElem?, this]
          exact VR.cv _⟩
        exact oneCells_of hL fun c hc => dryCell_one (List.all_eq_true.1 hdry c hc)
      have hu' := hu
      have hrun0 := fun (base : Option Addr) (n cap : Nat) (hc : n ≤ cap) (hs : Src P i.size t vy 0 [] w) => run_append_zero (ty := ty) hu hi' hs base n cap hc
      split at hK
      · -- onto nil
        cases hx
        obtain ⟨m, c, val, hk, hsrc, hval⟩ := srcA_wp hr hu h0 hy hK
        obtain ⟨⟨hb1, hb2⟩, hk⟩ := hk
        rcases Nat.eq_zero_or_pos m with rfl | hm
        · obtain ⟨B', g1, g2, g3⟩ := ghostRoot hr hver id hid z.length c
          refine ⟨_, w, B', _, _, hrun0 none 0 0 (Nat.le_refl _) (by rw [hsize]; simpa using hsrc), hk, g3, g1, g2⟩
        · obtain ⟨hrd, hmd⟩ := hr.drew
          have hsrc' : Src P i.size t vy m ((List.range (m * z.length)).map val) w := by rw [hsize]; exact hsrc
          have hrun := run_append_grow_src w t t ty e i zz hu hi' hzz none 0 0 [] (run_firstCells_none w.drew i.size 0 0 0) vy m _ hsrc' (by omega) (by omega) (growslice_fits (by omega) (by rw [← hbytes]; simpa using hb1))
          simp only [Nat.zero_add, List.nil_append] at hrun
          have hge := grownCap_ge w m 0 e
          obtain ⟨q1, q2, q3⟩ := grown_cells (olds := []) (news := (List.range (m * z.length)).map val) (z := zz.cells) (sz := z.length) (n := 0) (m := m) (cap := grownCap w m 0 e) hzzs (by simp) (by simp) (by omega)
          simp only [Nat.zero_add, List.nil_append, Nat.zero_mul] at q1 q2 q3
          have hone : OneCells (((List.range (m * z.length)).map val).toArray ++ Builtin.zeroCells zz.cells (grownCap w m 0 e - m)) := oneCells_grown hsrc.one hzone (by omega)
          have hf : Fresh w.drew B (lkH hp) V z.length m (.own z.length m c) (fun _ _ => none) (((List.range (m * z.length)).map val).toArray ++ Builtin.zeroCells zz.cells (grownCap w m 0 e - m)) := by
            refine ⟨fun i o hi ho _ => ?_, (fun i o r _ _ h => by cases h), (fun _ _ _ _ _ _ _ _ _ h => by cases h), hone⟩
            have hj : i * z.length + o < m * z.length := by have := mul_lt_le (s := z.length) hi; omega
            rw [q3 _ hj, getD_rangeMap _ _ _ hj]
            exact (hval i o hi ho).mono hmd
          obtain ⟨g1, g2⟩ := newRoot (hp' := setH hp id (some ⟨ver, .own z.length m c⟩)) hrd hver id hid (q := true) rfl e hf (.inl rfl) (by omega) (by
            simp only [if_true]
            rw [q1]
            exact Nat.mul_le_mul_right _ hge) (fun r => by rw [lookH_setH]; simp)
          refine ⟨_, _, _, _, _, hrun, hk, .ref (.inr rfl) (fun rt h _ => ?_), g1, hmd.trans g2⟩
          rw [lookH_setH, if_pos rfl] at h
          cases h
          exact ⟨m, at_nil.2 rfl, Nat.zero_le _, Nat.le_refl _, .inl ⟨w.heap.size, ⟨w.heap.size, 0, none⟩, grownCap w m 0 e, e, (((List.range (m * z.length)).map val).toArray ++ Builtin.zeroCells zz.cells (grownCap w m 0 e - m)).size, by simp [movedB, heap_drew], rfl, by omega, fun _ => by simp, by
            have hnew := heap_alloc_new w.drew (.cells (((List.range (m * z.length)).map val).toArray ++ Builtin.zeroCells zz.cells (grownCap w m 0 e - m)) e)
            rw [heap_drew] at hnew
            simp only [World.shape?, hnew], by rw [q1]; simp⟩⟩
      · -- onto what is frozen and has no room
        rename_i sz' n f
        obtain ⟨⟨rfl, hfd⟩, hK⟩ := hK
        obtain ⟨m, c, val, hk, hsrc, hval⟩ := srcA_wp hr hu h0 hy hK
        obtain ⟨⟨hb1, hb2, hnm⟩, hk⟩ := hk
        cases hx with
        | @fcl _ _ _ _ _ A gv hmx hA hg =>
        rcases Nat.eq_zero_or_pos m with rfl | hm
        · obtain rfl : n = 0 := by omega
          obtain ⟨B', g1, g2, g3⟩ := ghostRoot hr hver id hid z.length (fun i o => if i < 0 then f i o else c (i - 0) o) A
          refine ⟨_, w, B', _, _, hrun0 A 0 0 (Nat.le_refl _) (by rw [hsize]; simpa using hsrc), hk, g3, g1, g2⟩
        · obtain ⟨hrd, hmd⟩ := hr.drew
          have hsrc' : Src P i.size t vy m ((List.range (m * z.length)).map val) w := by rw [hsize]; exact hsrc
          have hdm : ∀ {k j : Nat}, j < k * z.length → j / z.length < k ∧ j % z.length < z.length ∧ j / z.length * z.length + j % z.length = j := fun {k j} hj => ⟨(Nat.div_lt_iff_lt_mul h0).2 hj, Nat.mod_lt _ h0, by rw [Nat.mul_comm]; exact Nat.div_add_mod j z.length⟩
          have hold : (Builtin.firstCells i.size n (.slice A n n)).run P w.drew = .ok ((List.range (n * z.length)).map fun j => gv (j / z.length) (j % z.length)).toArray w.drew := by
            rw [hsize]
            rcases Nat.eq_zero_or_pos n with rfl | hn
            · have := run_firstCells_zero (P := P) w.drew z.length A 0 0
              simpa using this
            · obtain ⟨b, off, rfl, _, _, hc⟩ := hA hn
              refine run_firstCells_some w.drew z.length n ⟨b, off, none⟩ n n _ (by simp) (fun j u hu => ?_)
              simp only [List.getElem?_map] at hu
              have hj : j < n * z.length := by
                rcases Nat.lt_or_ge j (n * z.length) with h1 | h1
                · exact h1
                · rw [List.getElem?_eq_none (by simpa using h1)] at hu; cases hu
              rw [List.getElem?_range hj] at hu
              simp only [Option.map_some, Option.some.injEq] at hu
              subst hu
              obtain ⟨d1, d2, d3⟩ := hdm hj
              have := hc _ _ d1 d2
              rw [d3] at this
              rw [add_plain]
              exact this
          have hrun := run_append_grow_src w t t ty e i zz hu hi' hzz A n n _ hold vy m _ hsrc' (by omega) (by omega) (growslice_fits (by omega) (by rw [← hbytes]; exact hb1))
          have hge := grownCap_ge w (n + m) n e
          obtain ⟨q1, q2, q3⟩ := grown_cells (olds := (List.range (n * z.length)).map fun j => gv (j / z.length) (j % z.length)) (news := (List.range (m * z.length)).map val) (z := zz.cells) (sz := z.length) (n := n) (m := m) (cap := grownCap w (n + m) n e) hzzs (by simp) (by simp) hge
          generalize hcells : (((List.range (n * z.length)).map fun j => gv (j / z.length) (j % z.length)) ++ (List.range (m * z.length)).map val).toArray ++ Builtin.zeroCells zz.cells (grownCap w (n + m) n e - (n + m)) = cells at hrun q1 q2 q3
          have hone : OneCells cells := by
            rw [← hcells]
            refine oneCells_grown (fun u hu => ?_) hzone (by omega)
            rcases List.mem_append.1 hu with h | h
            · obtain ⟨j, hj, rfl⟩ := List.mem_map.1 h
              obtain ⟨d1, d2, _⟩ := hdm (List.mem_range.1 hj)
              have hd := hfd _ d1 _ d2
              exact ((hg _ _ d1 d2).oneCell (dryCell_one (H := H0) hd).1 (dryCell_one (H := H0) hd).2).1
            · exact hsrc.one u h
          have hf : Fresh w.drew B (lkH hp) V z.length (n + m) (.own z.length (n + m) fun i o => if i < n then f i o else c (i - n) o) (fun _ _ => none) cells := by
            refine ⟨fun i o hi ho _ => ?_, (fun i o r _ _ h => by cases h), (fun _ _ _ _ _ _ _ _ _ h => by cases h), hone⟩
            simp only [cellAt]
            by_cases hin : i < n
            · rw [if_pos hin]
              have hj : i * z.length + o < n * z.length := by have := mul_lt_le (s := z.length) hin; omega
              rw [q2 _ hj, getD_rangeMap _ _ _ hj]
              have e1 : (i * z.length + o) / z.length = i := by rw [Nat.mul_comm, Nat.mul_add_div h0, Nat.div_eq_of_lt ho, Nat.add_zero]
              have e2 : (i * z.length + o) % z.length = o := by rw [Nat.mul_comm, Nat.mul_add_mod, Nat.mod_eq_of_lt ho]
              simp only [e1, e2]
              exact ((hg i o hin ho).lift (fun _ _ _ h => h)).mono hmd
            · rw [if_neg hin]
              have hj : (i - n) * z.length + o < m * z.length := by have := mul_lt_le (s := z.length) (show i - n < m by omega); omega
              rw [show i * z.length + o = n * z.length + ((i - n) * z.length + o) by rw [← Nat.add_assoc, ← Nat.add_mul]; congr 2; omega, q3 _ hj, getD_rangeMap _ _ _ hj]
              exact (hval _ o (by omega) ho).mono hmd
          obtain ⟨g1, g2⟩ := newRoot (hp' := setH hp id (some ⟨ver, .own z.length (n + m) fun i o => if i < n then f i o else c (i - n) o⟩)) hrd hver id hid (q := true) rfl e hf (.inl rfl) (by omega) (by
            simp only [if_true]
            rw [q1]
            exact Nat.mul_le_mul_right _ hge) (fun r => by rw [lookH_setH]; simp)
          refine ⟨_, _, _, _, _, hrun, hk, .ref (.inr rfl) (fun rt h _ => ?_), g1, hmd.trans g2⟩
          rw [lookH_setH, if_pos rfl] at h
          cases h
          exact ⟨n + m, at_nil.2 rfl, Nat.zero_le _, Nat.le_refl _, .inl ⟨w.heap.size, ⟨w.heap.size, 0, none⟩, grownCap w (n + m) n e, e, cells.size, by simp [movedB, heap_drew], rfl, by omega, fun _ => by simp, by
            have hnew := heap_alloc_new w.drew (.cells cells e)
            rw [heap_drew] at hnew
            simp only [World.shape?, hnew], by rw [q1]; simp⟩⟩
      · -- onto a root
        rename_i r v sz' hi0
        simp only [A.wp] at hK
        cases hH : lkH hp r with
        | none => rw [hH] at hK; exact hK.elim
        | some rt =>
          rw [hH] at hK
          simp only at hK
          split at hK
          · rename_i sz'' n f hnode
            obtain ⟨⟨hvr, rfl, rfl, rfl⟩, hK⟩ := hK
            obtain ⟨m, c, val, hk, hsrc, hval⟩ := srcA_wp hr hu h0 hy hK
            obtain ⟨⟨hb1, hb2⟩, hk⟩ := hk
            have hsrc' : Src P i.size t vy m ((List.range (m * z.length)).map val) w := by rw [hsize]; exact hsrc
            cases hx with
            | ref hv hx =>
            obtain ⟨n', hat, _, hle, hx⟩ := hx rt hH hvr
            have hnn : n' = hi0 := by
              have := hat.2
              rw [hnode] at this
              simp [getAt, shapeOf] at this
              exact this.symm
            subst hnn
            have hroot := (hr.root r rt hH).node [] hat
            rw [hnode] at hroot
            have hlkr : ∀ j, lkH (setH hp r (some ⟨ver, .own z.length (n' + m) fun i o => if i < n' then f i o else c (i - n') o⟩)) j = if j = r then some ⟨ver, .own z.length (n' + m) fun i o => if i < n' then f i o else c (i - n') o⟩ else lkH hp j := fun j => lookH_setH ..
            have hrid : r.1 ≠ 0 := hr.lev r rt hH
            -- the new block
            have grow : ∀ (base : Option Addr) (cap : Nat) (cs : Array Value), vx = .slice base n' cap → cap < n' + m → (Builtin.firstCells i.size n' (.slice base n' cap)).run P w.drew = .ok ((List.range (n' * z.length)).map fun j => cs.getD j Go.undef).toArray w.drew →
                (∀ j, j < n' * z.length → (cs.getD j Go.undef).oneCell' = true) → (∀ i o, i < n' → o < z.length → TR w B (lkH hp) V r [(i, o)] (f i o) (cs.getD (i * z.length + o) Go.undef)) →
                ∃ v w' B' hp' x', (Builtin.append_ #[t, t] ty #[vx, vy]).run P w = .ok v w' ∧ K x' hp' ∧ VR w' B' (lkH hp') (ors V ver) x' v ∧ HR w' B' (lkH hp') (ors V ver) ∧ Mono w B (lkH hp) V w' B' (lkH hp') (ors V ver) := by
              rintro base cap cs rfl hg hold holdone htr
              have hrun := run_append_grow_src w t t ty e i zz hu hi' hzz base n' cap _ hold vy m _ hsrc' hg (by omega) (growslice_fits hg (by rw [← hbytes]; exact hb1))
              have hge := grownCap_ge w (n' + m) cap e
              obtain ⟨q1, q2, q3⟩ := grown_cells (olds := (List.range (n' * z.length)).map fun j => cs.getD j Go.undef) (news := (List.range (m * z.length)).map val) (z := zz.cells) (sz := z.length) (n := n') (m := m) (cap := grownCap w (n' + m) cap e) hzzs (by simp) (by simp) hge
              generalize hcells : (((List.range (n' * z.length)).map fun j => cs.getD j Go.undef) ++ (List.range (m * z.length)).map val).toArray ++ Builtin.zeroCells zz.cells (grownCap w (n' + m) cap e - (n' + m)) = cells at hrun q1 q2 q3
              have hone : OneCells cells := by
                rw [← hcells]
                refine oneCells_grown (fun u hu => ?_) hzone (by omega)
                rcases List.mem_append.1 hu with h | h
                · obtain ⟨j, hj, rfl⟩ := List.mem_map.1 h
                  exact holdone j (List.mem_range.1 hj)
                · exact hsrc.one u h
              obtain ⟨hrd, hmd⟩ := hr.drew
              have hlt : ∀ i o, i < n' → o < z.length → i * z.length + o < n' * z.length := fun i o hi ho => by have := mul_lt_le (s := z.length) hi; omega
              have g : Regrow w (w.drew.alloc (.cells cells e)) B (fun r' p => if r' = r ∧ p = [] then some w.heap.size else B r' p) (lkH hp) (lkH (setH hp r (some ⟨ver, .own z.length (n' + m) fun i o => if i < n' then f i o else c (i - n') o⟩))) r (some w.heap.size) ⟨ver, .own z.length (n' + m) fun i o => if i < n' then f i o else c (i - n') o⟩ := by
                refine ⟨fun _ _ => rfl, .inr ⟨_, rfl, Nat.le_refl _⟩, fun b h => ?_, hlkr, ?_, fun k hk _ => heap_alloc_lt w.drew _ hk, fun k s hs => ?_, rfl, rfl, rfl⟩
                · cases h; simp [heap_drew]
                · simp [heap_drew]
                · have hk : k < w.heap.size := shape_lt hs
                  simp only [World.shape?] at hs ⊢
                  rw [heap_alloc_lt w.drew _ hk]
                  exact hs
              have hnew : (w.drew.alloc (.cells cells e)).heap[w.heap.size]? = some (.cells cells e (0, 0)) := heap_alloc_new w.drew _
              obtain ⟨k1, k2, k3⟩ := grow_fin hr hver hH hnode g (b := w.heap.size) (cap := grownCap w (n' + m) cap e) (cs := cs) (cs' := cells) (e := e) rfl htr hnew (by rw [q1]; exact Nat.le_refl _) hone hge hb2
                (fun i o hi ho => by rw [q2 _ (hlt i o hi ho), getD_rangeMap _ _ _ (hlt i o hi ho)])
                (fun i o hi ho => by
                  have hj : i * z.length + o < m * z.length := by have := mul_lt_le (s := z.length) hi; omega
                  rw [show (n' + i) * z.length + o = n' * z.length + (i * z.length + o) by rw [Nat.add_mul]; omega, q3 _ hj, getD_rangeMap _ _ _ hj]
                  exact hval i o hi ho) (Ad := ⟨w.heap.size, 0, none⟩) (fun _ => rfl)
              exact ⟨_, _, _, _, _, hrun, hk, k3, k1, k2⟩
            rcases hx with ⟨b, A, cap, e', mm, hB, rfl, hcap, hA, hsh, hle'⟩ | ⟨hB, ⟨A0, rfl⟩, h00⟩
            · simp only [Nat.sub_zero] at *
              rcases hroot.out with ⟨hBn, _⟩ | ⟨b', cs, e2, hB', hh, ⟨hsz, hone⟩, htr⟩
              · rw [hB] at hBn; cases hBn
              · obtain rfl : b' = b := by rw [hB] at hB'; exact (Option.some.inj hB').symm
                have hmm : mm = cs.size := by simp [World.shape?, hh] at hsh; exact hsh.2.symm
                have hcs : cap * z.length ≤ cs.size := by rw [← hmm]; simpa using hle'
                have htr' : ∀ i o, i < n' → o < z.length → TR w B (lkH hp) V r [(i, o)] (f i o) (cs.getD (i * z.length + o) Go.undef) := fun i o hi ho => by simpa [getAt, cellAt] using (htr i o hi ho).1
                have hncs : n' * z.length ≤ cs.size := Nat.le_trans (Nat.mul_le_mul_right _ (by omega)) hcs
                by_cases hroom : n' + m ≤ cap
                · -- there is room
                  have gB : ∀ w' : World, w.heap.size ≤ w'.heap.size → (∀ k, k ≠ b' → w'.heap[k]? = w.heap[k]?) → (∀ k s, w.shape? k = some s → w'.shape? k = some s) → w'.os = w.os → w'.tape = w.tape → w'.output = w.output →
                      Regrow w w' B B (lkH hp) (lkH (setH hp r (some ⟨ver, .own z.length (n' + m) fun i o => if i < n' then f i o else c (i - n') o⟩))) r (some b') ⟨ver, .own z.length (n' + m) fun i o => if i < n' then f i o else c (i - n') o⟩ := by
                    intro w' j1 j2 j3 j4 j5 j6
                    refine ⟨fun r' p => ?_, .inl hB.symm, fun b h => ?_, hlkr, j1, fun k _ hne => j2 k (fun e => hne (by rw [e])), j3, j4, j5, j6⟩
                    · split
                      · rename_i e; obtain ⟨rfl, rfl⟩ := e; exact hB
                      · rfl
                    · cases h; exact Nat.lt_of_lt_of_le (hr.dom _ _ _ hB).1 j1
                  rcases Nat.eq_zero_or_pos m with rfl | hm
                  · have hrun := hrun0 (some A) n' cap (by omega) (by simpa using hsrc')
                    obtain ⟨k1, k2, k3⟩ := grow_fin hr hver hH hnode (gB w (Nat.le_refl _) (fun _ _ => rfl) (fun _ _ h => h) rfl rfl rfl) (b := b') (cap := cap) (cs := cs) (cs' := cs) (e := e2) rfl htr' hh hcs hone hroom hb2 (fun _ _ _ _ => rfl) (fun i o hi => by omega) (Ad := A) (fun h => by simpa using hA h)
                    exact ⟨_, _, _, _, _, by simpa using hrun, hk, k3, k1, k2⟩
                  · obtain rfl := hA (by omega)
                    simp only [Nat.zero_mul] at *
                    have hfit : n' * z.length + ((List.range (m * z.length)).map val).length ≤ cs.size := by
                      have := Nat.mul_le_mul_right z.length hroom
                      rw [Nat.add_mul] at this
                      simp
                      omega
                    obtain ⟨cs', s1, s2, s3, s4, s5, s6, s7, s8⟩ := setCells_facts ((List.range (m * z.length)).map val) (n' * z.length) w cs hh hfit
                    have hrun := run_append_room_src w t t ty e i hu hi' b' 0 n' cap vy m _ hsrc' hroom (fun j hj => by
                      rw [hsize]
                      have : n' * z.length + j < cs.size := by omega
                      simp [World.cell?, hh, this]) (fun j hj => by
                      simp [World.frozen?, hh])
                    rw [hsize, Nat.zero_add] at hrun
                    have hlt : ∀ i o, i < n' → o < z.length → i * z.length + o < n' * z.length := fun i o hi ho => by have := mul_lt_le (s := z.length) hi; omega
                    obtain ⟨k1, k2, k3⟩ := grow_fin hr hver hH hnode (gB _ (by rw [s4]; exact Nat.le_refl _) s5 (fun k s hs => by
                        by_cases hk : k = b'
                        · subst hk
                          simp only [World.shape?, hh] at hs
                          simp only [World.shape?, s1, s2]
                          exact hs
                        · simp only [World.shape?, s5 k hk]; exact hs) s6 s7 s8) (b := b') (cap := cap) (cs := cs) (cs' := cs') (e := e2) rfl htr' s1 (by rw [s2]; exact hcs) (fun j hj => by
                        rw [s3]
                        by_cases h : n' * z.length ≤ j ∧ j < n' * z.length + ((List.range (m * z.length)).map val).length
                        · rw [if_pos h]
                          refine hsrc.one _ ?_
                          simp [List.getD_eq_getElem?_getD]
                          have : j - n' * z.length < m * z.length := by simp at h; omega
                          simp [this]
                          exact ⟨_, this, rfl⟩
                        · rw [if_neg h]; exact hone j (by rw [← s2]; exact hj)) hroom hb2
                      (fun i o hi ho => by rw [s3, if_neg (by have := hlt i o hi ho; omega)])
                      (fun i o hi ho => by
                        have hj : i * z.length + o < m * z.length := by have := mul_lt_le (s := z.length) hi; omega
                        rw [s3, show (n' + i) * z.length + o = n' * z.length + (i * z.length + o) by rw [Nat.add_mul]; omega, if_pos (by simp; omega), Nat.add_sub_cancel_left, getD_rangeMap _ _ _ hj]
                        exact hval i o hi ho) (Ad := ⟨b', 0, none⟩) (fun _ => rfl)
                    exact ⟨_, _, _, _, _, hrun, hk, k3, k1, k2⟩
                · refine grow (some A) cap cs rfl (by omega) ?_ (fun j hj => hone j (by omega)) htr'
                  rw [hsize]
                  refine run_firstCells_some w.drew z.length n' A n' cap _ (by simp) (fun j u hu => ?_)
                  simp only [List.getElem?_map] at hu
                  have hj : j < n' * z.length := by
                    rcases Nat.lt_or_ge j (n' * z.length) with h1 | h1
                    · exact h1
                    · rw [List.getElem?_eq_none (by simpa using h1)] at hu; cases hu
                  rw [List.getElem?_range hj] at hu
                  simp only [Option.map_some, Option.some.injEq] at hu
                  subst hu
                  have hn0 : 0 < n' := by
                    rcases Nat.eq_zero_or_pos n' with h | h
                    · subst h; omega
                    · exact h
                  rw [hA (by omega), add_plain]
                  have : j < cs.size := by omega
                  simp [World.cell?, heap_drew, hh, this, Array.getD_eq_getD_getElem?]
            · subst h00
              simp only [Nat.sub_zero] at *
              rcases Nat.eq_zero_or_pos m with rfl | hm
              · have hrun := hrun0 A0 0 0 (Nat.le_refl _) (by simpa using hsrc')
                have g : Regrow w w B B (lkH hp) (lkH (setH hp r (some ⟨ver, .own z.length (0 + 0) fun i o => if i < 0 then f i o else c (i - 0) o⟩))) r none ⟨ver, .own z.length (0 + 0) fun i o => if i < 0 then f i o else c (i - 0) o⟩ := by
                  refine ⟨fun r' p => ?_, .inl hB.symm, (fun b h => by cases h), hlkr, Nat.le_refl _, fun _ _ _ => rfl, fun _ _ h => h, rfl, rfl, rfl⟩
                  split
                  · rename_i e; obtain ⟨rfl, rfl⟩ := e; exact hB
                  · rfl
                have k2 := g.mono hr hver rfl hH
                have k1 := g.hr hr hver hH hnode (Nat.le_refl _) (fun i o hi => by omega) (fun _ _ => trivial) (v := .slice A0 0 0) (.nil hB)
                refine ⟨_, w, B, _, _, hrun, hk, .ref (.inr rfl) fun rt2 h _ => ?_, k1, k2⟩
                rw [lookH_setH, if_pos rfl] at h
                cases h
                exact ⟨0, at_nil.2 rfl, Nat.le_refl _, Nat.le_refl _, .inr ⟨hB, ⟨_, rfl⟩, rfl⟩⟩
              · refine grow A0 0 #[] rfl (by omega) ?_ (fun j hj => by omega) (fun i o hi => by omega)
                rw [hsize]
                have := run_firstCells_zero (P := P) w.drew z.length A0 0 0
                simpa using this
          · exact hK.elim
      · exact hK.elim
    · exact hK.elim
  · exact hK.elim
end Go.Ab
/- Equality beyond numbers and strings. -/
namespace Go.Ab
open Classical

def eqFin (op : BinOp) (b : Bool) : A := match op with
  | .eql => .ret (.bool b)
  | .neq => .ret (.bool !b)
  | _ => .fail

/-- A comparison with nil of what is not nil where `p` holds, and may be nil else. -/
def nilE (op : BinOp) (p : Prop) [Decidable p] : A := .dec p fun b => match b with
  | true => eqFin op false
  | false => .any fun b => eqFin op b

theorem nilE_wp {op : BinOp} {p : Prop} [Decidable p] {hp : List (RId × Root)} {K : PV → List (RId × Root) → Prop} (h : (nilE op p).wp hp K) {b : Bool} (hb : p → b = false) : (eqFin op b).wp hp K := by
  unfold nilE at h
  simp only [A.wp] at h
  by_cases hp' : p
  · rw [hb hp']
    simpa [hp'] using h
  · have : (A.any fun b => eqFin op b).wp hp K := by simpa [hp'] using h
    exact this b

def eqA (P : Program) (t : TypeId) (op : BinOp) (x y : PV) : A := match P.underlying t, x, y with
  | some .bool, .bool a, .bool b => eqFin op (a == b)
  | some (.slice _), .nils, .nils => eqFin op true
  | some (.slice _), .frz _ n _, .nils => nilE op (0 < n)
  | some (.slice _), .fcl _ n _, .nils => nilE op (0 < n)
  | some (.slice _), .ref r v _ _ lo hi, .nils => .rd r fun
    | some rt => .vc (rt.ver = v) (nilE op (lo < hi))
    | none => .fail
  | some (.pointer _), .nilp, .nilp => eqFin op true
  | some (.pointer _), .fptr .., .nilp => eqFin op false
  | some (.pointer _), .ptr r v _ _ _, .nilp => .rd r fun
    | some rt => .vc (rt.ver = v) (eqFin op false)
    | none => .fail
  | some (.func ..), .nilf, .nilf => eqFin op true
  | some (.func ..), .func .., .nilf => eqFin op false
  | _, _, _ => .fail

section
variable {P : Program} {w : World} {t : TypeId}
theorem eqIn_bool (d : Nat) (hu : P.underlying t = some .bool) (a b : Bool) : (Op.equalIn (d + 1) t (.bool a) (.bool b)).run P w = .ok (a == b) w := by
  simp only [Op.equalIn, Sem.run_bind, run_underlying' hu, Result.andThen_ok, Sem.run_pure]
theorem eqIn_slice (d : Nat) {e : TypeId} (hu : P.underlying t = some (.slice e)) (A : Option Addr) (n c : Nat) : (Op.equalIn (d + 1) t (.slice A n c) (.slice none 0 0)).run P w = .ok A.isNone w := by
  cases A <;> simp only [Op.equalIn, Sem.run_bind, run_underlying' hu, Result.andThen_ok, Sem.run_pure, Option.isNone]
theorem eqIn_ptr (d : Nat) {e : TypeId} (hu : P.underlying t = some (.pointer e)) (A : Option Addr) : (Op.equalIn (d + 1) t (.pointer A) (.pointer none)).run P w = .ok A.isNone w := by
  cases A <;> simp only [Op.equalIn, Sem.run_bind, run_underlying' hu, Result.andThen_ok, Sem.run_pure, Option.isNone]
theorem eqIn_func (d : Nat) {x y : Array TypeId} {z : Bool} (hu : P.underlying t = some (.func x y z)) (f : Fn) (a b : Array Value) : (Op.equalIn (d + 1) t (.func f a b) .nilFunc).run P w = .ok false w := by
  simp only [Op.equalIn, Sem.run_bind, run_underlying' hu, Result.andThen_ok, Sem.run_pure]
theorem eqIn_nilf (d : Nat) {x y : Array TypeId} {z : Bool} (hu : P.underlying t = some (.func x y z)) : (Op.equalIn (d + 1) t .nilFunc .nilFunc).run P w = .ok true w := by
  simp only [Op.equalIn, Sem.run_bind, run_underlying' hu, Result.andThen_ok, Sem.run_pure]
end

theorem eqFin_real {P : Program} {w : World} {B : Blocks} {hp : List (RId × Root)} {V : Nat → Prop} {op : BinOp} {t : TypeId} {ox oy : Operand} {vx vy : Value} {b : Bool} {K : PV → List (RId × Root) → Prop}
    (hg : (eqGuard op t ox oy vx vy).run P w = .ok () w) (he : (Op.equal t vx vy).run P w = .ok b w) (hb1 : binOp .eql t vx vy = (do let r ← Op.equal t vx vy; pure (.bool r))) (hb2 : binOp .neq t vx vy = (do let r ← Op.equal t vx vy; pure (.bool !r)))
    (hK : (eqFin op b).wp hp K) : ∃ v x, (do eqGuard op t ox oy vx vy; binOp op t vx vy : Sem Value).run P w = .ok v w ∧ K x hp ∧ VR w B (lkH hp) V x v := by
  unfold eqFin at hK
  split at hK
  · refine ⟨.bool b, _, ?_, hK, .bool _⟩
    rw [hb1]
    simp [hg, he]
  · refine ⟨.bool !b, _, ?_, hK, .bool _⟩
    rw [hb2]
    simp [hg, he]
  · exact hK.elim

theorem Real.eqA {P : Program} {w : World} {B : Blocks} {hp : List (RId × Root)} {V : Nat → Prop} {ver : Nat} (hr : HR w B (lkH hp) V) (op : BinOp) (t : TypeId) (ox oy : Operand) {x y : PV} {vx vy : Value}
    (hx : VR w B (lkH hp) V x vx) (hy : VR w B (lkH hp) V y vy) : Real P w B hp V ver (do eqGuard op t ox oy vx vy; binOp op t vx vy) (Ab.eqA P t op x y) := by
  refine .of_pure hr fun K hK => ?_
  unfold Ab.eqA at hK
  split at hK
  · rename_i a b hu
    cases hx; cases hy
    refine eqFin_real (b := a == b) (by unfold eqGuard; split <;> rfl) ?_ (by simp [binOp]) (by simp [binOp]) hK
    exact eqIn_bool 9999 hu a b
  · rename_i e hu
    cases hx; cases hy
    refine eqFin_real (b := true) (by unfold eqGuard; split <;> rfl) ?_ (by simp [binOp]) (by simp [binOp]) hK
    exact eqIn_slice 9999 hu none 0 0
  · rename_i e sz n f hu
    cases hy
    cases hx with
    | @frz _ _ _ _ _ A cap g hn hm hA hg =>
      have he : (Op.equal t (.slice A n cap) (.slice none 0 0)).run P w = .ok A.isNone w := by
        exact eqIn_slice 9999 hu A n cap
      refine eqFin_real (b := A.isNone) (by unfold eqGuard; split <;> rfl) he (by simp [binOp]) (by simp [binOp]) (nilE_wp hK fun h0 => ?_)
      obtain ⟨b, off, rfl, _⟩ := hA h0
      rfl
  · rename_i e sz n f hu
    cases hy
    cases hx with
    | @fcl _ _ _ _ _ A g hm hA hg =>
      have he : (Op.equal t (.slice A n n) (.slice none 0 0)).run P w = .ok A.isNone w := by
        exact eqIn_slice 9999 hu A n n
      refine eqFin_real (b := A.isNone) (by unfold eqGuard; split <;> rfl) he (by simp [binOp]) (by simp [binOp]) (nilE_wp hK fun h0 => ?_)
      obtain ⟨b, off, rfl, _⟩ := hA h0
      rfl
  · rename_i e r v p sz lo hi hu
    cases hy
    simp only [A.wp] at hK
    cases hH : lkH hp r with
    | none => rw [hH] at hK; exact hK.elim
    | some rt =>
      rw [hH] at hK
      obtain ⟨hv, hK⟩ := hK
      cases hx with
      | ref _ h =>
        obtain ⟨n, hat, hlo, hhi, hx⟩ := h rt hH hv
        have fin : ∀ A n cap, vx = .slice A n cap → (lo < hi → A.isNone = false) → ∃ v x, (do eqGuard op t ox oy vx (.slice none 0 0); binOp op t vx (.slice none 0 0) : Sem Value).run P w = .ok v w ∧ K x hp ∧ VR w B (lkH hp) V x v := by
          rintro A n cap rfl hA
          have he : (Op.equal t (.slice A n cap) (.slice none 0 0)).run P w = .ok A.isNone w := by
            exact eqIn_slice 9999 hu A n cap
          exact eqFin_real (b := A.isNone) (by unfold eqGuard; split <;> rfl) he (by simp [binOp]) (by simp [binOp]) (nilE_wp hK hA)
        rcases hx with ⟨b, A, cap, _, _, _, rfl, _⟩ | ⟨_, ⟨A0, rfl⟩, h0⟩
        · exact fin (some A) _ _ rfl (fun _ => rfl)
        · exact fin A0 _ _ rfl (fun h => by omega)
  · rename_i e hu
    cases hx; cases hy
    refine eqFin_real (b := true) (by unfold eqGuard; split <;> rfl) ?_ (by simp [binOp]) (by simp [binOp]) hK
    exact eqIn_ptr 9999 hu none
  · rename_i e _ _ _ hu
    cases hy
    cases hx with
    | fptr _ _ _ _ _ =>
      refine eqFin_real (b := false) (by unfold eqGuard; split <;> rfl) ?_ (by simp [binOp]) (by simp [binOp]) hK
      exact eqIn_ptr 9999 hu (some _)
  · rename_i e r v p i o hu
    cases hy
    simp only [A.wp] at hK
    cases hH : lkH hp r with
    | none => rw [hH] at hK; exact hK.elim
    | some rt =>
      rw [hH] at hK
      obtain ⟨hv, hK⟩ := hK
      cases hx with
      | ptr _ h =>
        obtain ⟨_, _, _, _, _, _, _, _, rfl⟩ := h rt hH hv
        refine eqFin_real (b := false) (by unfold eqGuard; split <;> rfl) ?_ (by simp [binOp]) (by simp [binOp]) hK
        exact eqIn_ptr 9999 hu (some _)
  · rename_i hu
    cases hx; cases hy
    refine eqFin_real (b := true) (by unfold eqGuard; split <;> rfl) ?_ (by simp [binOp]) (by simp [binOp]) hK
    exact eqIn_nilf 9999 hu
  · rename_i hu
    cases hy
    cases hx with
    | func _ _ _ _ =>
      refine eqFin_real (b := false) (by unfold eqGuard; split <;> rfl) ?_ (by simp [binOp]) (by simp [binOp]) hK
      exact eqIn_func 9999 hu _ _ _
  · exact hK.elim

end Go.Ab
/- Conversions; max and min. -/
namespace Go.Ab
open Classical

def convA (P : Program) (s d : TypeId) (x : PV) : A := match P.underlying s, P.underlying d, x with
  | some _, some (.int k), .int _ n => .ret (.int k (k.wrap n))
  | some _, some .string, .str b => .ret (.str b)
  | _, _, _ => .fail

theorem Real.conv {P : Program} {w : World} {B : Blocks} {hp : List (RId × Root)} {V : Nat → Prop} {ver : Nat} (hr : HR w B (lkH hp) V) (s d : TypeId) {x : PV} {vx : Value} (hx : VR w B (lkH hp) V x vx) :
    Real P w B hp V ver (convert s d vx) (convA P s d x) := by
  refine .of_pure hr fun K hK => ?_
  unfold convA at hK
  split at hK
  · rename_i ds k k' n hs hd
    cases hx
    exact ⟨_, _, by simp [convert, run_underlying' hs, run_underlying' hd, Conv.intToInt], hK, .int _ _⟩
  · rename_i ds b hs hd
    cases hx
    exact ⟨_, _, by simp [convert, run_underlying' hs, run_underlying' hd], hK, .str _⟩
  · exact hK.elim

def maxA : PV → PV → A
  | .int k x, .int k' y => .vc (k = k') (.ret (.int k (if y > x then y else x)))
  | _, _ => .fail
def minA : PV → PV → A
  | .int k x, .int k' y => .vc (k = k') (.ret (.int k (if y < x then y else x)))
  | _, _ => .fail

theorem Real.max {P : Program} {w : World} {B : Blocks} {hp : List (RId × Root)} {V : Nat → Prop} {ver : Nat} (hr : HR w B (lkH hp) V) (at_ : Array TypeId) (ty : TypeId) {x y : PV} {vx vy : Value} (hx : VR w B (lkH hp) V x vx) (hy : VR w B (lkH hp) V y vy) :
    Real P w B hp V ver (Builtin.max_ at_ ty #[vx, vy]) (maxA x y) := by
  refine .of_pure hr fun K hK => ?_
  unfold maxA at hK
  split at hK
  · obtain ⟨_, hk⟩ := hK
    cases hx; cases hy
    exact ⟨_, _, by simp [Builtin.max_, Builtin.max2], hk, .int _ _⟩
  · exact hK.elim
theorem Real.min {P : Program} {w : World} {B : Blocks} {hp : List (RId × Root)} {V : Nat → Prop} {ver : Nat} (hr : HR w B (lkH hp) V) (at_ : Array TypeId) (ty : TypeId) {x y : PV} {vx vy : Value} (hx : VR w B (lkH hp) V x vx) (hy : VR w B (lkH hp) V y vy) :
    Real P w B hp V ver (Builtin.min_ at_ ty #[vx, vy]) (minA x y) := by
  refine .of_pure hr fun K hK => ?_
  unfold minA at hK
  split at hK
  · obtain ⟨_, hk⟩ := hK
    cases hx; cases hy
    exact ⟨_, _, by simp [Builtin.min_, Builtin.min2], hk, .int _ _⟩
  · exact hK.elim
end Go.Ab
/- Rows written: clear, copy, append in place. -/
namespace Go.Ab
open Classical

/-- A node with other elements, from one on. -/
def setRows (lo k : Nat) (c : Nat → Nat → PV) : PV → PV
  | .own sz n f => .own sz n fun i o => if lo ≤ i ∧ i < lo + k then c (i - lo) o else f i o
  | v => v

theorem setRows_mild {v : PV} {lo k sz n : Nat} {c f : Nat → Nat → PV} (hv : v = .own sz n f) (hold : ∀ i o, lo ≤ i → i < lo + k → o < sz → shapeOf (f i o) = none) (hc : ∀ i o, i < k → o < sz → shapeOf (c i o) = none) : Mild (setRows lo k c) v := by
  subst hv
  refine ⟨rfl, fun sz' n' hs i o hi ho q s hat => ?_, fun sz' n' hs i o hi ho q s hat => ?_, rfl⟩
  · simp only [shapeOf, Option.some.injEq, Prod.mk.injEq, true_and] at hs
    obtain ⟨rfl, rfl⟩ := hs
    simp only [setRows, cellAt] at hat ⊢
    by_cases h : lo ≤ i ∧ i < lo + k
    · exact absurd hat (at_leaf (hold i o h.1 h.2 ho) q s)
    · rw [if_neg h]
  · simp only [shapeOf, Option.some.injEq, Prod.mk.injEq, true_and] at hs
    obtain ⟨rfl, rfl⟩ := hs
    simp only [setRows, cellAt] at hat ⊢
    by_cases h : lo ≤ i ∧ i < lo + k
    · rw [if_pos h] at hat
      exact absurd hat (at_leaf (hc (i - lo) o (by omega) ho) q s)
    · rw [if_neg h]

theorem rows_put {w : World} {B : Blocks} {hp : List (RId × Root)} {V : Nat → Prop} (hr : HR w B (lkH hp) V) {r : RId} {rt : Root} (hH : lkH hp r = some rt) {p : Path} {sz n : Nat} {f : Nat → Nat → PV} (hat : at? rt.node p (true, sz, n)) (hnode : getAt rt.node p = .own sz n f)
    {b : Nat} (hB : B r p = some b) {cs : Array Value} {e : TypeId} (hh : w.heap[b]? = some (.cells cs e (0, 0))) (hn : n * sz ≤ cs.size) {lo k : Nat} (hlo : lo + k ≤ n) {c : Nat → Nat → PV} {vs : List Value} (hvs : vs.length = k * sz) (hone : ∀ v ∈ vs, v.oneCell' = true)
    (hc : ∀ i o, i < k → o < sz → VR w B (lkH hp) V (c i o) (vs.getD (i * sz + o) Go.undef)) (hold : ∀ i o, lo ≤ i → i < lo + k → o < sz → shapeOf (f i o) = none) :
    HR (World.putBlock w b (putCells cs (lo * sz) vs)) B (lkH (setH hp r (some ⟨rt.ver, updAt (setRows lo k c) rt.node p⟩))) V ∧
    Mono w B (lkH hp) V (World.putBlock w b (putCells cs (lo * sz) vs)) B (lkH (setH hp r (some ⟨rt.ver, updAt (setRows lo k c) rt.node p⟩))) V := by
  have hfit : lo * sz + vs.length ≤ cs.size := by
    rw [hvs, ← Nat.add_mul]
    exact Nat.le_trans (Nat.mul_le_mul_right _ hlo) hn
  refine hr.put hH hat hB hh (putCells_size ..) (putCells_one hone hfit) (setRows_mild hnode hold (fun i o hi ho => (hc i o hi ho).noShape)) (fun j => lookH_setH ..) (fun i o hi ho => ?_)
  rw [putCells_getD _ _ _ _ hfit, hvs, hnode]
  simp only [setRows, cellAt]
  by_cases h : lo ≤ i ∧ i < lo + k
  · right
    have h1 : (i - lo) * sz + lo * sz = i * sz := by rw [← Nat.add_mul]; congr 1; omega
    have h2 := mul_lt_le (s := sz) (show i - lo < k by omega)
    rw [if_pos h, if_pos (by omega), show i * sz + o - lo * sz = (i - lo) * sz + o by omega]
    exact hc (i - lo) o (by omega) ho
  · left
    rw [if_neg h, if_neg]
    · exact ⟨rfl, rfl⟩
    · rintro ⟨h3, h4⟩
      apply h
      constructor
      · rcases Nat.lt_or_ge i lo with h5 | h5
        · have := mul_lt_le (s := sz) h5; omega
        · exact h5
      · rcases Nat.lt_or_ge i (lo + k) with h5 | h5
        · exact h5
        · have := Nat.mul_le_mul_right sz h5
          rw [Nat.add_mul] at this
          omega

def clearA (P : Program) (t : TypeId) (x : PV) : A := match sliceOf P t with
  | some e => match zeroL P e with
    | some z => match x with
      | .nils => .ret .undef
      | .ref r v p sz lo hi => .rd r fun
        | some rt => .vc (rt.ver = v) <| match getAt rt.node p with
          | .own sz' _ f => .ifD (lo < hi) (.vc (z.length = sz ∧ 0 < sz ∧ sz' = sz ∧ z.all dryCell = true ∧ ∀ i, i < hi → lo ≤ i → ∀ o, o < sz → shapeOf (f i o) = none)
              (.wr r (some ⟨rt.ver, updAt (setRows lo (hi - lo) fun _ o => z.getD o .undef) rt.node p⟩) (.ret .undef))) (.ret .undef)
          | _ => .fail
        | none => .fail
      | _ => .fail
    | none => .fail
  | none => .fail

theorem Real.clear {P : Program} {w : World} {B : Blocks} {hp : List (RId × Root)} {V : Nat → Prop} {ver : Nat} (hr : HR w B (lkH hp) V) (t ty : TypeId) {x : PV} {vx : Value} (hx : VR w B (lkH hp) V x vx) :
    Real P w B hp V ver (Builtin.clear_ #[t] ty #[vx]) (clearA P t x) := by
  intro K hK
  have same : ∀ v, (Builtin.clear_ #[t] ty #[vx]).run P w = .ok v w → K .undef hp → ∃ v w' B' hp' x', (Builtin.clear_ #[t] ty #[vx]).run P w = .ok v w' ∧ K x' hp' ∧ VR w' B' (lkH hp') (ors V ver) x' v ∧ HR w' B' (lkH hp') (ors V ver) ∧ Mono w B (lkH hp) V w' B' (lkH hp') (ors V ver) :=
    fun v h hk => ⟨v, w, B, hp, .undef, h, hk, .undef _, hr.more ver, Mono.more ..⟩
  unfold clearA at hK
  split at hK
  · rename_i e he
    have hu := sliceOf_some he
    split at hK
    · rename_i z hz
      obtain ⟨zv, e1, e2, e3⟩ := zeroL_some hz w
      split at hK
      · cases hx
        exact same _ (by simp [Builtin.clear_, run_underlying' hu]; rfl) hK
      · rename_i r v p sz lo hi
        simp only [A.wp] at hK
        cases hH : lkH hp r with
        | none => rw [hH] at hK; exact hK.elim
        | some rt =>
          rw [hH] at hK
          obtain ⟨hv, hK⟩ := hK
          cases hx with
          | ref _ h =>
          obtain ⟨n, hat, hlo, hhi, hx⟩ := h rt hH hv
          split at hK
          · rename_i sz' n' f hg
            have hs := hat.2
            rw [hg] at hs
            simp only [shapeOf, Option.some.injEq, Prod.mk.injEq, true_and] at hs
            obtain ⟨rfl, rfl⟩ := hs
            rw [A.ifD_wp] at hK
            split at hK
            · rename_i hlt
              obtain ⟨⟨hzl, h0, _, hdry, hold⟩, hk⟩ := hK
              rcases hx with ⟨b, A, cap, e', mm, hB, rfl, hcap, hA, hsh, hle⟩ | ⟨_, _, h00⟩
              · have hnode := (hr.root r rt hH).node p hat
                rcases hnode.out with ⟨hBn, _⟩ | ⟨b', cs, e2', hB', hh, ⟨hsz, _⟩, _⟩
                · rw [hB] at hBn; cases hBn
                · obtain rfl : b' = b := by rw [hB] at hB'; exact (Option.some.inj hB').symm
                  obtain rfl := hA (by omega)
                  have hzs : zv.cells.size = sz' := by omega
                  have hvs : (Builtin.zeroCells zv.cells (hi - lo)).toList.length = (hi - lo) * sz' := by rw [Array.length_toList, size_zeroCells, hzs]
                  have hget : ∀ i o, i < hi - lo → o < sz' → (Builtin.zeroCells zv.cells (hi - lo)).toList.getD (i * sz' + o) Go.undef = zv.cells.getD o Go.undef := by
                    intro i o hi' ho
                    have hj : i * sz' + o < (hi - lo) * zv.cells.size := by rw [hzs]; have := mul_lt_le (s := sz') hi'; omega
                    have := getD_range_mod zv.cells ((hi - lo) * zv.cells.size) (i * sz' + o) hj (by omega)
                    rw [show (i * sz' + o) % zv.cells.size = o by rw [hzs, Nat.mul_comm, Nat.mul_add_mod, Nat.mod_eq_of_lt ho]] at this
                    rw [← this]
                    simp only [Builtin.zeroCells, List.getD_eq_getElem?_getD, Array.getD_eq_getD_getElem?, Array.getElem?_toList]
                  have hL := e3 B (lkH hp) V
                  have hone1 : OneCells zv.cells := oneCells_of hL fun c hc => dryCell_one (List.all_eq_true.1 hdry c hc)
                  have hone : ∀ v ∈ (Builtin.zeroCells zv.cells (hi - lo)).toList, v.oneCell' = true := by
                    intro v hv
                    obtain ⟨j, hj, rfl⟩ := List.getElem_of_mem hv
                    have hj' : j < (hi - lo) * sz' := by rw [← hvs]; exact hj
                    have h1 := hget (j / sz') (j % sz') ((Nat.div_lt_iff_lt_mul h0).2 hj') (Nat.mod_lt _ h0)
                    rw [show j / sz' * sz' + j % sz' = j by rw [Nat.mul_comm]; exact Nat.div_add_mod j sz'] at h1
                    have h2 : (Builtin.zeroCells zv.cells (hi - lo)).toList.getD j Go.undef = (Builtin.zeroCells zv.cells (hi - lo)).toList[j] := by
                      rw [List.getD_eq_getElem?_getD, List.getElem?_eq_getElem hj]; rfl
                    rw [← h2, h1]
                    exact hone1 _ (by rw [hzs]; exact Nat.mod_lt _ h0)
                  obtain ⟨g1, g2⟩ := rows_put hr hH hat hg hB hh hsz (lo := lo) (k := hi - lo) (by omega) (c := fun _ o => z.getD o .undef) hvs hone (fun i o hi' ho => by rw [hget i o hi' ho]; exact hL.val o (by omega)) (fun i o h1 h2 h3 => hold i (by omega) h1 o h3)
                  have hfit : lo * sz' + (Builtin.zeroCells zv.cells (hi - lo)).toList.length ≤ cs.size := by
                    rw [hvs, ← Nat.add_mul, show lo + (hi - lo) = hi by omega]
                    exact Nat.le_trans (Nat.mul_le_mul_right _ hhi) hsz
                  have hne : (Builtin.zeroCells zv.cells (hi - lo)).toList ≠ [] := fun e => by
                    rw [e] at hvs
                    have := Nat.mul_pos (show 0 < hi - lo by omega) h0
                    simp at hvs
                    omega
                  have hst := run_storeCells' (P := P) _ w cs (lo * sz') 0 hh (by simpa using hfit) hone hne
                  refine ⟨.tuple #[], _, B, _, .undef, ?_, hk, .undef _, g1.more ver, g2.trans (Mono.more ..)⟩
                  have hkk : hi - lo ≠ 0 := by omega
                  obtain ⟨kk, hkk'⟩ : ∃ kk, hi - lo = kk + 1 := ⟨hi - lo - 1, by omega⟩
                  rw [hkk'] at hst ⊢
                  simp only [Builtin.clear_, List.getElem?_toArray, List.getElem?_cons_zero, Sem.run_bind, run_underlying' hu, Result.andThen_ok, e1, hst, Sem.run_pure]
                  rfl
              · omega
            · rename_i hlt
              rcases hx with ⟨b, A, cap, e', mm, hB, rfl, _⟩ | ⟨_, ⟨A0, rfl⟩, h00⟩
              · refine same (.tuple #[]) ?_ hK
                have : hi - lo = 0 := by omega
                rw [this]
                simp [Builtin.clear_, run_underlying' hu]
              · exact same (.tuple #[]) (by cases A0 <;> simp [Builtin.clear_, run_underlying' hu]) hK
          · exact hK.elim
      · exact hK.elim
    · exact hK.elim
  · exact hK.elim
end Go.Ab
/- append within what is there already. -/
namespace Go.Ab
open Classical

def inPlaceA (P : Program) (t : TypeId) (r : RId) (v : Nat) (p : Path) (sz lo hi : Nat) (y : PV) : A := match sliceOf P t with
  | some e => .rd r fun
    | some rt => .vc (rt.ver = v ∧ P.cellsOf e = sz ∧ 0 < sz ∧ (P.info? e).isSome) <| match getAt rt.node p with
      | .own _ n f => srcA sz y fun m c => .ifD (m = 0) (.ret (.ref r v p sz lo hi)) (.vc (hi + m ≤ n ∧ ∀ i, i < hi + m → hi ≤ i → ∀ o, o < sz → shapeOf (f i o) = none)
          (.wr r (some ⟨rt.ver, updAt (setRows hi m c) rt.node p⟩) (.ret (.ref r v p sz lo (hi + m)))))
      | _ => .fail
    | none => .fail
  | none => .fail

def appendT (P : Program) (id : RId) (ver : Nat) (t : TypeId) (x y : PV) : A := match x with
  | .ref r v p sz lo hi => .rd r fun
    | some rt => match shapeOf (getAt rt.node p) with
      | some (_, _, n) => match p with
        | [] => .ifD (lo = 0 ∧ hi = n) (appendA P id ver t (.ref r v [] sz 0 hi) y) (inPlaceA P t r v [] sz lo hi y)
        | p => inPlaceA P t r v p sz lo hi y
      | none => .fail
    | none => .fail
  | x => appendA P id ver t x y

theorem setCells_put {P : Program} {w : World} {b : Nat} {cs : Array Value} {e : TypeId} {off : Nat} {vs : List Value} (hh : w.heap[b]? = some (.cells cs e (0, 0))) (hfit : off + vs.length ≤ cs.size) (hone : ∀ v ∈ vs, v.oneCell' = true) (hne : vs ≠ []) :
    w.setCells b off vs = World.putBlock w b (putCells cs off vs) := by
  have h1 := run_storeCells' (P := P) vs w cs off 0 hh (by simpa using hfit) hone hne
  have h2 := run_storeCells_cells (P := P) b off vs 0 w (fun j hj => by
    have : off + 0 + j < cs.size := by omega
    simp only [World.cell?, hh]
    simp [show off + j < cs.size by omega]) (fun j hj => by simp [World.frozen?, hh]) hone
  rw [h1] at h2
  unfold putCells
  simpa using (Result.ok.inj h2).2.symm

theorem Real.inPlace {P : Program} {w : World} {B : Blocks} {hp : List (RId × Root)} {V : Nat → Prop} {ver : Nat} (hr : HR w B (lkH hp) V) (t ty : TypeId) {r : RId} {v : Nat} {p : Path} {sz lo hi : Nat} {y : PV} {vx vy : Value}
    (hx : VR w B (lkH hp) V (.ref r v p sz lo hi) vx) (hy : VR w B (lkH hp) V y vy) : Real P w B hp V ver (Builtin.append_ #[t, t] ty #[vx, vy]) (inPlaceA P t r v p sz lo hi y) := by
  intro K hK
  unfold inPlaceA at hK
  split at hK
  · rename_i e he
    have hu := sliceOf_some he
    simp only [A.wp] at hK
    cases hH : lkH hp r with
    | none => rw [hH] at hK; exact hK.elim
    | some rt =>
      rw [hH] at hK
      obtain ⟨⟨hv, rfl, h0, hi0⟩, hK⟩ := hK
      obtain ⟨i, hi'⟩ := Option.isSome_iff_exists.1 hi0
      have hsize : i.size = P.cellsOf e := by simp [Program.cellsOf, hi']
      have hx' := hx
      cases hx with
      | ref hV h =>
      obtain ⟨n, hat, hlo, hhi, hxx⟩ := h rt hH hv
      split at hK
      · rename_i sz' n' f hg
        have hs := hat.2
        rw [hg] at hs
        simp only [shapeOf, Option.some.injEq, Prod.mk.injEq, true_and] at hs
        obtain ⟨rfl, rfl⟩ := hs
        obtain ⟨m, c, val, hk, hsrc, hval⟩ := srcA_wp hr hu h0 hy hK
        have hsrc' : Src P i.size t vy m ((List.range (m * P.cellsOf e)).map val) w := by rw [hsize]; exact hsrc
        rw [A.ifD_wp] at hk
        split at hk
        · rename_i hm0
          subst hm0
          have hz : Src P i.size t vy 0 [] w := by simpa using hsrc'
          rcases hxx with ⟨b, A, cap, e', mm, hB, rfl, hcap, _⟩ | ⟨hB, ⟨A0, rfl⟩, h00⟩
          · exact ⟨_, w, B, hp, _, run_append_zero hu hi' hz (some A) (hi - lo) cap (by omega), hk, hx'.mono (Mono.more ..), hr.more ver, Mono.more ..⟩
          · exact ⟨_, w, B, hp, _, run_append_zero hu hi' hz A0 0 0 (Nat.le_refl _), hk, hx'.mono (Mono.more ..), hr.more ver, Mono.more ..⟩
        · rename_i hm0
          obtain ⟨⟨hfit, hold⟩, hk⟩ := hk
          have hnode := (hr.root r rt hH).node p hat
          rcases hnode.out with ⟨hBn, hn0⟩ | ⟨b, cs, e2, hB, hh, ⟨hsz, _⟩, _⟩
          · omega
          · rcases hxx with ⟨b', A, cap, e', mm, hB', rfl, hcap, hA, hsh, hle⟩ | ⟨hB', _, _⟩
            · obtain rfl : b' = b := by rw [hB] at hB'; exact (Option.some.inj hB').symm
              obtain rfl := hA (by omega)
              have hlen : ((List.range (m * P.cellsOf e)).map val).length = m * P.cellsOf e := by simp
              have hfit2 : hi * P.cellsOf e + ((List.range (m * P.cellsOf e)).map val).length ≤ cs.size := by
                rw [hlen, ← Nat.add_mul]
                exact Nat.le_trans (Nat.mul_le_mul_right _ hfit) hsz
              have hne : (List.range (m * P.cellsOf e)).map val ≠ [] := fun e0 => by
                rw [e0] at hlen
                have := Nat.mul_pos (show 0 < m by omega) h0
                simp at hlen
                omega
              have hoff : lo * P.cellsOf e + (hi - lo) * i.size = hi * P.cellsOf e := by rw [hsize, ← Nat.add_mul]; congr 1; omega
              have hrun := run_append_room_src w t t ty e i hu hi' b' (lo * P.cellsOf e) (hi - lo) cap vy m _ hsrc' (by omega) (fun j hj => by
                rw [hoff]
                have : hi * P.cellsOf e + j < cs.size := by omega
                simp [World.cell?, hh, this]) (fun j hj => by simp [World.frozen?, hh])
              rw [hoff, setCells_put (P := P) hh hfit2 hsrc.one hne] at hrun
              obtain ⟨g1, g2⟩ := rows_put hr hH hat hg hB hh hsz (lo := hi) (k := m) hfit (c := c) hlen hsrc.one (fun a o ha ho => by
                have hj : a * P.cellsOf e + o < m * P.cellsOf e := by have := mul_lt_le (s := P.cellsOf e) ha; omega
                rw [getD_rangeMap _ _ _ hj]; exact hval a o ha ho) (fun a o h1 h2 h3 => hold a h2 h1 o h3)
              refine ⟨_, _, B, _, _, hrun, hk, .ref (.inl hV) (fun rt2 h2 _ => ?_), g1.more ver, g2.trans (Mono.more ..)⟩
              rw [lookH_setH, if_pos rfl] at h2
              cases h2
              have hmild := setRows_mild (c := c) hg (fun a o h1 h2 h3 => hold a h2 h1 o h3) (fun a o ha ho => (hval a o ha ho).noShape)
              refine ⟨n', (updAt_at _ _ _ hat hmild _ _).2 hat, by omega, hfit, .inl ⟨b', ⟨b', lo * P.cellsOf e, none⟩, cap, e', mm, hB, ?_, hcap, fun _ => rfl, g2.shape _ _ hsh, hle⟩⟩
              rw [show hi + m - lo = hi - lo + m by omega]
            · rw [hB] at hB'; cases hB'
      · exact hK.elim
  · exact hK.elim

theorem Real.appendT {P : Program} {w : World} {B : Blocks} {hp : List (RId × Root)} {V : Nat → Prop} {ver : Nat} (hr : HR w B (lkH hp) V) (hver : ¬ V ver) (id : RId) (hid : id.1 ≠ 0) (t ty : TypeId) {x y : PV} {vx vy : Value}
    (hx : VR w B (lkH hp) V x vx) (hy : VR w B (lkH hp) V y vy) : Real P w B hp V ver (Builtin.append_ #[t, t] ty #[vx, vy]) (Ab.appendT P id ver t x y) := by
  intro K hK
  unfold Ab.appendT at hK
  split at hK
  · rename_i r v p sz lo hi
    simp only [A.wp] at hK
    cases hH : lkH hp r with
    | none => rw [hH] at hK; exact hK.elim
    | some rt =>
      rw [hH] at hK
      simp only at hK
      split at hK
      · split at hK
        · rw [A.ifD_wp] at hK
          split at hK
          · rename_i h0
            obtain ⟨rfl, rfl⟩ := h0
            exact Real.append hr hver id hid t ty hx hy K hK
          · exact Real.inPlace hr t ty hx hy K hK
        · exact Real.inPlace hr t ty hx hy K hK
      · exact hK.elim
  · exact Real.append hr hver id hid t ty hx hy K hK
end Go.Ab
/- Equality of arrays and structs. -/
namespace Go.Ab
open Classical

def partPV (P : Program) (e : TypeId) (xs : List PV) (off : Nat) : Option PV :=
  if isAggT P e then (if off + P.cellsOf e ≤ xs.length then some (.agg ((xs.drop off).take (P.cellsOf e))) else none) else xs[off]?

theorem part_real {P : Program} {w : World} {B : Blocks} {H : Roots} {V : Nat → Prop} {e : TypeId} (hu : P.underlying e ≠ none) (hi : (P.info? e).isSome) {xs : List PV} {cs : Array Value} (hl : LR w B H V xs cs) {off : Nat} {x : PV} (h : partPV P e xs off = some x) :
    ∃ v, (part e cs off).run P w = .ok v w ∧ VR w B H V x v := by
  unfold partPV at h
  split at h
  · rename_i ha
    split at h
    · rename_i hle
      cases h
      refine ⟨.agg (cs.extract off (off + P.cellsOf e)), by simp [part, run_isAgg' hu, ha, run_sizeOf' hi], .agg ?_ fun i hi' => ?_⟩
      · have := hl.len; simp; omega
      · simp at hi'
        have h1 := hl.val (off + i) (by omega)
        have := hl.len
        have e1 : (((xs.drop off).take (P.cellsOf e)).getD i .undef) = xs.getD (off + i) .undef := by
          simp [List.getD_eq_getElem?_getD, List.getElem?_take, List.getElem?_drop, show i < P.cellsOf e by omega]
        have e2 : (cs.extract off (off + P.cellsOf e)).getD i Go.undef = cs.getD (off + i) Go.undef := by
          simp only [Array.getD_eq_getD_getElem?, Array.getElem?_extract]
          rw [if_pos (by omega)]
        rw [e1, e2]
        exact h1
    · cases h
  · rename_i ha
    have hlt : off < xs.length := by
      rcases Nat.lt_or_ge off xs.length with h1 | h1
      · exact h1
      · rw [List.getElem?_eq_none h1] at h; cases h
    have h1 := hl.val off hlt
    have hlt' : off < cs.size := by rw [← hl.len]; exact hlt
    rw [List.getD_eq_getElem?_getD, h] at h1
    refine ⟨cs.getD off Go.undef, ?_, by simpa using h1⟩
    have hc : cs[off]? = some (cs.getD off Go.undef) := by simp [Array.getD_eq_getD_getElem?, hlt']
    have ha' : isAggT P e = false := by simpa using ha
    simp only [part, Sem.run_bind, run_isAgg' hu, Result.andThen_ok, ha', Bool.false_eq_true, if_false, hc, Sem.run_pure]

def eqItemsPV (P : Program) (eq : PV → PV → Option Bool) (e : TypeId) (xs ys : List PV) : List Nat → Option Bool
  | [] => some true
  | i :: is => match partPV P e xs (i * P.cellsOf e), partPV P e ys (i * P.cellsOf e) with
    | some a, some b => match eq a b, eqItemsPV P eq e xs ys is with
      | some p, some q => some (p && q)
      | _, _ => none
    | _, _ => none

def eqFieldsPV (P : Program) (eq : TypeId → PV → PV → Option Bool) (xs ys : List PV) : List Field → Option Bool
  | [] => some true
  | f :: fs => if f.name ≠ "_" then
      (if (P.info? f.type).isSome && (P.underlying f.type).isSome then match partPV P f.type xs f.offset, partPV P f.type ys f.offset with
        | some a, some b => match eq f.type a b, eqFieldsPV P eq xs ys fs with
          | some p, some q => some (p && q)
          | _, _ => none
        | _, _ => none
      else none)
    else eqFieldsPV P eq xs ys fs

def eqPV (P : Program) : Nat → TypeId → PV → PV → Option Bool
  | 0, _, _, _ => none
  | d + 1, t, x, y => match P.underlying t, x, y with
    | some .bool, .bool a, .bool b => some (a == b)
    | some (.int _), .int k a, .int k' b => if k = k' then some (a == b) else none
    | some .string, .str a, .str b => some (a.toList == b.toList)
    | some (.array n e), .agg xs, .agg ys => if (P.info? e).isSome && (P.underlying e).isSome then eqItemsPV P (eqPV P d e) e xs ys (List.range n) else none
    | some (.struct fs), .agg xs, .agg ys => if P.stoodInHeld t = false then eqFieldsPV P (eqPV P d) xs ys fs.toList else none
    | _, _, _ => none

/-- The model says the same. -/
def EqOK (P : Program) (d m : Nat) : Prop := ∀ (t : TypeId) (x y : PV) (b : Bool), eqPV P m t x y = some b → ∀ (w : World) (B : Blocks) (H : Roots) (V : Nat → Prop) (vx vy : Value), VR w B H V x vx → VR w B H V y vy → (Op.equalIn (d + m) t vx vy).run P w = .ok b w

theorem eqItems_real {P : Program} {d m : Nat} (ih : EqOK P d m) {e : TypeId} (hu : P.underlying e ≠ none) (hi : (P.info? e).isSome) {w : World} {B : Blocks} {H : Roots} {V : Nat → Prop} {xs ys : List PV} {cs ds : Array Value} (hx : LR w B H V xs cs) (hy : LR w B H V ys ds) :
    ∀ (is : List Nat) (b : Bool), eqItemsPV P (eqPV P m e) e xs ys is = some b → (Op.eqItems (d + m) e (P.cellsOf e) cs ds is).run P w = .ok b w := by
  intro is
  induction is with
  | nil => intro b h; cases h; simp [Op.eqItems]
  | cons i is ihl =>
    intro b h
    simp only [eqItemsPV] at h
    split at h
    · rename_i x y hpx hpy
      obtain ⟨vx, r1, r2⟩ := part_real hu hi hx hpx
      obtain ⟨vy, s1, s2⟩ := part_real hu hi hy hpy
      split at h
      · rename_i p q he hq
        cases h
        have := ih e x y p he w B H V vx vy r2 s2
        simp only [Op.eqItems, Sem.run_bind, r1, s1, this, Result.andThen_ok]
        cases p with
        | true => exact ihl q hq
        | false => rfl
      · cases h
    · cases h

theorem eqFields_real {P : Program} {d m : Nat} (ih : EqOK P d m) {w : World} {B : Blocks} {H : Roots} {V : Nat → Prop} {xs ys : List PV} {cs ds : Array Value} (hx : LR w B H V xs cs) (hy : LR w B H V ys ds) :
    ∀ (fs : List Field) (b : Bool), eqFieldsPV P (eqPV P m) xs ys fs = some b → (Op.eqFields (d + m) cs ds fs).run P w = .ok b w := by
  intro fs
  induction fs with
  | nil => intro b h; cases h; simp [Op.eqFields]
  | cons f fs ihl =>
    intro b h
    simp only [eqFieldsPV] at h
    simp only [Op.eqFields]
    split at h
    · rename_i hn
      rw [if_pos hn]
      split at h
      · rename_i hc
        simp only [Bool.and_eq_true] at hc
        have hu : P.underlying f.type ≠ none := fun e => by rw [e] at hc; simp at hc
        split at h
        · rename_i x y hpx hpy
          obtain ⟨vx, r1, r2⟩ := part_real hu hc.1 hx hpx
          obtain ⟨vy, s1, s2⟩ := part_real hu hc.1 hy hpy
          split at h
          · rename_i p q he hq
            cases h
            have := ih _ x y p he w B H V vx vy r2 s2
            simp only [Sem.run_bind, r1, s1, this, Result.andThen_ok]
            cases p with
            | true => exact ihl q hq
            | false => rfl
          · cases h
        · cases h
      · cases h
    · rename_i hn
      rw [if_neg hn]
      exact ihl b h

theorem eqPV_real {P : Program} (d : Nat) : ∀ m, EqOK P d m := by
  intro m
  induction m with
  | zero => intro t x y b h; cases h
  | succ m ih =>
    intro t x y b h w B H V vx vy hx hy
    simp only [eqPV] at h
    split at h
    · rename_i a b' hu
      cases h; cases hx; cases hy
      exact eqIn_bool (d + m) hu _ _
    · rename_i q k a k' b' hu
      split at h
      · rename_i e
        subst e
        cases h; cases hx; cases hy
        exact run_equalIn_int w (d + m) t k q a b' hu
      · cases h
    · rename_i a b' hu
      cases h; cases hx; cases hy
      exact run_equalIn_string w (d + m) t a b' hu
    · rename_i n e xs ys hu
      split at h
      · rename_i hc
        simp only [Bool.and_eq_true] at hc
        obtain ⟨i, hi⟩ := Option.isSome_iff_exists.1 hc.1
        have hue : P.underlying e ≠ none := fun e0 => by rw [e0] at hc; simp at hc
        cases hx with
        | agg l1 l2 => cases hy with
          | agg m1 m2 =>
            rw [show d + (m + 1) = (d + m) + 1 from rfl, run_equalIn_array w (d + m) _ _ hu hi]
            exact eqItems_real ih hue hc.1 ⟨l1, l2⟩ ⟨m1, m2⟩ _ b h
      · cases h
    · rename_i fs xs ys hu
      split at h
      · rename_i hst
        cases hx with
        | agg l1 l2 => cases hy with
          | agg m1 m2 =>
            have hf : P.fieldsOf t = fs := by simp [Program.fieldsOf, hu]
            rw [show d + (m + 1) = (d + m) + 1 from rfl, run_equalIn_struct w (d + m) t _ _ (by rw [hf]; exact hu) hst, hf]
            exact eqFields_real ih ⟨l1, l2⟩ ⟨m1, m2⟩ _ b h
      · cases h
    · cases h

/-- A binary operation, by what it is on. -/
def eqT (P : Program) (t : TypeId) (op : BinOp) : PV → PV → A
  | .int k a, .int k' b => binA op (.int k a) (.int k' b)
  | .str a, .str b => binA op (.str a) (.str b)
  | .agg l, .agg l' => if P.eqGuardType P.depth t = false then match eqPV P 100 t (.agg l) (.agg l') with
      | some b => eqFin op b
      | none => .fail
    else .fail
  | x, y => eqA P t op x y

def isEq : BinOp → Bool
  | .eql | .neq => true
  | _ => false

def binT (P : Program) (t : TypeId) (op : BinOp) (x y : PV) : A := if isEq op then eqT P t op x y else binA op x y

theorem Real.binT {P : Program} {w : World} {B : Blocks} {hp : List (RId × Root)} {V : Nat → Prop} {ver : Nat} (hr : HR w B (lkH hp) V) (op : BinOp) (t : TypeId) (ox oy : Operand) {x y : PV} {vx vy : Value}
    (hx : VR w B (lkH hp) V x vx) (hy : VR w B (lkH hp) V y vy) : Real P w B hp V ver (do eqGuard op t ox oy vx vy; binOp op t vx vy) (Ab.binT P t op x y) := by
  unfold Ab.binT
  split
  · unfold eqT
    split
    · exact Real.bin hr op t ox oy hx hy
    · exact Real.bin hr op t ox oy hx hy
    · rename_i l l'
      refine .of_pure hr fun K hK => ?_
      split at hK
      · rename_i hgt
        split at hK
        · rename_i b hb
          have he := eqPV_real (P := P) 9900 100 t _ _ b hb w B _ V vx vy hx hy
          cases hx with
          | agg l1 l2 => cases hy with
            | agg m1 m2 =>
              refine eqFin_real (b := b) ?_ he (by simp [binOp]) (by simp [binOp]) hK
              cases op <;> simp [eqGuard, run_program, hgt]
        · exact hK.elim
      · exact hK.elim
    · exact Real.eqA hr op t ox oy hx hy
  · exact Real.bin hr op t ox oy hx hy
end Go.Ab
/- Fields and elements of values. -/
namespace Go.Ab
open Classical

def fieldA (P : Program) (t : TypeId) (f : Nat) (x : PV) : A := match fieldOf P t f, x with
  | some (ft, off), .agg l => .vc ((P.info? ft).isSome ∧ (P.underlying ft).isSome) <| match partPV P ft l off with
    | some v => .ret v
    | none => .fail
  | _, _ => .fail

theorem Real.field {P : Program} {w : World} {B : Blocks} {hp : List (RId × Root)} {V : Nat → Prop} {ver : Nat} (hr : HR w B (lkH hp) V) (t : TypeId) (f : Nat) {x : PV} {vx : Value} (hx : VR w B (lkH hp) V x vx) :
    Real P w B hp V ver (Instr.field t vx f) (fieldA P t f x) := by
  refine .of_pure hr fun K hK => ?_
  unfold fieldA at hK
  split at hK
  · rename_i ft off l hf
    obtain ⟨⟨h1, h2⟩, hK⟩ := hK
    split at hK
    · rename_i v hv
      obtain ⟨fs, fd, hu, hfd, rfl, rfl⟩ := fieldOf_some hf
      cases hx with
      | agg l1 l2 =>
        obtain ⟨u, r1, r2⟩ := part_real (fun e => by rw [e] at h2; cases h2) h1 ⟨l1, l2⟩ hv
        exact ⟨u, v, by simp [Instr.field, run_underlying' hu, hfd, asAgg, r1], hK, r2⟩
    · exact hK.elim
  · exact hK.elim

def indexA (P : Program) (t : TypeId) (x y : PV) : A := match x, y with
  | .agg l, .int _ j => match arrOf P t with
    | some (n, e) => .vc ((P.info? e).isSome ∧ (P.underlying e).isSome ∧ 0 ≤ j ∧ j < n) <| match partPV P e l (j.toNat * P.cellsOf e) with
      | some v => .ret v
      | none => .fail
    | none => .fail
  | .str s, .int _ j => match P.underlying t with
    | some .string => if 0 ≤ j then match s[j.toNat]? with
      | some b => .ret (.int .u8 b.toNat)
      | none => .fail
      else .fail
    | _ => .fail
  | _, _ => .fail

theorem Real.index {P : Program} {w : World} {B : Blocks} {hp : List (RId × Root)} {V : Nat → Prop} {ver : Nat} (hr : HR w B (lkH hp) V) (t : TypeId) {x y : PV} {vx vy : Value} (hx : VR w B (lkH hp) V x vx) (hy : VR w B (lkH hp) V y vy) :
    Real P w B hp V ver (Instr.index t vx vy) (indexA P t x y) := by
  refine .of_pure hr fun K hK => ?_
  unfold indexA at hK
  split at hK
  · rename_i l k j
    cases hy
    split at hK
    · rename_i n e he
      obtain ⟨⟨h1, h2, h3, h4⟩, hK⟩ := hK
      split at hK
      · rename_i v hv
        cases hx with
        | agg l1 l2 =>
          obtain ⟨u, r1, r2⟩ := part_real (fun e => by rw [e] at h2; cases h2) h1 ⟨l1, l2⟩ hv
          have hj : 0 ≤ j ∧ j < n := ⟨h3, h4⟩
          exact ⟨u, v, by simp [Instr.index, asIntOf, run_underlying' (arrOf_some he), hj, run_sizeOf' h1, r1], hK, r2⟩
      · exact hK.elim
    · exact hK.elim
  · rename_i s k j
    cases hy
    cases hx
    split at hK
    · rename_i hu
      split at hK
      · rename_i h0
        split at hK
        · rename_i b hb
          exact ⟨_, _, by simp [Instr.index, asIntOf, run_underlying' hu, h0, hb], hK, .int _ _⟩
        · exact hK.elim
      · exact hK.elim
    · exact hK.elim
  · exact hK.elim
end Go.Ab
/- Roots that are no blocks of cells: how the heap's relation turns. -/
namespace Go.Ab
open Classical
open Go.ChangeMaps (setBlock)

theorem at_spec {v : PV} (h : spec v = true) {p : Path} {s : Bool × Nat × Nat} : at? v p s ↔ p = [] ∧ s = (false, 0, 1) := by
  cases p with
  | nil => rw [at_nil]; cases v <;> simp_all [spec, shapeOf, eq_comm]
  | cons y p =>
    constructor
    · intro hh; cases v <;> simp_all [spec, at?, okPath]
    · rintro ⟨h, _⟩; cases h

def isCells : Obj → Bool
  | .cells .. => true
  | _ => false

theorem shape_spec {w : World} {b : Nat} {o : Obj} (hh : w.heap[b]? = some o) (ho : isCells o = false) : w.shape? b = none := by
  unfold World.shape?
  rw [hh]
  cases o <;> first | rfl | cases ho

theorem setBlock_self {w : World} {b : Nat} {o : Obj} (o' : Obj) (h : w.heap[b]? = some o) : (setBlock w b o').heap[b]? = some o' := by
  have hlt := lt_of_get h
  simp [setBlock, hlt]
theorem setBlock_ne {w : World} {b k : Nat} (o' : Obj) (h : k ≠ b) : (setBlock w b o').heap[k]? = w.heap[k]? := by
  simp [setBlock, Array.getElem?_setIfInBounds_ne (Ne.symm h)]

/-- A special root that turns. -/
theorem HR.putS {w : World} {B : Blocks} {H H' : Roots} {V : Nat → Prop} (hr : HR w B H V) {r : RId} {rt : Root} (hH : H r = some rt) (hsp : spec rt.node = true) {b : Nat} (hB : B r [] = some b) {o o' : Obj} (hh : w.heap[b]? = some o) (ho : isCells o = false)
    {node : PV} (hsp' : spec node = true) (hH' : ∀ j, H' j = if j = r then some ⟨rt.ver, node⟩ else H j) (hroot : Mono w B H V (setBlock w b o') B H' V → RootOK (setBlock w b o') B H' V r node) :
    HR (setBlock w b o') B H' V ∧ Mono w B H V (setBlock w b o') B H' V := by
  have hne : ∀ r' p', B r' p' = some b → r' = r ∧ p' = [] := fun r' p' h => hr.inj _ _ _ _ _ h hB
  have hm : Mono w B H V (setBlock w b o') B H' V := by
    refine ⟨by simp [setBlock], fun k hk hf => ⟨hf, setBlock_ne o' fun e => hf r [] (e ▸ hB)⟩, fun j p' k h0 hk => ⟨hk, setBlock_ne o' fun e => hr.lev r rt hH ((hne _ _ (e ▸ hk)).1 ▸ h0)⟩, fun j p' k hk => .inr ⟨j, p', hk⟩, fun k s hs => ?_, fun _ h => h, fun j rt' h => ?_, rfl, rfl, rfl⟩
    · have hk : k ≠ b := fun e => by subst e; rw [shape_spec hh ho] at hs; cases hs
      simp only [World.shape?] at hs ⊢
      rw [setBlock_ne o' hk]
      exact hs
    · rw [hH'] at h
      split at h
      · rename_i e
        subst e
        cases h
        exact .inr ⟨rt, hH, rfl, fun p s hp => ⟨(at_spec hsp').2 ((at_spec hsp).1 hp), rfl⟩⟩
      · exact .inr ⟨rt', h, rfl, fun p s hp => ⟨hp, rfl⟩⟩
  refine ⟨⟨fun j rt' h => ?_, fun j rt' h => ?_, fun j p k h => ?_, fun j rt' h => ?_, hr.inj⟩, hm⟩
  · rw [hH'] at h
    split at h
    · rename_i e; subst e; cases h; exact hroot hm
    · rename_i hj
      exact (hr.root j rt' h).mono hm (fun t s _ => ⟨rfl, fun b2 hb2 => setBlock_ne o' fun e => hj (hne _ _ (e ▸ hb2)).1⟩)
  · rw [hH'] at h
    split at h
    · cases h; exact hr.ver r rt hH
    · exact hr.ver j rt' h
  · obtain ⟨h1, h2⟩ := hr.dom j p k h
    refine ⟨by simpa [setBlock] using h1, h2.imp (fun h => h) fun ⟨rt', s, h3, h4⟩ => ?_⟩
    by_cases hj : j = r
    · subst hj
      rw [hH] at h3
      cases h3
      exact ⟨_, s, by rw [hH', if_pos rfl], (at_spec hsp').2 ((at_spec hsp).1 h4)⟩
    · exact ⟨rt', s, by rw [hH', if_neg hj]; exact h3, h4⟩
  · rw [hH'] at h
    split at h
    · rename_i e; subst e; exact hr.lev _ _ hH
    · exact hr.lev j rt' h

def newB (B : Blocks) (id : RId) (b : Nat) : Blocks := fun r p => if r = id then (if p = [] then some b else none) else B r p
theorem newB_self (B : Blocks) (id : RId) (b : Nat) : newB B id b id [] = some b := by simp [newB]
theorem newB_id {B : Blocks} {id : RId} {b k : Nat} {p : Path} (h : newB B id b id p = some k) : p = [] ∧ k = b := by
  simp only [newB, if_true] at h
  split at h
  · cases h; exact ⟨by assumption, rfl⟩
  · cases h
theorem newB_ne (B : Blocks) {id r : RId} (b : Nat) (p : Path) (h : r ≠ id) : newB B id b r p = B r p := by simp [newB, h]

/-- A new special root. -/
theorem HR.newS {w : World} {B : Blocks} {hp : List (RId × Root)} {V : Nat → Prop} {ver : Nat} (hr : HR w B (lkH hp) V) (hver : ¬ V ver) (id : RId) (hid : id.1 ≠ 0) {node : PV} (hsp : spec node = true) {o : Obj} (ho : isCells o = false)
    (hroot : Mono w B (lkH hp) V (w.alloc o) (newB B id w.heap.size) (lkH (setH hp id (some ⟨ver, node⟩))) (ors V ver) → RootOK (w.alloc o) (newB B id w.heap.size) (lkH (setH hp id (some ⟨ver, node⟩))) (ors V ver) id node) :
    HR (w.alloc o) (newB B id w.heap.size) (lkH (setH hp id (some ⟨ver, node⟩))) (ors V ver) ∧ Mono w B (lkH hp) V (w.alloc o) (newB B id w.heap.size) (lkH (setH hp id (some ⟨ver, node⟩))) (ors V ver) := by
  have hlk : ∀ j, lkH (setH hp id (some ⟨ver, node⟩)) j = if j = id then some ⟨ver, node⟩ else lkH hp j := fun j => lookH_setH ..
  have hold : ∀ r p b, B r p = some b → b < w.heap.size := fun r p b h => (hr.dom r p b h).1
  have hm : Mono w B (lkH hp) V (w.alloc o) (newB B id w.heap.size) (lkH (setH hp id (some ⟨ver, node⟩))) (ors V ver) := by
    refine ⟨by simp, fun k hk hf => ⟨fun r p h => ?_, heap_alloc_lt _ _ hk⟩, fun r p b h0 hb => ⟨?_, heap_alloc_lt _ _ (hold _ _ _ hb)⟩, fun r p b hb => ?_, fun k s hs => ?_, fun _ h => .inl h, fun r rt' h => ?_, rfl, rfl, rfl⟩
    · by_cases e : r = id
      · subst e; have := (newB_id h).2; omega
      · rw [newB_ne B _ _ e] at h; exact hf r p h
    · rw [newB_ne B _ _ (fun e : r = id => hid (e ▸ h0))]; exact hb
    · by_cases e : r = id
      · subst e; exact .inl (by rw [(newB_id hb).2]; exact Nat.le_refl _)
      · rw [newB_ne B _ _ e] at hb; exact .inr ⟨r, p, hb⟩
    · have hk := shape_lt hs
      simp only [World.shape?] at hs ⊢
      rw [heap_alloc_lt _ _ hk]
      exact hs
    · rw [hlk] at h
      split at h
      · cases h; exact .inl hver
      · rename_i hne; exact .inr ⟨rt', h, rfl, fun p s hp => ⟨hp, newB_ne B _ _ hne⟩⟩
  refine ⟨⟨fun j rt' h => ?_, fun j rt' h => ?_, fun j p k h => ?_, fun j rt' h => ?_, fun r p r' p' b h h' => ?_⟩, hm⟩
  · rw [hlk] at h
    split at h
    · rename_i e; subst e; cases h; exact hroot hm
    · rename_i hj
      exact (hr.root j rt' h).mono hm (fun t s _ => ⟨newB_ne B _ _ hj, fun b2 hb2 => heap_alloc_lt _ _ (hold _ _ _ hb2)⟩)
  · rw [hlk] at h
    split at h
    · cases h; exact .inr rfl
    · exact .inl (hr.ver j rt' h)
  · by_cases e : j = id
    · subst e
      obtain ⟨rfl, rfl⟩ := newB_id h
      exact ⟨by simp, .inr ⟨_, (false, 0, 1), by rw [hlk, if_pos rfl], (at_spec hsp).2 ⟨rfl, rfl⟩⟩⟩
    · rw [newB_ne B _ _ e] at h
      obtain ⟨h1, h2⟩ := hr.dom j p k h
      exact ⟨by simp; omega, h2.imp (fun h => h) fun ⟨rt', s, h3, h4⟩ => ⟨rt', s, by rw [hlk, if_neg e]; exact h3, h4⟩⟩
  · rw [hlk] at h
    split at h
    · rename_i e; rw [e]; exact hid
    · exact hr.lev j rt' h
  · by_cases e : r = id
    · subst e
      obtain ⟨rfl, rfl⟩ := newB_id h
      by_cases e' : r' = r
      · subst e'; exact ⟨rfl, (newB_id h').1.symm⟩
      · rw [newB_ne B _ _ e'] at h'
        have := hold _ _ _ h'
        omega
    · rw [newB_ne B _ _ e] at h
      by_cases e' : r' = id
      · subst e'
        obtain ⟨rfl, rfl⟩ := newB_id h'
        have := hold _ _ _ h
        omega
      · rw [newB_ne B _ _ e'] at h'
        exact hr.inj _ _ _ _ _ h h'
end Go.Ab
/- Maps. -/
namespace Go.Ab

/-- Are two keys the same? (`none`: not of one kind) -/
def keyB : PV → PV → Option Bool
  | .int k a, .int k' b => if k = k' then some (a == b) else none
  | .str a, .str b => some (a == b)
  | .bool a, .bool b => some (a == b)
  | _, _ => none

def fitsK (P : Program) (kt : TypeId) (k : PV) : Bool := match P.underlying kt, k with
  | some (.int _), .int .. => true
  | some .string, .str _ => true
  | some .bool, .bool _ => true
  | _, _ => false

def sortsB (k : PV) : List (PV × PV) → Bool
  | [] => true
  | e :: es => (keyB k e.1).isSome && sortsB k es

def findE : List (PV × PV) → PV → Option PV
  | [], _ => none
  | e :: es, k => match keyB k e.1 with
    | some true => some e.2
    | _ => findE es k

def updE : List (PV × PV) → PV → PV → List (PV × PV)
  | [], k, v => [(k, v)]
  | e :: es, k, v => match keyB k e.1 with
    | some true => (k, v) :: es
    | _ => e :: updE es k v

def updBs (es : List (PV × PV)) (bs : List Nat) (cl : Nat) (k : PV) : List Nat := match findE es k with
  | some _ => bs
  | none => bs ++ [cl]
def updCl (es : List (PV × PV)) (cl : Nat) (k : PV) : Nat := match findE es k with
  | some _ => cl
  | none => cl + 1

def zeroPV (P : Program) (t : TypeId) : Option PV := ((P.info? t).bind (·.zero)).map fun v => match v with
  | .agg cs => .agg (cs.toList.map cv)
  | v => cv v

def lkRes (ok : Bool) (v : PV) (b : Bool) : PV := match ok with
  | true => .tup [v, .bool b]
  | false => v

def findA (ok : Bool) (z : PV) (es : List (PV × PV)) (k : PV) : A := .opt (findE es k) fun o => match o with
  | some v => .ret (lkRes ok v true)
  | none => .ret (lkRes ok z false)

def lookupA (P : Program) (t : TypeId) (ok : Bool) (x k : PV) : A := match P.underlying t with
  | some (.map kt et) => match zeroPV P et with
    | some z => .vc (fitsK P kt k = true) <| match x with
      | .nilm => .ret (lkRes ok z false)
      | .fmap es => .vc (sortsB k es = true) (findA ok z es k)
      | .sref .map r v => .rd r fun
        | some rt => .vc (rt.ver = v) <| match rt.node with
          | .omap es _ _ => .vc (sortsB k es = true) (findA ok z es k)
          | _ => .fail
        | none => .fail
      | _ => .fail
    | none => .fail
  | _ => .fail

def mapUpdateA (P : Program) (t : TypeId) (x k v : PV) : A := match P.underlying t with
  | some (.map kt _) => .vc (fitsK P kt k = true) <| match x with
    | .sref .map r w => .rd r fun
      | some rt => .vc (rt.ver = w) <| match rt.node with
        | .omap es bs cl => .vc (sortsB k es = true) (.wr r (some ⟨rt.ver, .omap (updE es k v) (updBs es bs cl k) (updCl es cl k)⟩) (.ret .undef))
        | _ => .fail
      | none => .fail
    | _ => .fail
  | _ => .fail

def makeMapA (P : Program) (id : RId) (ver : Nat) (t : TypeId) (r : Option PV) : A := match r, P.underlying t with
  | none, _ => .wr id (some ⟨ver, .omap [] [] 0⟩) (.ret (.sref .map id ver))
  | some (.int _ _), some (.map _ _) => .wr id (some ⟨ver, .omap [] [] 0⟩) (.ret (.sref .map id ver))
  | _, _ => .fail

/-- The length of a map. -/
def lenM (P : Program) (t : TypeId) (x : PV) : A := match P.underlying t with
  | some (.map _ _) => match x with
    | .nilm => .ret (.int .i64 0)
    | .fmap es => .ret (.int .i64 es.length)
    | .sref .map r v => .rd r fun
      | some rt => .vc (rt.ver = v) <| match rt.node with
        | .omap es _ _ => .ret (.int .i64 es.length)
        | _ => .fail
      | none => .fail
    | _ => .fail
  | _ => .fail

/-! Ranging over a map to which nothing is added -/
def leftI (bs seen : List Nat) : List Nat := (List.range bs.length).filter fun i => !seen.contains (bs.getD i 0)

def entryE (es : List (PV × PV)) (bs seen : List Nat) : Option PV := match seen.getLast? with
  | some s => (bs.idxOf? s).bind fun i => (es[i]?).map fun e => .tup [e.1, e.2]
  | none => none

def rangeA (P : Program) (id : RId) (ver : Nat) (t : TypeId) (x : PV) : A := match P.underlying t with
  | some (.map _ _) => match x with
    | .nilm => .wr id (some ⟨ver, .oiter .nilm 0 [] 0⟩) (.ret (.sref .iter id ver))
    | .sref .map r v => .rd r fun
      | some rt => .vc (rt.ver = v) <| match rt.node with
        | .omap _ _ cl => .wr id (some ⟨ver, .oiter (.sref .map r v) cl [] cl⟩) (.ret (.sref .iter id ver))
        | _ => .fail
      | none => .fail
    | _ => .fail
  | _ => .fail

def nextA (str : Bool) (x : PV) : A := match str, x with
  | false, .sref .iter r v => .rd r fun
    | some rt => .vc (rt.ver = v) <| match rt.node with
      | .oiter .nilm _ _ _ => .ret (.tup [.bool false])
      | .oiter (.sref .map r2 v2) since seen last => .rd r2 fun
        | some rt2 => .vc (rt2.ver = v2) <| match rt2.node with
          | .omap es bs cl => .hyp (bs.length = es.length ∧ bs.Nodup ∧ ∀ x ∈ bs, x < cl) (.vc (cl = since ∧ since ≤ last) (.ifD (leftI bs seen = [])
            (.ret (.tup [.bool false]))
            (.all (leftI bs seen) fun i => .wr r (some ⟨rt.ver, .oiter (.sref .map r2 v2) since (seen ++ [bs.getD i 0]) cl⟩) (.ret (.tup [.bool true, (es.getD i (.undef, .undef)).1, (es.getD i (.undef, .undef)).2])))))
          | _ => .fail
        | none => .fail
      | _ => .fail
    | none => .fail
  | _, _ => .fail

def entryA (x : PV) : A := match x with
  | .sref .iter r v => .rd r fun
    | some rt => .vc (rt.ver = v) <| match rt.node with
      | .oiter (.sref .map r2 v2) _ seen last => .rd r2 fun
        | some rt2 => .vc (rt2.ver = v2) <| match rt2.node with
          | .omap es bs cl => .vc (cl = last) (.opt (entryE es bs seen) fun o => match o with
            | some x => .ret x
            | none => .fail)
          | _ => .fail
        | none => .fail
      | _ => .fail
    | none => .fail
  | _ => .fail

/-! ### Proofs -/
open Classical
open Go.ChangeMaps (setBlock)

theorem zeroPV_some {P : Program} {t : TypeId} {z : PV} (h : zeroPV P t = some z) (w : World) : ∃ v, (zeroValue t).run P w = .ok v w ∧ ∀ B H V, VR w B H V z v := by
  unfold zeroPV at h
  cases hi : P.info? t with
  | none => simp [hi] at h
  | some i =>
    cases hz : i.zero with
    | none => simp [hi, hz] at h
    | some v =>
      simp only [hi, Option.bind_some, hz, Option.map_some, Option.some.injEq] at h
      refine ⟨v, by simp [zeroValue, typeInfo, hi, hz], fun B H V => ?_⟩
      subst h
      split
      · rename_i cs
        refine .agg (by simp) (fun i hi => ?_)
        simp only [List.length_map, Array.length_toList] at hi
        simp only [List.getD, List.getElem?_map, Array.getElem?_toList, Array.getD_eq_getD_getElem?]
        rw [Array.getElem?_eq_getElem hi]
        exact .cv _
      · exact .cv _

theorem bytes_eq (a b : ByteArray) : (a == b) = true ↔ a = b := MapKept.bytes_beq a b
/-- A key's kind. -/
inductive KeyAt (P : Program) (kt : TypeId) : PV → Value → TypeDesc → Prop
  | int {d : IntKind} (h : P.underlying kt = some (.int d)) (k : IntKind) (n : Int) : KeyAt P kt (.int k n) (.int k n) (.int d)
  | str (h : P.underlying kt = some .string) (s : ByteArray) : KeyAt P kt (.str s) (.string s) .string
  | bool (h : P.underlying kt = some .bool) (b : Bool) : KeyAt P kt (.bool b) (.bool b) .bool

theorem fitsK_at {P : Program} {kt : TypeId} {k : PV} (h : fitsK P kt k = true) {w B H V} {kv : Value} (hk : VR w B H V k kv) : ∃ d, P.underlying kt = some d ∧ KeyAt P kt k kv d := by
  unfold fitsK at h
  split at h
  · rename_i d ik n hu; cases hk; exact ⟨_, hu, .int hu _ _⟩
  · rename_i s hu; cases hk; exact ⟨_, hu, .str hu _⟩
  · rename_i b hu; cases hk; exact ⟨_, hu, .bool hu _⟩
  · cases h

theorem KeyAt.check {P : Program} {kt : TypeId} {k : PV} {kv : Value} {d : TypeDesc} (h : KeyAt P kt k kv d) (w : World) (e : Bool) : (Instr.checkKey e 10000 kt kv).run P w = .ok () w := by
  cases h with
  | int h => unfold Instr.checkKey; simp [run_underlying' h]
  | str h => unfold Instr.checkKey; simp [run_underlying' h]
  | bool h => unfold Instr.checkKey; simp [run_underlying' h]

theorem KeyAt.same {P : Program} {kt : TypeId} {k : PV} {kv : Value} {d : TypeDesc} (h : KeyAt P kt k kv d) {w B H V} {k' : PV} {kv' : Value} (hk' : VR w B H V k' kv') {b : Bool} (hb : keyB k k' = some b) :
    Instr.sameNow d kv kv' = some b ∧ (b = true → kv' = kv) := by
  cases h with
  | int h ik n =>
    cases hk' <;> simp only [keyB] at hb <;> try cases hb
    split at hb
    · rename_i e
      subst e
      cases hb
      refine ⟨by simp [Instr.sameNow], fun h => ?_⟩
      have := eq_of_beq h
      rw [this]
    · cases hb
  | str h s =>
    cases hk' <;> simp only [keyB] at hb <;> try cases hb
    refine ⟨by simp [Instr.sameNow], fun h => ?_⟩
    have := (bytes_eq _ _).1 h
    rw [this]
  | bool h s =>
    cases hk' <;> simp only [keyB] at hb <;> try cases hb
    refine ⟨by simp [Instr.sameNow], fun h => ?_⟩
    have := eq_of_beq h
    rw [this]

theorem KeyAt.bits {P : Program} {kt : TypeId} {k : PV} {kv : Value} {d : TypeDesc} (h : KeyAt P kt k kv d) : Instr.sameBits 10000 kv kv = true := by
  cases h with
  | str _ s => exact (bytes_eq s s).2 rfl
  | _ => simp [Instr.sameBits]

/-- What the machine's look finds. -/
theorem find_spec {P : Program} {kt : TypeId} {k : PV} {kv : Value} {d : TypeDesc} (h : KeyAt P kt k kv d) {w B H V} (v : PV) : ∀ (es : List (PV × PV)) (l : List MapEntry) (i0 : Nat), l.length = es.length → sortsB k es = true →
    (∀ i, i < es.length → VR w B H V (es.getD i (.undef, .undef)).1 (l.getD i default).key) →
    (∃ j, j < es.length ∧ findE es k = some (es.getD j (.undef, .undef)).2 ∧ (l.getD j default).key = kv ∧ updE es k v = es.set j (k, v) ∧ Instr.findNow d kv l i0 = some (some (i0 + j, (l.getD j default).val))) ∨
    (findE es k = none ∧ updE es k v = es ++ [(k, v)] ∧ Instr.findNow d kv l i0 = some none) := by
  intro es
  induction es with
  | nil =>
    intro l i0 hl _ _
    have : l = [] := by simpa using hl
    subst this
    exact .inr ⟨rfl, rfl, rfl⟩
  | cons e es ih =>
    intro l i0 hl hs hk
    cases l with
    | nil => simp at hl
    | cons x l =>
      simp only [sortsB, Bool.and_eq_true] at hs
      obtain ⟨b, hb⟩ := Option.isSome_iff_exists.1 hs.1
      have hx := hk 0 (by simp)
      simp only [List.getD_cons_zero] at hx
      obtain ⟨h1, h2⟩ := h.same hx hb
      cases b with
      | true => exact .inl ⟨0, by simp, by simp [findE, hb], by simpa using h2 rfl, by simp [updE, hb], by simp [Instr.findNow, h1]⟩
      | false =>
        rcases ih l (i0 + 1) (by simpa using hl) hs.2 (fun i hi => by simpa using hk (i + 1) (by simpa using hi)) with ⟨j, g1, g2, g3, g4, g5⟩ | ⟨g1, g2, g3⟩
        · exact .inl ⟨j + 1, by simpa using g1, by simpa [findE, hb] using g2, by simpa using g3, by simpa [updE, hb] using g4, by simp [Instr.findNow, h1, g5]; omega⟩
        · exact .inr ⟨by simpa [findE, hb] using g1, by simpa [updE, hb] using g2, by simpa [Instr.findNow, h1] using g3⟩

theorem run_getObj' {P : Program} {w : World} {b : Nat} {o : Obj} (h : w.heap[b]? = some o) (ho : isCells o = false) : (getObj b).run P w = .ok o w := by
  simp only [getObj, Sem.run, h]
  cases o <;> first | rfl | cases ho
theorem run_setObj' {P : Program} {w : World} {b : Nat} {o : Obj} (o' : Obj) (h : w.heap[b]? = some o) (ho : isCells o = false) : (setObj b o').run P w = .ok () (setBlock w b o') := by
  simp only [setObj, Sem.run, h, setBlock]
  cases o <;> first | rfl | cases ho

theorem lkRes_VR {w B H V} {z : PV} {v : Value} (h : VR w B H V z v) (ok b : Bool) : VR w B H V (lkRes ok z b) (if ok then .tuple #[v, .bool b] else v) := by
  cases ok with
  | false => exact h
  | true =>
    refine .tup rfl (fun i hi => ?_)
    rcases i with _ | _ | i
    · simpa using h
    · exact .bool b
    · simp at hi; omega

theorem Real.lookup {P : Program} {w : World} {B : Blocks} {hp : List (RId × Root)} {V : Nat → Prop} {ver : Nat} (hr : HR w B (lkH hp) V) (t : TypeId) (ok : Bool) {x k : PV} {vx vk : Value}
    (hx : VR w B (lkH hp) V x vx) (hk : VR w B (lkH hp) V k vk) : Real P w B hp V ver (Instr.lookup t vx vk ok) (lookupA P t ok x k) := by
  refine .of_pure hr fun K hK => ?_
  unfold lookupA at hK
  split at hK
  · rename_i kt et hu
    split at hK
    · rename_i z hz
      obtain ⟨hf, hK⟩ := hK
      obtain ⟨d, hd, hat⟩ := fitsK_at hf hk
      obtain ⟨zv, hz1, hz2⟩ := zeroPV_some hz w
      -- a map's entries
      have found : ∀ (b clock : Nat) (es : List (PV × PV)) (cs : Array MapEntry), vx = .map (some b) → w.heap[b]? = some (.map cs clock) → cs.size = es.length → sortsB k es = true →
          (∀ i, i < es.length → VR w B (lkH hp) V (es.getD i (.undef, .undef)).1 (cs.getD i default).key) → (∀ i, i < es.length → VR w B (lkH hp) V (es.getD i (.undef, .undef)).2 (cs.getD i default).val) →
          (findA ok z es k).wp hp K → ∃ v x, (Instr.lookup t vx vk ok).run P w = .ok v w ∧ K x hp ∧ VR w B (lkH hp) V x v := by
        rintro b clock es cs rfl hh hn hs hkk hvv hK
        have hgd : ∀ i, cs.toList.getD i default = cs.getD i default := fun i => by simp [List.getD_eq_getElem?_getD, Array.getD_eq_getD_getElem?]
        rcases find_spec hat k es cs.toList 0 (by simpa using hn) hs (fun i hi => by rw [hgd]; exact hkk i hi) with ⟨j, h1, h2, h3, _, h5⟩ | ⟨h1, _, h3⟩
        · simp only [findA, A.wp, h2] at hK
          refine ⟨_, _, ?_, hK, lkRes_VR (hvv j h1) ok true⟩
          rw [hgd] at h5
          simp [Instr.lookup, run_underlying' hu, run_getObj' hh rfl, hat.check, Instr.findKey, run_underlying' hd, h5]
        · simp only [findA, A.wp, h1] at hK
          refine ⟨_, _, ?_, hK, lkRes_VR (hz2 _ _ _) ok false⟩
          simp [Instr.lookup, run_underlying' hu, run_getObj' hh rfl, hat.check, Instr.findKey, run_underlying' hd, h3, hz1]
      split at hK
      · cases hx
        refine ⟨_, _, ?_, hK, lkRes_VR (hz2 _ _ _) ok false⟩
        simp [Instr.lookup, run_underlying' hu, hat.check, Instr.findKey, run_underlying' hd, Instr.findNow, hz1]
      · rename_i es
        obtain ⟨hs, hK⟩ := hK
        cases hx with
        | fmap hfr hh hn hkk hvv =>
          exact found _ _ es _ rfl hh hn hs (fun i hi => (hkk i hi).lift (fun _ _ _ h => h)) (fun i hi => (hvv i hi).lift (fun _ _ _ h => h)) hK
      · rename_i r v
        simp only [A.wp] at hK
        cases hH : lkH hp r with
        | none => rw [hH] at hK; exact hK.elim
        | some rt =>
          rw [hH] at hK
          obtain ⟨hv, hK⟩ := hK
          have hroot := hr.root r rt hH
          split at hK
          · rename_i es bs cl hnode
            obtain ⟨hs, hK⟩ := hK
            rw [hnode] at hroot
            cases hx with
            | sref _ h =>
            obtain ⟨b, _, hB, rfl⟩ := h rt hH hv
            cases hroot with
            | omap hB' hh hn hbs hcl hkk hvv =>
              rw [hB] at hB'
              cases hB'
              exact found _ _ es _ rfl hh hn hs hkk hvv hK
          · exact hK.elim
      · exact hK.elim
    · exact hK.elim
  · exact hK.elim

theorem getD_toList (cs : Array MapEntry) (i : Nat) : cs.toList.getD i default = cs.getD i default := by simp [List.getD_eq_getElem?_getD, Array.getD_eq_getD_getElem?]

theorem Real.mapUpdate {P : Program} {w : World} {B : Blocks} {hp : List (RId × Root)} {V : Nat → Prop} {ver : Nat} (hr : HR w B (lkH hp) V) (t : TypeId) {x k u : PV} {vx vk vu : Value}
    (hx : VR w B (lkH hp) V x vx) (hk : VR w B (lkH hp) V k vk) (hu : VR w B (lkH hp) V u vu) : Real P w B hp V ver (do Instr.mapUpdate t vx vk vu; pure Go.undef) (mapUpdateA P t x k u) := by
  intro K hK
  unfold mapUpdateA at hK
  split at hK
  · rename_i kt et hut
    obtain ⟨hf, hK⟩ := hK
    obtain ⟨d, hd, hat⟩ := fitsK_at hf hk
    split at hK
    · rename_i r v
      simp only [A.wp] at hK
      cases hH : lkH hp r with
      | none => rw [hH] at hK; exact hK.elim
      | some rt =>
        rw [hH] at hK
        obtain ⟨hv, hK⟩ := hK
        have hroot := hr.root r rt hH
        split at hK
        · rename_i es bs cl hnode
          obtain ⟨hs, hK⟩ := hK
          rw [hnode] at hroot
          have hsp : spec rt.node = true := by rw [hnode]; rfl
          cases hx with
          | sref _ h =>
          obtain ⟨b, _, hB, rfl⟩ := h rt hH hv
          cases hroot with
          | @omap _ _ b' _ cs hB' hh hn hbs hcl hkk hvv =>
          rw [hB] at hB'
          cases hB'
          have hlk : ∀ (es' : List (PV × PV)) (bs' : List Nat) (cl' : Nat), ∀ j, lkH (setH hp r (some ⟨rt.ver, .omap es' bs' cl'⟩)) j = if j = r then some ⟨rt.ver, .omap es' bs' cl'⟩ else lkH hp j := fun _ _ _ j => lookH_setH ..
          rcases find_spec hat u es cs.toList 0 (by simpa using hn) hs (fun i hi => by rw [getD_toList]; exact hkk i hi) with ⟨j, h1, h2, h3, h4, h5⟩ | ⟨h1, h2, h3⟩
          · rw [getD_toList] at h3 h5
            have hj : j < cs.size := by omega
            have hkj : cs[j].key = vk := by simpa [Array.getD_eq_getD_getElem?, hj] using h3
            have hrun : (do Instr.mapUpdate t (.map (some b)) vk vu; pure Go.undef : Sem Value).run P w = .ok Go.undef (setBlock w b (.map (cs.modify j fun e => { e with key := vk, val := vu }) cl)) := by
              simp [Instr.mapUpdate, run_underlying' hut, run_getObj' hh rfl, hat.check, Instr.findKey, run_underlying' hd, h5, hj, hkj, Instr.keyThatStays, hat.bits, run_setObj' _ hh rfl]
            have hbs' : updBs es bs cl k = bs := by simp [updBs, h2]
            have hcl' : updCl es cl k = cl := by simp [updCl, h2]
            rw [h4, hbs', hcl'] at hK
            obtain ⟨g1, g2⟩ := hr.putS (H' := lkH (setH hp r (some ⟨rt.ver, .omap (es.set j (k, u)) bs cl⟩))) hH hsp hB hh (o' := .map (cs.modify j fun e => { e with key := vk, val := vu }) cl) rfl (node := .omap (es.set j (k, u)) bs cl) rfl (hlk _ _ _) (fun hm => by
              have hget : ∀ i, (cs.modify j fun e => { e with key := vk, val := vu }).getD i default = if i = j then { cs.getD i default with key := vk, val := vu } else cs.getD i default := by
                intro i
                simp only [Array.getD_eq_getD_getElem?, Array.getElem?_modify]
                by_cases e : j = i
                · subst e; simp [hj]
                · simp [e, Ne.symm e]
              have hge : ∀ i, (es.set j (k, u)).getD i (.undef, .undef) = if i = j then (k, u) else es.getD i (.undef, .undef) := by
                intro i
                simp only [List.getD_eq_getElem?_getD, List.getElem?_set]
                by_cases e : j = i
                · subst e; simp [h1]
                · simp [e, Ne.symm e]
              refine .omap hB (setBlock_self _ hh) (by simpa using hn) ?_ hcl (fun i hi => ?_) (fun i hi => ?_)
              · rw [hbs]
                apply List.ext_getElem
                · simp
                · intro i h1 h2
                  simp only [List.getElem_map, Array.getElem_toList, Array.getElem_modify]
                  by_cases e : j = i
                  · simp [e]
                  · simp [e]
              · simp only [List.length_set] at hi
                rw [hget, hge]
                split
                · exact hk.mono hm
                · exact (hkk i hi).mono hm
              · simp only [List.length_set] at hi
                rw [hget, hge]
                split
                · exact hu.mono hm
                · exact (hvv i hi).mono hm)
            exact ⟨_, _, B, _, _, hrun, hK, .undef _, g1.more ver, g2.trans (Mono.more ..)⟩
          · have hrun : (do Instr.mapUpdate t (.map (some b)) vk vu; pure Go.undef : Sem Value).run P w = .ok Go.undef (setBlock w b (.map (cs.push { key := vk, val := vu, born := cl }) (cl + 1))) := by
              simp [Instr.mapUpdate, run_underlying' hut, run_getObj' hh rfl, hat.check, Instr.findKey, run_underlying' hd, h3, run_setObj' _ hh rfl]
            have hbs' : updBs es bs cl k = bs ++ [cl] := by simp [updBs, h1]
            have hcl' : updCl es cl k = cl + 1 := by simp [updCl, h1]
            rw [h2, hbs', hcl'] at hK
            obtain ⟨g1, g2⟩ := hr.putS (H' := lkH (setH hp r (some ⟨rt.ver, .omap (es ++ [(k, u)]) (bs ++ [cl]) (cl + 1)⟩))) hH hsp hB hh (o' := .map (cs.push { key := vk, val := vu, born := cl }) (cl + 1)) rfl (node := .omap (es ++ [(k, u)]) (bs ++ [cl]) (cl + 1)) rfl (hlk _ _ _) (fun hm => by
              have hget : ∀ i, i < es.length + 1 → (cs.push { key := vk, val := vu, born := cl }).getD i default = if i = es.length then { key := vk, val := vu, born := cl } else cs.getD i default := by
                intro i hi
                simp only [Array.getD_eq_getD_getElem?, Array.getElem?_push, hn]
                split <;> simp
              have hge : ∀ i, i < es.length + 1 → (es ++ [(k, u)]).getD i (.undef, .undef) = if i = es.length then (k, u) else es.getD i (.undef, .undef) := by
                intro i hi
                simp only [List.getD_eq_getElem?_getD]
                by_cases e : i = es.length
                · subst e; simp
                · rw [List.getElem?_append_left (by omega)]; simp [e]
              refine .omap hB (setBlock_self _ hh) (by simpa using hn) (by simp [hbs]) ⟨?_, fun x hx => ?_⟩ (fun i hi => ?_) (fun i hi => ?_)
              · rw [List.nodup_append]
                refine ⟨hcl.1, by simp, fun x hx y hy => ?_⟩
                simp only [List.mem_singleton] at hy
                have := hcl.2 x hx
                omega
              · rcases List.mem_append.1 hx with h | h
                · have := hcl.2 x h; omega
                · simp only [List.mem_singleton] at h; omega
              · simp only [List.length_append, List.length_singleton] at hi
                rw [hget i hi, hge i hi]
                split
                · exact hk.mono hm
                · exact (hkk i (by omega)).mono hm
              · simp only [List.length_append, List.length_singleton] at hi
                rw [hget i hi, hge i hi]
                split
                · exact hu.mono hm
                · exact (hvv i (by omega)).mono hm)
            exact ⟨_, _, B, _, _, hrun, hK, .undef _, g1.more ver, g2.trans (Mono.more ..)⟩
        · exact hK.elim
    · exact hK.elim
  · exact hK.elim

theorem Real.makeMap {P : Program} {w : World} {B : Blocks} {hp : List (RId × Root)} {V : Nat → Prop} {ver : Nat} (hr : HR w B (lkH hp) V) (hver : ¬ V ver) (id : RId) (hid : id.1 ≠ 0) (t : TypeId) {x : Option PV} {vx : Option Value} (hx : OV w B (lkH hp) V x vx) :
    Real P w B hp V ver (Instr.makeMap t vx) (makeMapA P id ver t x) := by
  intro K hK
  have fin : (Instr.makeMap t vx).run P w = .ok (.map (some w.heap.size)) (w.alloc (.map #[] 0)) → K (.sref .map id ver) (setH hp id (some ⟨ver, .omap [] [] 0⟩)) →
      ∃ v w' B' hp' x', (Instr.makeMap t vx).run P w = .ok v w' ∧ K x' hp' ∧ VR w' B' (lkH hp') (ors V ver) x' v ∧ HR w' B' (lkH hp') (ors V ver) ∧ Mono w B (lkH hp) V w' B' (lkH hp') (ors V ver) := by
    intro hrun hk
    obtain ⟨g1, g2⟩ := hr.newS hver id hid (node := .omap [] [] 0) rfl (o := .map #[] 0) rfl (fun _ => .omap (newB_self ..) (heap_alloc_new ..) rfl rfl ⟨List.nodup_nil, fun x hx => by simp at hx⟩ (fun i hi => by simp at hi) (fun i hi => by simp at hi))
    refine ⟨_, _, _, _, _, hrun, hk, .sref (.inr rfl) (fun rt h _ => ?_), g1, g2⟩
    rw [lookH_setH, if_pos rfl] at h
    cases h
    exact ⟨w.heap.size, at_nil.2 rfl, newB_self .., rfl⟩
  unfold makeMapA at hK
  split at hK
  · cases vx with
    | none => exact fin rfl hK
    | some v => exact hx.elim
  · rename_i ik n kt et hu
    cases vx with
    | none => exact hx.elim
    | some v =>
      cases hx
      exact fin (by simp [Instr.makeMap, run_underlying' hu, asInt, asIntOf]) hK
  · exact hK.elim

theorem Real.lenM {P : Program} {w : World} {B : Blocks} {hp : List (RId × Root)} {V : Nat → Prop} {ver : Nat} (hr : HR w B (lkH hp) V) (t rt0 : TypeId) {x : PV} {vx : Value} (hx : VR w B (lkH hp) V x vx) :
    Real P w B hp V ver (Builtin.len_ #[t] rt0 #[vx]) (Ab.lenM P t x) := by
  refine .of_pure hr fun K hK => ?_
  unfold Ab.lenM at hK
  split at hK
  · rename_i kt et hu
    split at hK
    · cases hx
      exact ⟨_, _, by simp [Builtin.len_, run_underlying' hu]; rfl, hK, .int _ _⟩
    · cases hx with
      | fmap hf hh hn _ _ => exact ⟨_, _, by simp [Builtin.len_, run_underlying' hu, run_getObj' hh rfl, hn, goInt], hK, .int _ _⟩
    · rename_i r v
      simp only [A.wp] at hK
      cases hH : lkH hp r with
      | none => rw [hH] at hK; exact hK.elim
      | some rt =>
        rw [hH] at hK
        obtain ⟨hv, hK⟩ := hK
        have hroot := hr.root r rt hH
        split at hK
        · rename_i es bs cl hnode
          rw [hnode] at hroot
          cases hx with
          | sref _ h =>
          obtain ⟨b, _, hB, rfl⟩ := h rt hH hv
          cases hroot with
          | omap hB' hh hn _ _ _ _ =>
            rw [hB] at hB'
            cases hB'
            exact ⟨_, _, by simp [SK.val, Builtin.len_, run_underlying' hu, run_getObj' hh rfl, hn, goInt], hK, .int _ _⟩
        · exact hK.elim
    · exact hK.elim
  · exact hK.elim

theorem Real.range {P : Program} {w : World} {B : Blocks} {hp : List (RId × Root)} {V : Nat → Prop} {ver : Nat} (hr : HR w B (lkH hp) V) (hver : ¬ V ver) (id : RId) (hid : id.1 ≠ 0) (t : TypeId) {x : PV} {vx : Value} (hx : VR w B (lkH hp) V x vx) :
    Real P w B hp V ver (Instr.range t vx) (rangeA P id ver t x) := by
  intro K hK
  have fin : ∀ (m : PV) (om : Option Nat) (since : Nat), VR w B (lkH hp) V m (.map om) → (Instr.range t vx).run P w = .ok (.pointer (some ⟨w.heap.size, 0, none⟩)) (w.alloc (.mapIter om since #[] since)) → K (.sref .iter id ver) (setH hp id (some ⟨ver, .oiter m since [] since⟩)) →
      ∃ v w' B' hp' x', (Instr.range t vx).run P w = .ok v w' ∧ K x' hp' ∧ VR w' B' (lkH hp') (ors V ver) x' v ∧ HR w' B' (lkH hp') (ors V ver) ∧ Mono w B (lkH hp) V w' B' (lkH hp') (ors V ver) := by
    intro m om since hm hrun hk
    obtain ⟨g1, g2⟩ := hr.newS hver id hid (node := .oiter m since [] since) rfl (o := .mapIter om since #[] since) rfl (fun hmo => .oiter (newB_self ..) (heap_alloc_new ..) (hm.mono hmo))
    refine ⟨_, _, _, _, _, hrun, hk, .sref (.inr rfl) (fun rt h _ => ?_), g1, g2⟩
    rw [lookH_setH, if_pos rfl] at h
    cases h
    exact ⟨w.heap.size, at_nil.2 rfl, newB_self .., rfl⟩
  unfold rangeA at hK
  split at hK
  · rename_i kt et hu
    split at hK
    · have hx' := hx
      cases hx'
      exact fin _ none 0 hx (by simp [Instr.range, run_underlying' hu]) hK
    · rename_i r v
      simp only [A.wp] at hK
      cases hH : lkH hp r with
      | none => rw [hH] at hK; exact hK.elim
      | some rt =>
        rw [hH] at hK
        obtain ⟨hv, hK⟩ := hK
        have hroot := hr.root r rt hH
        split at hK
        · rename_i es bs cl hnode
          rw [hnode] at hroot
          have hx' := hx
          cases hx' with
          | sref _ h =>
          obtain ⟨b, _, hB, rfl⟩ := h rt hH hv
          cases hroot with
          | omap hB' hh hn _ _ _ _ =>
            rw [hB] at hB'
            cases hB'
            exact fin _ (some b) cl hx (by simp [SK.val, Instr.range, run_underlying' hu, run_getObj' hh rfl]) hK
        · exact hK.elim
    · exact hK.elim
  · exact hK.elim

theorem getElem_getD (cs : Array MapEntry) {i : Nat} (h : i < cs.size) : cs.getD i default = cs[i] := by simp [Array.getD_eq_getD_getElem?, h]

theorem tup3 {w B H V} {k v : PV} {vk vv : Value} (hk : VR w B H V k vk) (hv : VR w B H V v vv) : VR w B H V (.tup [.bool true, k, v]) (.tuple #[.bool true, vk, vv]) := by
  refine .tup rfl (fun i hi => ?_)
  rcases i with _ | _ | _ | i
  · exact .bool true
  · simpa using hk
  · simpa using hv
  · simp at hi; omega

theorem Real.next {P : Program} {w : World} {B : Blocks} {hp : List (RId × Root)} {V : Nat → Prop} {ver : Nat} (hr : HR w B (lkH hp) V) (str : Bool) (ty : TypeId) {x : PV} {vx : Value} (hx : VR w B (lkH hp) V x vx) :
    Real P w B hp V ver (Instr.next vx str ty) (nextA str x) := by
  intro K hK
  unfold nextA at hK
  split at hK
  · rename_i r v
    simp only [A.wp] at hK
    cases hH : lkH hp r with
    | none => rw [hH] at hK; exact hK.elim
    | some rt =>
      rw [hH] at hK
      obtain ⟨hv, hK⟩ := hK
      have hroot := hr.root r rt hH
      cases hx with
      | sref _ h =>
      obtain ⟨b, _, hB, rfl⟩ := h rt hH hv
      split at hK
      · rename_i since seen last hnode
        rw [hnode] at hroot
        cases hroot with
        | oiter hB' hh hm =>
          rw [hB] at hB'
          cases hB'
          cases hm
          refine ⟨.tuple #[.bool false], w, B, hp, _, ?_, hK, .tup rfl (fun i hi => ?_), hr.more ver, Mono.more ..⟩
          · simp [SK.val, Instr.next, run_getObj' hh rfl]
          · obtain rfl : i = 0 := by simp at hi; omega
            exact .bool false
      · rename_i r2 v2 since seen last hnode
        have hsp : spec rt.node = true := by rw [hnode]; rfl
        rw [hnode] at hroot
        simp only [A.wp] at hK
        cases hH2 : lkH hp r2 with
        | none => rw [hH2] at hK; exact hK.elim
        | some rt2 =>
          rw [hH2] at hK
          obtain ⟨hv2, hK⟩ := hK
          have hroot2 := hr.root r2 rt2 hH2
          split at hK
          · rename_i es bs cl hnode2
            rw [hnode2] at hroot2
            cases hroot2 with
            | @omap _ _ b2 _ cs hB2 hh2 hn hbs hcl hkk hvv =>
            have hlen : bs.length = es.length := by rw [hbs]; simp [hn]
            obtain ⟨⟨rfl, hle⟩, hK⟩ := hK ⟨hlen, hcl⟩
            rw [A.ifD_wp] at hK
            cases hroot with
            | @oiter _ _ _ b' _ om hB' hh hm =>
            rw [hB] at hB'
            cases hB'
            have hm' := hm
            cases hm' with
            | sref _ h2 =>
            obtain ⟨b2', _, hB2', he⟩ := h2 rt2 hH2 hv2
            rw [hB2] at hB2'
            cases hB2'
            simp only [SK.val, Value.map.injEq] at he
            subst he
            have hold : ∀ x ∈ cs.toList, x.born < cl := fun x hx => hcl.2 _ (by rw [hbs]; exact List.mem_map_of_mem hx)
            have hbget : ∀ i, i < cs.size → bs.getD i 0 = (cs.getD i default).born := fun i hi => by
              rw [hbs]
              simp [List.getD_eq_getElem?_getD, Array.getD_eq_getD_getElem?, hi]
            have hmem : ∀ i, i ∈ leftI bs seen ↔ i < cs.size ∧ (cs.getD i default).born ∉ seen := fun i => by
              unfold leftI
              simp only [List.mem_filter, List.mem_range, hlen, ← hn]
              constructor
              · rintro ⟨h1, h2⟩; rw [hbget i h1] at h2; exact ⟨h1, by simpa using h2⟩
              · rintro ⟨h1, h2⟩; rw [hbget i h1]; exact ⟨h1, by simpa using h2⟩
            rcases run_next_at (P := P) w ty b b2 cl last seen.toArray cs cl hh hh2 hold hle with ⟨h0, hrun⟩ | ⟨e, he, w1, hw1, hrun⟩
            · have hnil : leftI bs seen = [] := by
                refine List.eq_nil_iff_forall_not_mem.2 fun i hi => ?_
                obtain ⟨h1, h2⟩ := (hmem i).1 hi
                have : cs.getD i default ∈ leftOf cs seen.toArray := by
                  unfold leftOf
                  rw [getElem_getD cs h1] at h2 ⊢
                  simp [Array.mem_filter, h2]
                have h3 : leftOf cs seen.toArray = #[] := Array.eq_empty_of_size_eq_zero h0
                rw [h3] at this
                simp at this
              rw [if_pos hnil] at hK
              refine ⟨_, w, B, hp, _, hrun, hK, .tup rfl (fun i hi => ?_), hr.more ver, Mono.more ..⟩
              obtain rfl : i = 0 := by simp at hi; omega
              exact .bool false
            · have he2 : e ∈ cs ∧ e.born ∉ seen := by
                have : e ∈ leftOf cs seen.toArray := by simpa using he
                unfold leftOf at this
                simpa [Array.mem_filter] using this
              obtain ⟨i, hi, rfl⟩ := Array.getElem_of_mem he2.1
              have hil : i ∈ leftI bs seen := (hmem i).2 ⟨hi, by rw [getElem_getD cs hi]; exact he2.2⟩
              rw [if_neg (fun h => by rw [h] at hil; simp at hil)] at hK
              have hK := hK i hil
              have hb : bs.getD i 0 = cs[i].born := by rw [hbget i hi, getElem_getD cs hi]
              have hturn : ∃ hr1 : HR w1 B (lkH hp) V, Mono w B (lkH hp) V w1 B (lkH hp) V ∧ w1.heap = w.heap := by
                rcases hw1 with rfl | rfl
                · exact ⟨hr, Mono.refl .., rfl⟩
                · exact ⟨hr.drew.1, hr.drew.2, rfl⟩
              obtain ⟨hr1, hm1, hheap⟩ := hturn
              have hh1 : w1.heap[b]? = some (.mapIter (some b2) cl seen.toArray last) := by rw [hheap]; exact hh
              obtain ⟨g1, g2⟩ := hr1.putS (H' := lkH (setH hp r (some ⟨rt.ver, .oiter (.sref .map r2 v2) cl (seen ++ [bs.getD i 0]) cl⟩))) hH hsp hB hh1 (o' := .mapIter (some b2) cl (seen.toArray.push cs[i].born) cl) rfl (node := .oiter (.sref .map r2 v2) cl (seen ++ [bs.getD i 0]) cl) rfl (fun j => lookH_setH ..) (fun hmo => by
                refine .oiter hB ?_ ((hm.mono hm1).mono hmo)
                rw [setBlock_self _ hh1, hb]
                simp)
              refine ⟨_, _, B, _, _, hrun, hK, ?_, g1.more ver, (hm1.trans g2).trans (Mono.more ..)⟩
              have h1 := hkk i (by omega)
              have h2 := hvv i (by omega)
              rw [getElem_getD cs hi] at h1 h2
              exact (tup3 ((h1.mono hm1).mono g2) ((h2.mono hm1).mono g2)).mono (Mono.more ..)
          · exact hK.elim
      · exact hK.elim
  · exact hK.elim

theorem Real.entry {P : Program} {w : World} {B : Blocks} {hp : List (RId × Root)} {V : Nat → Prop} {ver : Nat} (hr : HR w B (lkH hp) V) {x : PV} {vx : Value} (hx : VR w B (lkH hp) V x vx) :
    Real P w B hp V ver (Instr.entry vx) (entryA x) := by
  refine .of_pure hr fun K hK => ?_
  unfold entryA at hK
  split at hK
  · rename_i r v
    simp only [A.wp] at hK
    cases hH : lkH hp r with
    | none => rw [hH] at hK; exact hK.elim
    | some rt =>
      rw [hH] at hK
      obtain ⟨hv, hK⟩ := hK
      have hroot := hr.root r rt hH
      cases hx with
      | sref _ h =>
      obtain ⟨b, _, hB, rfl⟩ := h rt hH hv
      split at hK
      · rename_i r2 v2 since seen last hnode
        rw [hnode] at hroot
        simp only [A.wp] at hK
        cases hH2 : lkH hp r2 with
        | none => rw [hH2] at hK; exact hK.elim
        | some rt2 =>
          rw [hH2] at hK
          obtain ⟨hv2, hK⟩ := hK
          have hroot2 := hr.root r2 rt2 hH2
          split at hK
          · rename_i es bs cl hnode2
            rw [hnode2] at hroot2
            cases hroot2 with
            | @omap _ _ b2 _ cs hB2 hh2 hn hbs hcl hkk hvv =>
            obtain ⟨rfl, hK⟩ := hK
            cases hroot with
            | @oiter _ _ _ b' _ om hB' hh hm =>
            rw [hB] at hB'
            cases hB'
            cases hm with
            | sref _ h2 =>
            obtain ⟨b2', _, hB2', he⟩ := h2 rt2 hH2 hv2
            rw [hB2] at hB2'
            cases hB2'
            simp only [SK.val, Value.map.injEq] at he
            subst he
            cases hE : entryE es bs seen with
            | none => rw [hE] at hK; exact hK.elim
            | some y =>
              rw [hE] at hK
              unfold entryE at hE
              cases hl : seen.getLast? with
              | none => rw [hl] at hE; cases hE
              | some s =>
                rw [hl] at hE
                simp only at hE
                cases hi : bs.idxOf? s with
                | none => rw [hi] at hE; cases hE
                | some i =>
                  rw [hi] at hE
                  simp only [Option.bind_some, Option.map_eq_some_iff] at hE
                  obtain ⟨e, he, rfl⟩ := hE
                  obtain ⟨hib, hbi⟩ : ∃ h : i < bs.length, bs[i] = s := by
                    have := List.idxOf?_eq_some_iff.1 hi
                    obtain ⟨h1, h2, _⟩ := this
                    exact ⟨h1, by simpa using h2⟩
                  have hi' : i < cs.size := by rw [hbs] at hib; simpa using hib
                  have hborn : cs[i].born = s := by
                    rw [← hbi]
                    simp [hbs]
                  obtain ⟨front, hfront⟩ := List.getLast?_eq_some_iff.1 hl
                  have hh' : w.heap[b]? = some (.mapIter (some b2) since (front.toArray.push cs[i].born) cl) := by
                    rw [hh, hfront, hborn]
                    simp
                  have hrun := run_entry_at (P := P) w b b2 since front.toArray cs cl cs[i] hh' hh2 (by simp) (by rw [← hbs]; exact hcl.1)
                  have hes : es.getD i (.undef, .undef) = e := by simp [List.getD_eq_getElem?_getD, he]
                  have hie : i < es.length := by omega
                  have h1 := hkk i hie
                  have h2 := hvv i hie
                  rw [hes, getElem_getD cs hi'] at h1 h2
                  refine ⟨_, _, hrun, hK, .tup rfl (fun j hj => ?_)⟩
                  rcases j with _ | _ | j
                  · simpa using h1
                  · simpa using h2
                  · simp at hj; omega
          · exact hK.elim
      · exact hK.elim
  · exact hK.elim
end Go.Ab
/- The capacity. -/
namespace Go.Ab

def capA (P : Program) (t : TypeId) (x : PV) : A := match sliceOf P t, x with
  | some _, .nils => .ret (.int .i64 0)
  | some _, .fcl _ n _ => .ret (.int .i64 n)
  | _, _ => .fail

theorem Real.cap {P : Program} {w : World} {B : Blocks} {hp : List (RId × Root)} {V : Nat → Prop} {ver : Nat} (hr : HR w B (lkH hp) V) (t rt0 : TypeId) {x : PV} {vx : Value} (hx : VR w B (lkH hp) V x vx) :
    Real P w B hp V ver (Builtin.cap_ #[t] rt0 #[vx]) (capA P t x) := by
  refine .of_pure hr fun K hK => ?_
  unfold capA at hK
  split at hK
  · rename_i e he
    cases hx
    exact ⟨_, _, by simp [Builtin.cap_, run_underlying' (sliceOf_some he), goInt], hK, .int _ _⟩
  · rename_i e sz n f he
    cases hx
    exact ⟨_, _, by simp [Builtin.cap_, run_underlying' (sliceOf_some he), goInt], hK, .int _ _⟩
  · exact hK.elim

/-- The length of what has one. -/
def lenT (P : Program) (t : TypeId) (x : PV) : A := match x with
  | .nilm => lenM P t .nilm
  | .fmap es => lenM P t (.fmap es)
  | .sref k r v => lenM P t (.sref k r v)
  | .fcl _ n _ => match sliceOf P t with
    | some _ => .ret (.int .i64 n)
    | none => .fail
  | x => lenA P t x

theorem Real.lenT {P : Program} {w : World} {B : Blocks} {hp : List (RId × Root)} {V : Nat → Prop} {ver : Nat} (hr : HR w B (lkH hp) V) (t rt0 : TypeId) {x : PV} {vx : Value} (hx : VR w B (lkH hp) V x vx) :
    Real P w B hp V ver (Builtin.len_ #[t] rt0 #[vx]) (Ab.lenT P t x) := by
  unfold Ab.lenT
  split
  · exact .lenM hr t rt0 hx
  · exact .lenM hr t rt0 hx
  · exact .lenM hr t rt0 hx
  · refine .of_pure hr fun K hK => ?_
    split at hK
    · rename_i e he
      cases hx
      exact ⟨_, _, by simp [Builtin.len_, run_underlying' (sliceOf_some he), goInt], hK, .int _ _⟩
    · exact hK.elim
  · exact .len hr t rt0 hx
end Go.Ab
/- copy. -/
namespace Go.Ab

theorem loadFrom_take {P : Program} {w : World} (a : Addr) : ∀ (n i : Nat) (acc arr : Array Value) (w' : World), (loadCellsFrom a i n acc).run P w = .ok arr w' → w' = w ∧ arr.size = acc.size + n ∧ ∀ k, k ≤ n → (loadCellsFrom a i k acc).run P w = .ok (arr.toList.take (acc.size + k)).toArray w
  | 0, i, acc, arr, w', h => by
    simp [loadCellsFrom] at h
    obtain ⟨rfl, rfl⟩ := h
    refine ⟨rfl, rfl, fun k hk => ?_⟩
    obtain rfl : k = 0 := by omega
    simp only [loadCellsFrom, Sem.run_pure, Nat.add_zero]
    rw [List.take_of_length_le (by simp), Array.toArray_toList]
  | n + 1, i, acc, arr, w', h => by
    unfold loadCellsFrom at h
    rw [Sem.run_bind] at h
    cases hr : (load (a.add i)).run P w with
    | halt hh w1 => rw [hr] at h; cases h
    | ok v w1 =>
      have e : w1 = w := by
        rw [run_load] at hr
        split at hr
        · cases hr; rfl
        · split at hr
          · cases hr; rfl
          · cases hr
      subst e
      rw [hr] at h
      obtain ⟨h1, h2, h3⟩ := loadFrom_take a n (i + 1) (acc.push v) arr w' h
      refine ⟨h1, by rw [h2, Array.size_push]; omega, fun k hk => ?_⟩
      cases k with
      | zero =>
        have h4 := (h3 0 (by omega))
        simp only [loadCellsFrom, Sem.run_pure, Nat.add_zero, Array.size_push] at h4 ⊢
        have h5 : acc.push v = (arr.toList.take (acc.size + 1)).toArray := by injection h4
        have h6 := congrArg (fun x : Array Value => x.toList.take acc.size) h5
        simp only [List.take_take] at h6
        rw [Nat.min_eq_left (by omega)] at h6
        have h7 : (acc.push v).toList.take acc.size = acc.toList := by simp
        rw [← h6, h7]
      | succ k =>
        have h4 := h3 k (by omega)
        unfold loadCellsFrom
        rw [Sem.run_bind, hr]
        simp only [Result.andThen_ok]
        rw [h4]
        rw [show acc.size + (k + 1) = (acc.push v).size + k by simp; omega]

/-- The first of what is read. -/
theorem first_take {P : Program} {w : World} {sz m k : Nat} {x : Value} {news : List Value} (hk : k ≤ m) (hs : ∃ A n c, x = .slice A n c) (h : (Builtin.firstCells sz m x).run P w = .ok news.toArray w) (hn : news.length = m * sz) :
    (Builtin.firstCells sz k x).run P w = .ok (news.take (k * sz)).toArray w := by
  obtain ⟨A, n, c, rfl⟩ := hs
  cases A with
  | none =>
    simp [Builtin.firstCells] at h ⊢
    simp [h]
  | some a =>
    simp only [Builtin.firstCells, loadCells] at h ⊢
    obtain ⟨_, h2, h3⟩ := loadFrom_take a _ _ _ _ _ h
    have := h3 (k * sz) (Nat.mul_le_mul_right _ hk)
    simpa using this

def copyA (P : Program) (t : TypeId) (x y : PV) : A := match sliceOf P t with
  | some e => match x with
    | .ref r v p sz lo hi => .rd r fun
      | some rt => .vc (rt.ver = v ∧ P.cellsOf e = sz ∧ 0 < sz ∧ (P.info? e).isSome) <| match getAt rt.node p with
        | .own _ n f => srcA sz y fun m c => .ifD (m = 0 ∨ hi ≤ lo) (.ret (.int .i64 0)) (.vc (∀ i, i < lo + Nat.min m (hi - lo) → lo ≤ i → ∀ o, o < sz → shapeOf (f i o) = none)
            (.wr r (some ⟨rt.ver, updAt (setRows lo (Nat.min m (hi - lo)) c) rt.node p⟩) (.ret (.int .i64 (Nat.min m (hi - lo))))))
        | _ => .fail
      | none => .fail
    | _ => .fail
  | none => .fail

theorem srcA_slice {w : World} {B : Blocks} {H : Roots} {V : Nat → Prop} {P : Program} {sz m : Nat} {y : PV} {vy : Value} {t e : TypeId} {news : List Value} (hu : P.underlying t = some (.slice e)) (h : Src P sz t vy m news w) (hy : VR w B H V y vy) (hb : ∃ (k : Nat → (Nat → Nat → PV) → A) (hp : List (RId × Root)) (K : PV → List (RId × Root) → Prop), (∀ r v p s lo hi, y = .ref r v p s lo hi → lkH hp = H) ∧ (srcA sz y k).wp hp K) : ∃ A n c, vy = .slice A n c := by
  obtain ⟨k, hp, K, he, hk⟩ := hb
  unfold srcA at hk
  split at hk
  · cases hy; exact ⟨_, _, _, rfl⟩
  · cases hy; exact ⟨_, _, _, rfl⟩
  · cases hy; exact ⟨_, _, _, rfl⟩
  · rename_i r v p sz' lo hi
    have he := he _ _ _ _ _ _ rfl
    simp only [A.wp] at hk
    rw [he] at hk
    cases hH : H r with
    | none => rw [hH] at hk; exact hk.elim
    | some rt =>
      rw [hH] at hk
      cases hy with
      | ref hv hy =>
      obtain ⟨n, hat, hlo, hhi, hx⟩ := hy rt hH hk.1.1
      rcases hx with ⟨b, A, cap, e', mm, hB, rfl, _⟩ | ⟨hB, ⟨A0, rfl⟩, h00⟩
      · exact ⟨_, _, _, rfl⟩
      · exact ⟨_, _, _, rfl⟩
  · exact hk.elim

theorem Real.copy {P : Program} {w : World} {B : Blocks} {hp : List (RId × Root)} {V : Nat → Prop} {ver : Nat} (hr : HR w B (lkH hp) V) (t ty : TypeId) {x y : PV} {vx vy : Value}
    (hx : VR w B (lkH hp) V x vx) (hy : VR w B (lkH hp) V y vy) : Real P w B hp V ver (Builtin.copy_ #[t, t] ty #[vx, vy]) (copyA P t x y) := by
  intro K hK
  unfold copyA at hK
  split at hK
  · rename_i e he
    have hu := sliceOf_some he
    split at hK
    · rename_i r v p sz lo hi
      simp only [A.wp] at hK
      cases hH : lkH hp r with
      | none => rw [hH] at hK; exact hK.elim
      | some rt =>
        rw [hH] at hK
        obtain ⟨⟨hv, rfl, h0, hi0⟩, hK⟩ := hK
        obtain ⟨i, hi'⟩ := Option.isSome_iff_exists.1 hi0
        have hsize : i.size = P.cellsOf e := by simp [Program.cellsOf, hi']
        cases hx with
        | ref hV h =>
        obtain ⟨n, hat, hlo, hhi, hxx⟩ := h rt hH hv
        split at hK
        · rename_i sz' n' f hg
          have hs := hat.2
          rw [hg] at hs
          simp only [shapeOf, Option.some.injEq, Prod.mk.injEq, true_and] at hs
          obtain ⟨rfl, rfl⟩ := hs
          obtain ⟨m, c, val, hk, hsrc, hval⟩ := srcA_wp hr hu h0 hy hK
          have hsl : ∃ A n c, vy = .slice A n c := srcA_slice hu hsrc hy ⟨_, hp, K, fun _ _ _ _ _ _ _ => rfl, hK⟩
          rw [A.ifD_wp] at hk
          have first : ∀ k, k ≤ m → (Builtin.firstCells (P.cellsOf e) k vy).run P w = .ok (((List.range (m * P.cellsOf e)).map val).take (k * P.cellsOf e)).toArray w := fun k hk => first_take hk hsl hsrc.cells (by simp)
          have hxv : ∃ A c, vx = .slice A (hi - lo) c := by
            rcases hxx with ⟨b, A, cap, e', mm, hB, rfl, _⟩ | ⟨hB, ⟨A0, rfl⟩, h00⟩
            · exact ⟨_, _, rfl⟩
            · exact ⟨A0, 0, by rw [show hi - lo = 0 by omega]⟩
          obtain ⟨A0, c0, hvx⟩ := hxv
          have hrun0 : (Builtin.copy_ #[t, t] ty #[vx, vy]).run P w = Result.andThen ((match A0 with | some a => storeCells a (((List.range (m * P.cellsOf e)).map val).take (Nat.min m (hi - lo) * P.cellsOf e)) | none => pure ()).run P w) fun _ w' => (pure (goInt (Nat.min m (hi - lo))) : Sem Value).run P w' := by
            subst hvx
            have h1 := hsrc.len
            have h2 := first (Nat.min m (hi - lo)) (Nat.min_le_left _ _)
            have hso : ∀ w : World, (sizeOf e).run P w = .ok (P.cellsOf e) w := fun w => by simp [sizeOf, typeInfo, hi', hsize]
            simp only [Builtin.copy_, List.getElem?_toArray, List.getElem?_cons_zero, List.getElem?_cons_succ, Sem.run_bind, run_underlying' hu, Result.andThen_ok, h1, hso, h2]
            cases A0 <;> simp
          split at hk
          · rename_i hm0
            have hmin : Nat.min m (hi - lo) = 0 := by
              rcases hm0 with h | h
              · rw [h]; exact Nat.zero_min _
              · rw [show hi - lo = 0 by omega]; exact Nat.min_zero _
            rw [hmin] at hrun0
            refine ⟨_, w, B, hp, _, ?_, hk, .int _ _, hr.more ver, Mono.more ..⟩
            rw [hrun0]
            cases A0 <;> simp [storeCells, goInt]
          · rename_i hm0
            obtain ⟨hold, hk⟩ := hk
            have hkm : Nat.min m (hi - lo) ≤ m := Nat.min_le_left _ _
            have hkh : Nat.min m (hi - lo) ≤ hi - lo := Nat.min_le_right _ _
            have hkp : 0 < Nat.min m (hi - lo) := by
              show 0 < Min.min m (hi - lo)
              omega
            generalize hkk : Nat.min m (hi - lo) = k at *
            have hnode := (hr.root r rt hH).node p hat
            rcases hnode.out with ⟨hBn, hn0⟩ | ⟨b, cs, e2, hB, hh, ⟨hsz, _⟩, _⟩
            · omega
            · rcases hxx with ⟨b', A, cap, e', mm, hB', hvx', hcap, hA, hsh, hle⟩ | ⟨hB', _, _⟩
              · obtain rfl : b' = b := by rw [hB] at hB'; exact (Option.some.inj hB').symm
                obtain rfl := hA (by omega)
                rw [hvx] at hvx'
                cases hvx'
                have hlen : (((List.range (m * P.cellsOf e)).map val).take (k * P.cellsOf e)).length = k * P.cellsOf e := by
                  simp only [List.length_take, List.length_map, List.length_range]
                  exact Nat.min_eq_left (Nat.mul_le_mul_right _ hkm)
                have hget : ∀ j, j < k * P.cellsOf e → (((List.range (m * P.cellsOf e)).map val).take (k * P.cellsOf e)).getD j Go.undef = val j := fun j hj => by
                  have hj2 : j < m * P.cellsOf e := Nat.lt_of_lt_of_le hj (Nat.mul_le_mul_right _ hkm)
                  rw [List.getD_eq_getElem?_getD, List.getElem?_take, if_pos hj, List.getElem?_map, List.getElem?_range hj2]
                  rfl
                have hfit2 : lo * P.cellsOf e + (((List.range (m * P.cellsOf e)).map val).take (k * P.cellsOf e)).length ≤ cs.size := by
                  rw [hlen, ← Nat.add_mul]
                  exact Nat.le_trans (Nat.mul_le_mul_right _ (by omega)) hsz
                have hne : (((List.range (m * P.cellsOf e)).map val).take (k * P.cellsOf e)) ≠ [] := fun e0 => by
                  rw [e0] at hlen
                  have := Nat.mul_pos hkp h0
                  simp at hlen
                  omega
                have hone : ∀ u ∈ (((List.range (m * P.cellsOf e)).map val).take (k * P.cellsOf e)), u.oneCell' = true := fun u hu => hsrc.one u (List.mem_of_mem_take hu)
                have hst := run_storeCells' (P := P) _ w cs (lo * P.cellsOf e) 0 hh (by simpa using hfit2) hone hne
                obtain ⟨g1, g2⟩ := rows_put hr hH hat hg hB hh hsz (lo := lo) (k := k) (by omega) (c := c) hlen hone (fun a o ha ho => by
                  have hj : a * P.cellsOf e + o < k * P.cellsOf e := by have := mul_lt_le (s := P.cellsOf e) ha; omega
                  rw [hget _ hj]; exact hval a o (by omega) ho) (fun a o h1 h2 h3 => hold a h2 h1 o h3)
                refine ⟨_, _, B, _, _, ?_, hk, .int _ _, g1.more ver, g2.trans (Mono.more ..)⟩
                rw [hrun0]
                simp only
                rw [hst]
                simp [goInt]
                rfl
              · rw [hB] at hB'; cases hB'
        · exact hK.elim
    · exact hK.elim
  · exact hK.elim
end Go.Ab
/- append of zeros onto nil. -/
namespace Go.Ab

def appendZA (P : Program) (id : RId) (ver : Nat) (t tn : TypeId) (x y : PV) : A := match sliceOf P t with
  | some e => match P.underlying tn with
    | some (.int _) => match zeroL P e with
      | some z => .vc (z.length = P.cellsOf e ∧ 0 < z.length ∧ z.all dryCell = true) <| match x with
        | .nils => match y with
          | .int _ n => .vc (0 < n ∧ n.toNat * P.bytesOf e ≤ 140737488355328 ∧ n.toNat ≤ 140737488355328) (.wr id (some ⟨ver, .own z.length n.toNat fun _ o => z.getD o .undef⟩) (.ret (.ref id ver [] z.length 0 n.toNat)))
          | _ => .fail
        | _ => .fail
      | none => .fail
    | _ => .fail
  | none => .fail

theorem Real.appendZ {P : Program} {w : World} {B : Blocks} {hp : List (RId × Root)} {V : Nat → Prop} {ver : Nat} (hr : HR w B (lkH hp) V) (hver : ¬ V ver) (id : RId) (hid : id.1 ≠ 0) (t tn ty : TypeId) {x y : PV} {vx vy : Value}
    (hx : VR w B (lkH hp) V x vx) (hy : VR w B (lkH hp) V y vy) : Real P w B hp V ver (Builtin.append_ #[t, tn] ty #[vx, vy]) (appendZA P id ver t tn x y) := by
  intro K hK
  unfold appendZA at hK
  split at hK
  · rename_i e he
    have hu := sliceOf_some he
    split at hK
    · rename_i kn hkn
      split at hK
      · rename_i z hz
        obtain ⟨⟨hzl, h0, hdry⟩, hK⟩ := hK
        obtain ⟨zv, e1, e2, e3⟩ := zeroL_some hz w
        have hi : (P.info? e).isSome := by unfold zeroL at hz; cases hh : P.info? e <;> simp_all
        obtain ⟨i, hi'⟩ := Option.isSome_iff_exists.1 hi
        have hbytes : P.bytesOf e = i.bytes := by simp [Program.bytesOf, hi']
        have hsize : i.size = z.length := by rw [hzl]; simp [Program.cellsOf, hi']
        obtain ⟨zz, hzz, hzzl⟩ : ∃ zz, i.zero = some zz ∧ zz.cells.toList.map cv = z := by
          unfold zeroL at hz
          rw [hi'] at hz
          simp only [Option.bind_some, Option.map_eq_some_iff] at hz
          obtain ⟨zz, h1, h2⟩ := hz
          exact ⟨zz, h1, h2⟩
        have hzzs : zz.cells.size = z.length := by rw [← hzzl]; simp
        have hL : ∀ w B V, LR w B (lkH hp) V z zz.cells := fun w B V => ⟨hzzs.symm, fun j hj => by
          rw [← hzzl]
          have : j < zz.cells.size := by omega
          simp [List.getD_eq_getElem?_getD, Array.getD_eq_getD_getElem?, this]
          exact VR.cv _⟩
        have hzone : OneCells zz.cells := oneCells_of (hL w B V) fun c hc => dryCell_one (List.all_eq_true.1 hdry c hc)
        split at hK
        · cases hx
          split at hK
          · rename_i k nn
            obtain ⟨⟨hp0, hb1, hb2⟩, hk⟩ := hK
            cases hy
            obtain ⟨m, rfl⟩ : ∃ m : Nat, nn = m := ⟨nn.toNat, by omega⟩
            simp only [Int.toNat_natCast] at hb1 hb2 hk
            have hm : 0 < m := by omega
            obtain ⟨hrd, hmd⟩ := hr.drew
            have hrun := Lib.run_append_nil_zeros (P := P) w t tn ty e i zz k kn hu hkn hi' hzz m hm (by omega) (by omega) (by rw [← hbytes]; omega)
            generalize hval : (fun j => zz.cells.getD (j % z.length) Go.undef) = val at *
            have hzc : Builtin.zeroCells zz.cells m = ((List.range (m * z.length)).map val).toArray := by
              apply Array.ext'
              simp only [Builtin.zeroCells, hzzs]
              apply List.ext_getElem?
              intro j
              simp only [Array.getElem?_toList, Array.getElem?_map, List.getElem?_map, Array.getElem?_range]
              by_cases hj : j < m * z.length
              · rw [List.getElem?_range hj, if_pos hj, ← hval]
                have : j % z.length < zz.cells.size := by rw [hzzs]; exact Nat.mod_lt _ h0
                simp [this]
              · rw [if_neg hj, List.getElem?_eq_none (by simpa using hj)]
                rfl
            have hvone : ∀ v ∈ (List.range (m * z.length)).map val, v.oneCell' = true := fun v hv => by
              obtain ⟨j, hj, rfl⟩ := List.mem_map.1 hv
              rw [← hval]
              exact hzone _ (by rw [hzzs]; exact Nat.mod_lt _ h0)
            rw [hzc] at hrun
            have hge := grownCap_ge w m 0 e
            obtain ⟨q1, q2, q3⟩ := grown_cells (olds := []) (news := (List.range (m * z.length)).map val) (z := zz.cells) (sz := z.length) (n := 0) (m := m) (cap := grownCap w m 0 e) hzzs (by simp) (by simp) (by omega)
            simp only [Nat.zero_add, List.nil_append, Nat.zero_mul] at q1 q2 q3
            have hone : OneCells (((List.range (m * z.length)).map val).toArray ++ Builtin.zeroCells zz.cells (grownCap w m 0 e - m)) := oneCells_grown hvone hzone (by omega)
            have hf : Fresh w.drew B (lkH hp) V z.length m (.own z.length m fun _ o => z.getD o .undef) (fun _ _ => none) (((List.range (m * z.length)).map val).toArray ++ Builtin.zeroCells zz.cells (grownCap w m 0 e - m)) := by
              refine ⟨fun i o hi ho _ => ?_, (fun i o r _ _ h => by cases h), (fun _ _ _ _ _ _ _ _ _ h => by cases h), hone⟩
              have hj : i * z.length + o < m * z.length := by have := mul_lt_le (s := z.length) hi; omega
              rw [q3 _ hj, getD_rangeMap _ _ _ hj, ← hval]
              simp only
              rw [show (i * z.length + o) % z.length = o by rw [Nat.mul_comm, Nat.mul_add_mod, Nat.mod_eq_of_lt ho]]
              exact (hL w.drew B V).val o ho
            obtain ⟨g1, g2⟩ := newRoot (hp' := setH hp id (some ⟨ver, .own z.length m fun _ o => z.getD o .undef⟩)) hrd hver id hid (q := true) rfl e hf (.inl rfl) (by omega) (by
              simp only [if_true]
              rw [q1]
              exact Nat.mul_le_mul_right _ hge) (fun r => by rw [lookH_setH]; simp)
            refine ⟨_, _, _, _, _, hrun, hk, .ref (.inr rfl) (fun rt h _ => ?_), g1, hmd.trans g2⟩
            rw [lookH_setH, if_pos rfl] at h
            cases h
            exact ⟨m, at_nil.2 rfl, Nat.zero_le _, Nat.le_refl _, .inl ⟨w.heap.size, ⟨w.heap.size, 0, none⟩, grownCap w m 0 e, e, (((List.range (m * z.length)).map val).toArray ++ Builtin.zeroCells zz.cells (grownCap w m 0 e - m)).size, by simp [movedB, heap_drew], rfl, by omega, fun _ => by simp, by
              have hnew := heap_alloc_new w.drew (.cells (((List.range (m * z.length)).map val).toArray ++ Builtin.zeroCells zz.cells (grownCap w m 0 e - m)) e)
              rw [heap_drew] at hnew
              simp only [World.shape?, hnew], by rw [q1]; simp⟩⟩
          · exact hK.elim
        · exact hK.elim
      · exact hK.elim
    · exact hK.elim
  · exact hK.elim
end Go.Ab
/- Operations in a row; calls among them. -/
namespace Go.Ab
open Classical

/-- An operand that is there. -/
def opnd (tm : List (Nat × PV)) (x : Operand) (k : PV → A) : A := match ev tm x with
  | .whn g (.whn g' v) => .vc (g = true ∧ g' = true) (k v)
  | .whn g v => .vc (g = true) (k v)
  | v => k v

def opnds (tm : List (Nat × PV)) : List Operand → (List PV → A) → A
  | [], k => k []
  | x :: l, k => opnd tm x fun v => opnds tm l fun vs => k (v :: vs)

def parts (tm : List (Nat × PV)) : List (Nat × Operand) → (List (Nat × PV) → A) → A
  | [], k => k []
  | (i, x) :: l, k => opnd tm x fun v => parts tm l fun vs => k ((i, v) :: vs)

/-- An operand that may be left out. -/
def opndO (tm : List (Nat × PV)) (x : Option Operand) (k : Option PV → A) : A := match x with
  | none => k none
  | some x => opnd tm x fun v => k (some v)

/-- Go's own functions. -/
def builtinA (P : Program) (id : RId) (ver : Nat) (tm : List (Nat × PV)) (b : Builtin) (args : List Operand) (types : List TypeId) : A := match b, args, types with
  | .len, [x], [t] => opnd tm x fun v => lenT P t v
  | .cap, [x], [t] => opnd tm x fun v => capA P t v
  | .append, [x, y], [t, t'] => if t = t' then opnd tm x fun v => opnd tm y fun u => appendT P id ver t v u else opnd tm x fun v => opnd tm y fun u => appendZA P id ver t t' v u
  | .max, [x, y], _ => opnd tm x fun v => opnd tm y fun u => maxA v u
  | .min, [x, y], _ => opnd tm x fun v => opnd tm y fun u => minA v u
  | .clear, [x], [t] => opnd tm x fun v => clearA P t v
  | .copy, [x, y], [t, t'] => if t = t' then opnd tm x fun v => opnd tm y fun u => copyA P t v u else .fail
  | _, _, _ => .fail

/-- An operation; `id`: the name of the root that it may make. -/
def opB (P : Program) (id : RId) (ver : Nat) (tm : List (Nat × PV)) (o : Op) : A :=
  match o with
  | .move x => .ret (ev tm x)
  | .assign x => .ret (ev tm x)
  | .pick c a b => opnd tm c fun c => pickA c (ev tm a) (ev tm b)
  | .alloc t => allocA P id ver t
  | .box _ x => opnd tm x fun v => boxA id ver v
  | .build t ps => parts tm ps.toList fun l => buildA P t l
  | .buildSlice t n ps => parts tm ps.toList fun l => buildSliceA P id ver t n l
  | .load t a => opnd tm a fun v => loadA P t v
  | .store t a x => opnd tm a fun v => opnd tm x fun u => storeA P t v u
  | .nilCheck x => opnd tm x fun v => nilCheckA v
  | .binOp op t x y _ => opnd tm x fun v => opnd tm y fun u => binT P t op v u
  | .unOp op _ x => opnd tm x fun v => unA op v
  | .makeFunc fn first captured => opnds tm first.toList fun l => opnds tm captured.toList fun l' => .ret (.func fn l l')
  | .makeSlice t l c => opnd tm l fun v => opnd tm c fun u => makeSliceA P id ver t v u
  | .fieldAddr t x f => opnd tm x fun v => fieldAddrA P t f v
  | .indexAddr t x i => opnd tm x fun v => opnd tm i fun u => indexAddrA P t v u
  | .extract x i => opnd tm x fun v => extractA i v
  | .call { callee := .builtin b, args, argTypes } => builtinA P id ver tm b args.toList argTypes.toList
  | .slice t x lo hi mx => opnd tm x fun v => opndO tm lo fun l => opndO tm hi fun h => opndO tm mx fun m => sliceA P t v l h m
  | .convert s d x => opnd tm x fun v => convA P s d v
  | .field t x f => opnd tm x fun v => fieldA P t f v
  | .index t x y => opnd tm x fun v => opnd tm y fun u => indexA P t v u
  | .lookup t x y ok => opnd tm x fun v => opnd tm y fun u => lookupA P t ok v u
  | .mapUpdate t m k x => opnd tm m fun v => opnd tm k fun u => opnd tm x fun y => mapUpdateA P t v u y
  | .makeMap t r => opndO tm r fun v => makeMapA P id ver t v
  | .range t x => opnd tm x fun v => rangeA P id ver t v
  | .next x str => opnd tm x fun v => nextA str v
  | .entry x => opnd tm x fun v => entryA v
  | _ => .fail

def opA (P : Program) (lv ver : Nat) (tm : List (Nat × PV)) (o : Oper) : A := opB P (lv, o.dst.getD 0) ver tm o.op

/-- An operation's outcome: a value, or nothing. -/
def Real' (P : Program) (w : World) (B : Blocks) (hp : List (RId × Root)) (V : Nat → Prop) (ver : Nat) (m : Sem Next) (a : A) : Prop :=
  ∀ K, a.wp hp K → ∃ nx v w' B' hp' x, m.run P w = .ok nx w' ∧ (nx = .value v ∨ nx = .skip ∧ v = Go.undef) ∧ K x hp' ∧ VR w' B' (lkH hp') (ors V ver) x v ∧ HR w' B' (lkH hp') (ors V ver) ∧
    Mono w B (lkH hp) V w' B' (lkH hp') (ors V ver)

theorem Real.value {P w B hp V ver} {m : Sem Value} {a : A} (h : Real P w B hp V ver m a) : Real' P w B hp V ver (do pure (.value (← m))) a := by
  intro K hK
  obtain ⟨v, w', B', hp', x, e, h1, h2, h3, h4⟩ := h K hK
  exact ⟨.value v, v, w', B', hp', x, by simp [e], .inl rfl, h1, h2, h3, h4⟩

theorem Real'.opnd {P w B hp V ver} {nt : FS} {tm : List (Nat × PV)} {a : Act} {m : Sem Next} (ht : TmR w B (lkH hp) V nt tm a) (x : Operand) {k : PV → A}
    (h : ∀ v, VR w B (lkH hp) V v (a.eval x) → Real' P w B hp V ver m (k v)) : Real' P w B hp V ver m (Ab.opnd tm x k) := by
  intro K hK
  unfold Ab.opnd at hK
  have he := ht.ev x
  split at hK
  · rename_i g g' v e
    rw [e] at he
    obtain ⟨⟨hg, hg'⟩, hk⟩ := hK
    cases he with
    | whn he _ =>
      cases he hg with
      | whn he' _ => exact h v (he' hg') K hk
  · rename_i g v _ e
    rw [e] at he
    obtain ⟨hg, hk⟩ := hK
    cases he with
    | whn he _ => exact h v (he hg) K hk
  · exact h _ he K hK

theorem Real'.opndO {P w B hp V ver} {nt : FS} {tm : List (Nat × PV)} {a : Act} {m : Sem Next} (ht : TmR w B (lkH hp) V nt tm a) (x : Option Operand) {k : Option PV → A}
    (h : ∀ v, OV w B (lkH hp) V v (x.map a.eval) → Real' P w B hp V ver m (k v)) : Real' P w B hp V ver m (Ab.opndO tm x k) := by
  cases x with
  | none => exact h none trivial
  | some x => exact .opnd ht x fun v hv => h (some v) hv

theorem Real'.opnds {P w B hp V ver} {nt : FS} {tm : List (Nat × PV)} {a : Act} {m : Sem Next} (ht : TmR w B (lkH hp) V nt tm a) (xs : List Operand) {k : List PV → A}
    (h : ∀ vs, vs.length = xs.length → (∀ i, i < vs.length → VR w B (lkH hp) V (vs.getD i .undef) (a.eval (xs.getD i (.tmp 0)))) → Real' P w B hp V ver m (k vs)) : Real' P w B hp V ver m (Ab.opnds tm xs k) := by
  induction xs generalizing k with
  | nil => exact h [] rfl (fun i hi => by simp at hi)
  | cons x xs ih =>
    refine .opnd ht x (fun v hv => ih (fun vs hl hvs => h (v :: vs) (by simp [hl]) (fun i hi => ?_)))
    cases i with
    | zero => simpa using hv
    | succ i => simpa using hvs i (by simpa using hi)

theorem Real'.parts {P w B hp V ver} {nt : FS} {tm : List (Nat × PV)} {a : Act} {m : Sem Next} (ht : TmR w B (lkH hp) V nt tm a) (xs : List (Nat × Operand)) {k : List (Nat × PV) → A}
    (h : ∀ vs, vs.length = xs.length → (∀ i, i < vs.length → (vs.getD i default).1 = ((xs.map fun (y : Nat × Operand) => (y.1, a.eval y.2)).getD i default).1 ∧ VR w B (lkH hp) V (vs.getD i default).2 ((xs.map fun (y : Nat × Operand) => (y.1, a.eval y.2)).getD i default).2) →
      Real' P w B hp V ver m (k vs)) : Real' P w B hp V ver m (Ab.parts tm xs k) := by
  induction xs generalizing k with
  | nil => exact h [] rfl (fun i hi => by simp at hi)
  | cons x xs ih =>
    obtain ⟨j, x⟩ := x
    refine .opnd ht x (fun v hv => ih (fun vs hl hvs => h ((j, v) :: vs) (by simp [hl]) (fun i hi => ?_)))
    cases i with
    | zero => exact ⟨by simp, by simpa using hv⟩
    | succ i => simpa using hvs i (by simpa using hi)

theorem Real.nilCheck {P w B hp V ver} (hr : HR w B (lkH hp) V) {ρ : Operand → Value} {x : Operand} {v : PV} {o : Oper} (ho : o.op = .nilCheck x) (hv : VR w B (lkH hp) V v (ρ x)) :
    Real' P w B hp V ver (execOp ρ o) (nilCheckA v) := by
  intro K hK
  have fin : ∀ u : PV, K u hp → VR w B (lkH hp) V u (ρ x) → (execOp ρ o).run P w = .ok (.value (ρ x)) w → ∃ nx v w' B' hp' x', (execOp ρ o).run P w = .ok nx w' ∧ (nx = .value v ∨ nx = .skip ∧ v = Go.undef) ∧ K x' hp' ∧
      VR w' B' (lkH hp') (ors V ver) x' v ∧ HR w' B' (lkH hp') (ors V ver) ∧ Mono w B (lkH hp) V w' B' (lkH hp') (ors V ver) :=
    fun u hk hu e => ⟨_, _, w, B, hp, u, e, .inl rfl, hk, hu.mono (Mono.more ..), hr.more ver, Mono.more ..⟩
  unfold nilCheckA at hK
  split at hK
  · refine fin _ hK hv ?_
    cases hx : ρ x <;> rw [hx] at hv <;> first | (cases hv; done) | skip
    cases hv
    simp [execOp, ho, hx]
  · rename_i r ver' p i o'
    simp only [A.wp] at hK
    cases hH : lkH hp r with
    | none => rw [hH] at hK; exact hK.elim
    | some rt =>
      rw [hH] at hK
      have hv' := hv
      cases hv with
      | ptr _ h =>
        obtain ⟨_, _, _, b, _, _, _, _, e⟩ := h rt hH hK.1
        exact fin _ hK.2 hv' (by simp [execOp, ho, e])
  · have hv' := hv
    cases hx : ρ x <;> rw [hx] at hv <;> first | (cases hv; done) | skip
    cases hv
    exact fin _ hK hv' (by simp [execOp, ho, hx])
  · have hv' := hv
    cases hx : ρ x <;> rw [hx] at hv <;> first | (cases hv; done) | skip
    cases hv
    exact fin _ hK hv' (by simp [execOp, ho, hx])
  · exact hK.elim

theorem opA_real {P w B hp V ver} {lv : Nat} {nt : FS} {tm : List (Nat × PV)} {a : Act} (hlv : lv ≠ 0) (hr : HR w B (lkH hp) V) (hver : ¬ V ver) (ht : TmR w B (lkH hp) V nt tm a) (o : Oper) :
    Real' P w B hp V ver (execOp a.eval o) (opA P lv ver tm o) := by
  unfold opA opB
  split
  · rename_i x ho
    intro K hK
    exact ⟨_, _, w, B, hp, _, by simp [execOp, ho], .inl rfl, hK, (ht.ev x).mono (Mono.more ..), hr.more ver, Mono.more ..⟩
  · rename_i x ho
    intro K hK
    exact ⟨_, _, w, B, hp, _, by simp [execOp, ho], .inl rfl, hK, (ht.ev x).mono (Mono.more ..), hr.more ver, Mono.more ..⟩
  · rename_i c x y ho
    refine .opnd ht c (fun v hv => ?_)
    have := (Real.pick (P := P) (ver := ver) hr hv (ht.ev x) (ht.ev y)).value
    simpa [execOp, ho] using this
  · rename_i t ho
    have := (Real.alloc (P := P) hr hver (lv, o.dst.getD 0) hlv t).value
    simpa [execOp, ho] using this
  · rename_i t x ho
    refine .opnd ht x (fun v hv => ?_)
    have := (Real.box (P := P) hr hver (lv, o.dst.getD 0) hlv t hv).value
    simpa [execOp, ho] using this
  · rename_i t ps ho
    refine .parts ht _ (fun vs hl hvs => ?_)
    have := (Real.build (P := P) (ver := ver) hr t (vs := ps.map fun (y : Nat × Operand) => (y.1, a.eval y.2)) (by simpa using hl) (by simpa using hvs)).value
    simpa [execOp, ho] using this
  · rename_i t n ps ho
    refine .parts ht _ (fun vs hl hvs => ?_)
    have := (Real.buildSlice (P := P) hr hver (lv, o.dst.getD 0) hlv t n (vs := ps.map fun (y : Nat × Operand) => (y.1, a.eval y.2)) (by simpa using hl) (by simpa using hvs)).value
    simpa [execOp, ho] using this
  · rename_i t x ho
    refine .opnd ht x (fun v hv => ?_)
    have := (Real.load (P := P) (ver := ver) hr t hv).value
    simpa [execOp, ho] using this
  · rename_i t x y ho
    refine .opnd ht x (fun v hv => .opnd ht y (fun u hu => ?_))
    intro K hK
    obtain ⟨v', w', B', hp', x', e, h1, h2, h3, h4⟩ := Real.store (P := P) (ver := ver) hr t hv hu K hK
    have : (Instr.storeAt t (a.eval x) (a.eval y)).run P w = .ok () w' ∧ v' = Go.undef := by
      simp only [Sem.run_bind, Sem.run_pure] at e
      cases hs : (Instr.storeAt t (a.eval x) (a.eval y)).run P w with
      | ok u w2 => rw [hs] at e; simp at e; exact ⟨by rw [e.2], e.1.symm⟩
      | halt _ _ => rw [hs] at e; simp at e
    exact ⟨.skip, v', w', B', hp', x', by simp [execOp, ho, this.1], .inr ⟨rfl, this.2⟩, h1, h2, h3, h4⟩
  · rename_i x ho
    exact .opnd ht x (fun v hv => Real.nilCheck hr ho hv)
  · rename_i op t x y t' ho
    refine .opnd ht x (fun v hv => .opnd ht y (fun u hu => ?_))
    have := (Real.binT (P := P) (ver := ver) hr op t x y hv hu).value
    simpa [execOp, ho] using this
  · rename_i op t x ho
    refine .opnd ht x (fun v hv => ?_)
    have := (Real.un (P := P) (ver := ver) hr op hv).value
    simpa [execOp, ho] using this
  · rename_i fn first captured ho
    refine .opnds ht _ (fun vs hl hvs => .opnds ht _ (fun us hl' hus => ?_))
    intro K hK
    refine ⟨.value (.func fn (first.map a.eval) (captured.map a.eval)), _, w, B, hp, _, by simp [execOp, ho, Instr.makeFunc], .inl rfl, hK, ?_, hr.more ver, Mono.more ..⟩
    refine VR.mono (Mono.more ..) (.func (by simpa using hl) (by simpa using hl') (fun i hi => ?_) (fun i hi => ?_))
    · have := hvs i hi
      have hi' : i < first.size := by rw [hl] at hi; simpa using hi
      simpa [List.getD_eq_getElem?_getD, Array.getD_eq_getD_getElem?, hi'] using this
    · have := hus i hi
      have hi' : i < captured.size := by rw [hl'] at hi; simpa using hi
      simpa [List.getD_eq_getElem?_getD, Array.getD_eq_getD_getElem?, hi'] using this
  · rename_i t x y ho
    refine .opnd ht x (fun v hv => .opnd ht y (fun u hu => ?_))
    have := (Real.makeSlice (P := P) hr hver (lv, o.dst.getD 0) hlv t hv hu).value
    simpa [execOp, ho] using this
  · rename_i t x f ho
    refine .opnd ht x (fun v hv => ?_)
    have := (Real.fieldAddr (P := P) (ver := ver) hr t f hv).value
    simpa [execOp, ho] using this
  · rename_i t x y ho
    refine .opnd ht x (fun v hv => .opnd ht y (fun u hu => ?_))
    have := (Real.indexAddr (P := P) (ver := ver) hr t hv hu).value
    simpa [execOp, ho] using this
  · rename_i x i ho
    refine .opnd ht x (fun v hv => ?_)
    have := (Real.extract (P := P) (ver := ver) hr i hv).value
    simpa [execOp, ho] using this
  · rename_i b args argTypes ho
    unfold builtinA
    split
    · rename_i x t hx htt
      refine .opnd ht x (fun v hv => ?_)
      have := (Real.lenT (P := P) (ver := ver) hr t o.type hv).value
      have h1 : args = #[x] := by apply Array.ext'; simpa using hx
      have h2 : argTypes = #[t] := by apply Array.ext'; simpa using htt
      simpa [execOp, ho, resolve, invoke, builtin, h1, h2] using this
    · rename_i x t hx htt
      refine .opnd ht x (fun v hv => ?_)
      have := (Real.cap (P := P) (ver := ver) hr t o.type hv).value
      have h1 : args = #[x] := by apply Array.ext'; simpa using hx
      have h2 : argTypes = #[t] := by apply Array.ext'; simpa using htt
      simpa [execOp, ho, resolve, invoke, builtin, h1, h2] using this
    · rename_i x y t t' hx htt
      split
      · rename_i e
        subst e
        refine .opnd ht x (fun v hv => .opnd ht y (fun u hu => ?_))
        have := (Real.appendT (P := P) hr hver (lv, o.dst.getD 0) hlv t o.type hv hu).value
        have h1 : args = #[x, y] := by apply Array.ext'; simpa using hx
        have h2 : argTypes = #[t, t] := by apply Array.ext'; simpa using htt
        simpa [execOp, ho, resolve, invoke, builtin, h1, h2] using this
      · refine .opnd ht x (fun v hv => .opnd ht y (fun u hu => ?_))
        have := (Real.appendZ (P := P) hr hver (lv, o.dst.getD 0) hlv t t' o.type hv hu).value
        have h1 : args = #[x, y] := by apply Array.ext'; simpa using hx
        have h2 : argTypes = #[t, t'] := by apply Array.ext'; simpa using htt
        simpa [execOp, ho, resolve, invoke, builtin, h1, h2] using this
    · rename_i x y hx
      refine .opnd ht x (fun v hv => .opnd ht y (fun u hu => ?_))
      have := (Real.max (P := P) (ver := ver) hr argTypes o.type hv hu).value
      have h1 : args = #[x, y] := by apply Array.ext'; simpa using hx
      simpa [execOp, ho, resolve, invoke, builtin, h1] using this
    · rename_i x y hx
      refine .opnd ht x (fun v hv => .opnd ht y (fun u hu => ?_))
      have := (Real.min (P := P) (ver := ver) hr argTypes o.type hv hu).value
      have h1 : args = #[x, y] := by apply Array.ext'; simpa using hx
      simpa [execOp, ho, resolve, invoke, builtin, h1] using this
    · rename_i x t hx htt
      refine .opnd ht x (fun v hv => ?_)
      have := (Real.clear (P := P) (ver := ver) hr t o.type hv).value
      have h1 : args = #[x] := by apply Array.ext'; simpa using hx
      have h2 : argTypes = #[t] := by apply Array.ext'; simpa using htt
      simpa [execOp, ho, resolve, invoke, builtin, h1, h2] using this
    · rename_i x y t t' hx htt
      split
      · rename_i e
        subst e
        refine .opnd ht x (fun v hv => .opnd ht y (fun u hu => ?_))
        have := (Real.copy (P := P) (ver := ver) hr t o.type hv hu).value
        have h1 : args = #[x, y] := by apply Array.ext'; simpa using hx
        have h2 : argTypes = #[t, t] := by apply Array.ext'; simpa using htt
        simpa [execOp, ho, resolve, invoke, builtin, h1, h2] using this
      · intro K hK; exact hK.elim
    · intro K hK; exact hK.elim
  · rename_i t x lo hi mx ho
    refine .opnd ht x (fun v hv => .opndO ht lo (fun l hl => .opndO ht hi (fun h hh => .opndO ht mx (fun m hm => ?_))))
    have := (Real.slice (P := P) (ver := ver) hr t hv hl hh hm).value
    simpa [execOp, ho] using this
  · rename_i s d x ho
    refine .opnd ht x (fun v hv => ?_)
    have := (Real.conv (P := P) (ver := ver) hr s d hv).value
    simpa [execOp, ho] using this
  · rename_i t x f ho
    refine .opnd ht x (fun v hv => ?_)
    have := (Real.field (P := P) (ver := ver) hr t f hv).value
    simpa [execOp, ho] using this
  · rename_i t x y ho
    refine .opnd ht x (fun v hv => .opnd ht y (fun u hu => ?_))
    have := (Real.index (P := P) (ver := ver) hr t hv hu).value
    simpa [execOp, ho] using this
  · rename_i t x y ok ho
    refine .opnd ht x (fun v hv => .opnd ht y (fun u hu => ?_))
    have := (Real.lookup (P := P) (ver := ver) hr t ok hv hu).value
    simpa [execOp, ho] using this
  · rename_i t m k x ho
    refine .opnd ht m (fun v hv => .opnd ht k (fun u hu => .opnd ht x (fun y hy => ?_)))
    intro K hK
    obtain ⟨v', w', B', hp', x', e, h1, h2, h3, h4⟩ := Real.mapUpdate (P := P) (ver := ver) hr t hv hu hy K hK
    have : (Instr.mapUpdate t (a.eval m) (a.eval k) (a.eval x)).run P w = .ok () w' ∧ v' = Go.undef := by
      simp only [Sem.run_bind, Sem.run_pure] at e
      cases hs : (Instr.mapUpdate t (a.eval m) (a.eval k) (a.eval x)).run P w with
      | ok u w2 => rw [hs] at e; simp at e; exact ⟨by rw [e.2], e.1.symm⟩
      | halt _ _ => rw [hs] at e; simp at e
    exact ⟨.skip, v', w', B', hp', x', by simp [execOp, ho, this.1], .inr ⟨rfl, this.2⟩, h1, h2, h3, h4⟩
  · rename_i t r ho
    refine .opndO ht r (fun v hv => ?_)
    have := (Real.makeMap (P := P) hr hver (lv, o.dst.getD 0) hlv t hv).value
    simpa [execOp, ho] using this
  · rename_i t x ho
    refine .opnd ht x (fun v hv => ?_)
    have := (Real.range (P := P) hr hver (lv, o.dst.getD 0) hlv t hv).value
    simpa [execOp, ho] using this
  · rename_i x str ho
    refine .opnd ht x (fun v hv => ?_)
    have := (Real.next (P := P) (ver := ver) hr str o.type hv).value
    simpa [execOp, ho] using this
  · rename_i x ho
    refine .opnd ht x (fun v hv => ?_)
    have := (Real.entry (P := P) (ver := ver) hr hv).value
    simpa [execOp, ho] using this
  · intro K hK; exact hK.elim
end Go.Ab
namespace Go.Ab
open Classical

/-- Data that lies in no memory of its own. -/
def leafy : PV → Prop
  | .int .. | .bool _ | .str _ | .nilp | .nilf | .nilm | .nili | .nils | .ref .. | .ptr .. | .sref .. | .undef => True
  | .own _ n f => ∀ i o, i < n → leafy (f i o)
  | _ => False

def leafyL : PV → Prop
  | .agg l => ∀ c ∈ l, leafy c
  | .tup l => ∀ c ∈ l, leafy c
  | x => leafy x

/-- An argument in which no root is named. -/
def plainArg : PV → Prop
  | .int .. | .bool _ | .str _ | .nilp | .nilf | .nilm | .nili | .nils | .frz .. | .fptr .. | .fcl .. | .fmap .. => True
  | _ => False
def plainArgL : PV → Prop
  | .agg l => ∀ c ∈ l, plainArg c
  | .func _ l l' => (∀ c ∈ l, plainArg c) ∧ ∀ c ∈ l', plainArg c
  | x => plainArg x

/-- What belongs to callers, seen by the callee. -/
noncomputable def callerB (S : Nat → Prop) : Blocks := fun r p => if r = (0, 0) then match p with
  | [(b, 0)] => if S b then some b else none
  | _ => none
  else none

theorem callerB_some {S : Nat → Prop} {r : RId} {p : Path} {b : Nat} (h : callerB S r p = some b) : S b ∧ r = (0, 0) ∧ p = [(b, 0)] := by
  unfold callerB at h
  split at h
  · rename_i hr
    split at h
    · split at h
      · cases h; exact ⟨by assumption, hr, rfl⟩
      · cases h
    · cases h
  · cases h

theorem callerB_at {S : Nat → Prop} {b : Nat} (h : S b) : callerB S (0, 0) [(b, 0)] = some b := by simp [callerB, h]

theorem callerB_HR {w : World} {S : Nat → Prop} (hS : ∀ b, S b → b < w.heap.size) : HR w (callerB S) H0 V0 where
  root r rt h := by cases h
  ver r rt h := by cases h
  dom r p b h := by
    obtain ⟨h1, rfl, rfl⟩ := callerB_some h
    exact ⟨hS b h1, .inl rfl⟩
  lev r rt h := by cases h
  inj r p r' p' b h h' := by
    obtain ⟨_, rfl, rfl⟩ := callerB_some h
    obtain ⟨_, rfl, rfl⟩ := callerB_some h'
    exact ⟨rfl, rfl⟩

/-- Change of who owns what, for data that refers to nothing. -/
theorem VR.conv {w : World} {B B' : Blocks} {H : Roots} {V : Nat → Prop} {x : PV} {v : Value} (h : VR w B H V x v) (hH : H = H0) (hV : V = V0) (hb : ∀ b, b < w.heap.size → free B b → free B' b) : VR w B' H0 V0 x v := by
  induction h with
  | undef v => exact .undef v
  | int k n => exact .int k n
  | bool b => exact .bool b
  | str s => exact .str s
  | nilp => exact .nilp
  | nilf => exact .nilf
  | nilm => exact .nilm
  | nili => exact .nili
  | nils => exact .nils
  | agg hl _ ih => exact .agg hl (fun i hi => ih i hi hH hV)
  | tup hl _ ih => exact .tup hl (fun i hi => ih i hi hH hV)
  | whn _ h' ih => exact .whn (fun hg => ih hg hH hV) h'
  | frz hn hmx hA _ ih =>
    refine .frz hn hmx (fun h0 => ?_) (fun i o hi ho => ih i o hi ho rfl rfl)
    obtain ⟨b, off, e, hf, hlt, hc⟩ := hA h0
    exact ⟨b, off, e, hb b hlt hf, hlt, hc⟩
  | fptr ho hf hlt hc _ ih => exact .fptr ho (hb _ hlt hf) hlt hc (fun j hj => ih j hj rfl rfl)
  | ref hv h => subst hV; exact hv.elim
  | ptr hv h => subst hV; exact hv.elim
  | func hl hl' _ _ ih ih' => exact .func hl hl' (fun i hi => ih i hi hH hV) (fun i hi => ih' i hi hH hV)
  | iface _ ih => exact .iface (ih hH hV)
  | fcl hmx hA _ ih =>
    refine .fcl hmx (fun h0 => ?_) (fun i o hi ho => ih i o hi ho rfl rfl)
    obtain ⟨b, off, e, hf, hlt, hc⟩ := hA h0
    exact ⟨b, off, e, hb b hlt hf, hlt, hc⟩
  | sref hv h => subst hV; exact hv.elim
  | fmap hf hh hn _ _ ihk ihv => exact .fmap (hb _ (lt_of_get hh) hf) hh hn (fun i hi => ihk i hi rfl rfl) (fun i hi => ihv i hi rfl rfl)

theorem VR.leafy {w w' : World} {B B' : Blocks} {x : PV} {v : Value} (h : VR w B H0 V0 x v) (hl : Ab.leafy x) : VR w' B' H0 V0 x v := by
  cases h <;> first | (constructor; done) | exact hl.elim | skip
  · rename_i hv _; exact hv.elim
  · rename_i hv _; exact hv.elim
  · rename_i hv _; exact hv.elim

theorem VR.leafyL {w w' : World} {B B' : Blocks} {x : PV} {v : Value} (h : VR w B H0 V0 x v) (hl : Ab.leafyL x) : VR w' B' H0 V0 x v := by
  cases h with
  | @agg _ _ l cs hs h => exact .agg hs (fun i hi => (h i hi).leafy (hl _ (by simp [List.getD_eq_getElem?_getD, hi, List.getElem_mem])))
  | @tup _ _ l cs hs h => exact .tup hs (fun i hi => (h i hi).leafy (hl _ (by simp [List.getD_eq_getElem?_getD, hi, List.getElem_mem])))
  | whn _ _ => exact hl.elim
  | frz _ _ _ _ => exact hl.elim
  | fptr _ _ _ _ _ => exact hl.elim
  | func _ _ _ _ => exact hl.elim
  | iface _ => exact hl.elim
  | fcl _ _ _ => exact hl.elim
  | fmap _ _ _ _ _ => exact hl.elim
  | sref hv _ => exact hv.elim
  | ref hv _ => exact hv.elim
  | ptr hv _ => exact hv.elim
  | undef => exact .undef _
  | int => exact .int _ _
  | bool => exact .bool _
  | str => exact .str _
  | nilp => exact .nilp
  | nilf => exact .nilf
  | nilm => exact .nilm
  | nili => exact .nili
  | nils => exact .nils

theorem VR.plain {w : World} {B : Blocks} {H : Roots} {V : Nat → Prop} {x : PV} {v : Value} (h : VR w B H V x v) (hp : plainArg x) : VR w B H0 V0 x v := by
  cases h <;> first | (constructor; done) | exact hp.elim | skip
  · rename_i h1 h2 h3 h4; exact .frz h1 h2 h3 h4
  · rename_i h1 h2 h3 h4 h5; exact .fptr h1 h2 h3 h4 h5
  · rename_i h1 h2 h3; exact .fcl h1 h2 h3
  · rename_i h1 h2 h3 h4 h5; exact .fmap h1 h2 h3 h4 h5

theorem VR.plainL {w : World} {B : Blocks} {H : Roots} {V : Nat → Prop} {x : PV} {v : Value} (h : VR w B H V x v) (hp : plainArgL x) : VR w B H0 V0 x v := by
  cases h with
  | @agg _ _ l cs hs h => exact .agg hs (fun i hi => (h i hi).plain (hp _ (by simp [List.getD_eq_getElem?_getD, hi, List.getElem_mem])))
  | @func _ _ fn l l' cs cs' hs hs' h h' => exact .func hs hs' (fun i hi => (h i hi).plain (hp.1 _ (by simp [List.getD_eq_getElem?_getD, hi, List.getElem_mem]))) (fun i hi => (h' i hi).plain (hp.2 _ (by simp [List.getD_eq_getElem?_getD, hi, List.getElem_mem])))
  | tup _ _ => exact hp.elim
  | whn _ _ => exact hp.elim
  | frz h1 h2 h3 h4 => exact .frz h1 h2 h3 h4
  | fptr h1 h2 h3 h4 h5 => exact .fptr h1 h2 h3 h4 h5
  | iface _ => exact hp.elim
  | fcl h1 h2 h3 => exact .fcl h1 h2 h3
  | fmap h1 h2 h3 h4 h5 => exact .fmap h1 h2 h3 h4 h5
  | sref _ _ => exact hp.elim
  | ref _ _ => exact hp.elim
  | ptr _ _ => exact hp.elim
  | undef => exact .undef _
  | int => exact .int _ _
  | bool => exact .bool _
  | str => exact .str _
  | nilp => exact .nilp
  | nilf => exact .nilf
  | nilm => exact .nilm
  | nili => exact .nili
  | nils => exact .nils

theorem VR.swap {w : World} {B B' : Blocks} {H : Roots} {V : Nat → Prop} {x : PV} {v : Value} (h : VR w B H V x v) (hl : Ab.leafy x) (hB : ∀ r rt, H r = some rt → ∀ p, B' r p = B r p) : VR w B' H V x v := by
  cases h <;> first | (constructor; done) | exact hl.elim | skip
  · rename_i hv h
    refine .ref hv (fun rt hr he => ?_)
    obtain ⟨n, h1, h2, h3, h4⟩ := h rt hr he
    rw [← hB _ rt hr] at h4
    exact ⟨n, h1, h2, h3, h4⟩
  · rename_i hv h
    refine .ptr hv (fun rt hr he => ?_)
    obtain ⟨q, sz, n, b, h1, h2, h3, h4, h5⟩ := h rt hr he
    rw [← hB _ rt hr] at h4
    exact ⟨q, sz, n, b, h1, h2, h3, h4, h5⟩
  · rename_i hv h
    refine .sref hv (fun rt hr he => ?_)
    obtain ⟨b, h1, h2, h3⟩ := h rt hr he
    rw [← hB _ rt hr] at h2
    exact ⟨b, h1, h2, h3⟩

theorem VR.swapL {w : World} {B B' : Blocks} {H : Roots} {V : Nat → Prop} {x : PV} {v : Value} (h : VR w B H V x v) (hl : Ab.leafyL x) (hB : ∀ r rt, H r = some rt → ∀ p, B' r p = B r p) : VR w B' H V x v := by
  by_cases ha : ∃ l, x = .agg l ∨ x = .tup l
  · obtain ⟨l, rfl | rfl⟩ := ha
    · cases h with
      | agg hs h => exact .agg hs (fun i hi => (h i hi).swap (hl _ (by simp [List.getD_eq_getElem?_getD, hi, List.getElem_mem])) hB)
    · cases h with
      | tup hs h => exact .tup hs (fun i hi => (h i hi).swap (hl _ (by simp [List.getD_eq_getElem?_getD, hi, List.getElem_mem])) hB)
  · refine h.swap ?_ hB
    cases x <;> first | exact hl | (exfalso; exact ha ⟨_, .inl rfl⟩) | (exfalso; exact ha ⟨_, .inr rfl⟩)

theorem TR.swap {w : World} {B B' : Blocks} {H : Roots} {V : Nat → Prop} {r : RId} {p : Path} {x : PV} {v : Value} (h : TR w B H V r p x v) (hl : Ab.leafy x) (hB : ∀ r rt, H r = some rt → ∀ p, B' r p = B r p) (hr : ∀ p, B' r p = B r p) : TR w B' H V r p x v := by
  induction h with
  | leaf h => exact .leaf (h.swap hl hB)
  | own hA hB' hh hc hn hm _ ih => exact .own hA ((hr _).trans hB') hh hc hn hm (fun i o hi ho => ih i o hi ho (hl i o hi))
  | nil hB' => exact .nil ((hr _).trans hB')

/-- A call of a loop's yield: one round. -/
def YieldA (P : Program) (r : RId) (v : Nat) (args : List PV) (hp : List (RId × Root)) (nv : Nat) (Post : PV → List (RId × Root) → Nat → Prop) : Prop :=
  ∃ rt li c, lkH hp r = some rt ∧ rt.ver = v ∧ rt.node = .oloop li c ∧ li.st = .ready ∧ args.length = li.params.size ∧
    ∀ (w : World) (B : Blocks) (cs : Array Value) (l : Nat) (tmps : Array Value) (d : Nat) (fn : FuncId) (ro : Option Nat), HR w B (lkH hp) (· < nv) → LR w B (lkH hp) (· < nv) args cs → B r [] = some l →
      w.heap[l]? = some (.loop { state := li.st, pending := li.pend, fn := fn, tmps := tmps, params := li.params, assign := li.assign, body := li.body, defers := d }) →
      (∀ t, VR w B (lkH hp) (· < nv) (c t) (tmps.getD t Go.undef)) → tmps.size = li.nt →
      RoundIn { Fence.wide with round := ro } 0 P l fn ((li.params.zip cs).foldl (fun tmps (t, a) => tmps.setIfInBounds t a) tmps) li.assign li.body w fun e w' =>
        ∃ v B' res hp' nv', e = .returned v ∧ Post res hp' nv' ∧ VR w' B' (lkH hp') (· < nv') res v ∧ HR w' B' (lkH hp') (· < nv') ∧ Mono w B (lkH hp) (· < nv) w' B' (lkH hp') (· < nv')

theorem roundIn_mono {F : Fence} {n : Nat} {P : Program} {l : Nat} {f : FuncId} {tmps : Array Value} {assign body : Code} {w : World} {R R' : Ending → World → Prop} (h : RoundIn F n P l f tmps assign body w R) (hR : ∀ e w', R e w' → R' e w') : RoundIn F n P l f tmps assign body w R' :=
  ⟨h.1, fun c cs hr => by obtain ⟨e, w', h1, h2⟩ := h.2 c cs hr; exact ⟨e, w', hR e w' h1, h2⟩⟩

/-- What a call may be met by. -/
inductive CallWp (P : Program) (id : RId) (ver : Nat) (f : FuncId) (args : List PV) (hp : List (RId × Root)) (nv : Nat) (K : PV → List (RId × Root) → Nat → Prop) : Prop
  /-- frozen data out of frozen data -/
  | frozen (res : PV) (h : CallsF P f args res) (hpl : ∀ c ∈ args, plainArgL c) (k : K res hp nv)
  /-- plain data out of whatever is read -/
  | plain (res : PV) (h : CallsF P f (args.map (view 9 hp)) res) (hr : leafyL res) (k : K res hp nv)
  /-- a new root, out of frozen data -/
  | own (node : PV) (res : RId → Nat → PV) (h : CallsO P f args node res) (hpl : ∀ c ∈ args, plainArgL c) (k : K (res id ver) (setH hp id (some ⟨ver, node⟩)) nv)
  /-- a new root of plain data, out of whatever is read -/
  | ownPlain (sz n : Nat) (g : Nat → Nat → PV) (res : RId → Nat → PV) (h : CallsO P f (args.map (view 9 hp)) (.own sz n g) res) (hr : leafyL (res id ver)) (hg : ∀ i o, i < n → leafy (g i o)) (k : K (res id ver) (setH hp id (some ⟨ver, .own sz n g⟩)) nv)
  /-- on the caller's own roots -/
  | on (Post : PV → List (RId × Root) → Nat → Prop) (h : CallsA P f args hp nv Post) (k : ∀ res hp' nv', Post res hp' nv' → K res hp' nv')

theorem LR.map {w w' : World} {B B' : Blocks} {H H' : Roots} {V V' : Nat → Prop} {l : List PV} {cs : Array Value} (h : LR w B H V l cs) {g : PV → PV} (hg : ∀ x v, x ∈ l → VR w B H V x v → VR w' B' H' V' (g x) v) : LR w' B' H' V' (l.map g) cs :=
  ⟨by simpa using h.len, fun i hi => by simp at hi; rw [getD_map _ _ _ hi]; exact hg _ _ (by simp [List.getD_eq_getElem?_getD, hi, List.getElem_mem]) (h.val i hi)⟩

theorem LR.turn {w w' : World} {B B' : Blocks} {H H' : Roots} {V V' : Nat → Prop} {l : List PV} {cs : Array Value} (h : LR w B H V l cs) (hg : ∀ x v, x ∈ l → VR w B H V x v → VR w' B' H' V' x v) : LR w' B' H' V' l cs :=
  ⟨h.len, fun i hi => hg _ _ (by simp [List.getD_eq_getElem?_getD, hi, List.getElem_mem]) (h.val i hi)⟩

/-- The caller's heap, behind a call that had none of it. -/
theorem caller_mono {w w' : World} {B Bc B' : Blocks} {H H' : Roots} {V V' : Nat → Prop} (hr : HR w B H V) {Hc : Roots} {Vc : Nat → Prop} (hm : Mono w Bc H0 V0 w' B' Hc Vc)
    (hB : ∀ b, b < w.heap.size → w'.heap[b]? = w.heap[b]?) (hV : ∀ n, V n → V' n) (hH : ∀ r rt, H' r = some rt → ¬ V rt.ver ∨ H r = some rt) (B2 : Blocks) (hB2 : ∀ r p, r.1 = 0 → B2 r p = B r p)
    (hB3 : ∀ r rt, H' r = some rt → V rt.ver → ∀ p, B2 r p = B r p) (hB4 : ∀ r p b, B2 r p = some b → w.heap.size ≤ b ∨ B r p = some b) : Mono w B H V w' B2 H' V' where
  size := hm.size
  free b hb hf := ⟨fun r p h => by
    rcases hB4 r p b h with h1 | h1
    · omega
    · exact hf r p h1, hB b hb⟩
  foreign r p b h0 h := ⟨(hB2 r p h0).trans h, hB b (hr.dom _ _ _ h).1⟩
  fresh r p b h := (hB4 r p b h).imp id (fun h => ⟨r, p, h⟩)
  shape := hm.shape
  vers := hV
  root r rt h := by
    by_cases hv : V rt.ver
    · rcases hH r rt h with h1 | h1
      · exact absurd hv h1
      · exact .inr ⟨rt, h1, rfl, fun p s hp => ⟨hp, hB3 r rt h hv p⟩⟩
    · exact .inl hv
  os := hm.os
  tape := hm.tape
  output := hm.output

/-- The caller's blocks lie as they lay. -/
theorem untouched {w w' : World} {S : Nat → Prop} {B' : Blocks} {Hc : Roots} {Vc : Nat → Prop} (hm : Mono w (callerB S) H0 V0 w' B' Hc Vc) (b : Nat) (hb : b < w.heap.size) : w'.heap[b]? = w.heap[b]? := by
  by_cases hS : S b
  · exact (hm.foreign (0, 0) _ b rfl (callerB_at hS)).2
  · exact (hm.free b hb (fun r p h => hS (callerB_some h).1)).2

theorem CallWp.sound {P : Program} {id : RId} {ver : Nat} {f : FuncId} {args : List PV} {hp : List (RId × Root)} {nv : Nat} {K : PV → List (RId × Root) → Nat → Prop} (hid : id.1 ≠ 0)
    (hcall : CallWp P id ver f args hp nv K) {w : World} {B : Blocks} {cs : Array Value} (hv1 : nv ≤ ver) {top : Nat} (htop : ver < top)
    (hr : HR w B (lkH hp) (· < nv)) (ha : LR w B (lkH hp) (· < nv) args cs) :
    Enters P f ∧ Calls P f cs w fun e w' => ∃ v B' res hp' nv', e = .returned v ∧ K res hp' nv' ∧ VR w' B' (lkH hp') (· < max top nv') res v ∧ HR w' B' (lkH hp') (· < max top nv') ∧
      Mono w B (lkH hp) (· < nv) w' B' (lkH hp') (· < max top nv') := by
  have hVup : ∀ nv' n, nv ≤ nv' → n < nv → n < max top nv' := fun nv' n h h' => by omega
  -- contracts over frozen data
  have hF : ∀ (S : Nat → Prop), (∀ b, S b → b < w.heap.size) → ∀ (as : List PV) (res : PV), CallsF P f as res → LR w (callerB S) H0 V0 as cs → (∀ w' B' v, Mono w (callerB S) H0 V0 w' B' H0 V0 → VR w' B' H0 V0 res v → VR w' B H0 V0 res v) → K res hp nv →
      Enters P f ∧ Calls P f cs w fun e w' => ∃ v B' res hp' nv', e = .returned v ∧ K res hp' nv' ∧ VR w' B' (lkH hp') (· < max top nv') res v ∧ HR w' B' (lkH hp') (· < max top nv') ∧
        Mono w B (lkH hp) (· < nv) w' B' (lkH hp') (· < max top nv') := by
    intro S hS as res hc hargs hback hk
    refine ⟨hc.1, (hc.2 w (callerB S) cs (callerB_HR hS) hargs).mono fun e w' he => ?_⟩
    obtain ⟨v, B', rfl, hv, hm⟩ := he
    have hm' : Mono w B (lkH hp) (· < nv) w' B (lkH hp) (· < max top nv) :=
      caller_mono hr hm (fun b hb => untouched hm b hb) (fun n hn => by omega) (fun r rt h => .inr h) B (fun _ _ _ => rfl) (fun _ _ _ _ _ => rfl) (fun r p b h => .inr h)
    refine ⟨v, B, res, hp, nv, rfl, hk, (hback w' B' v hm hv).lift (fun _ _ _ h => h), ⟨fun r rt h => (hr.root r rt h).mono hm' (fun t s ht => ⟨rfl, fun b hb => untouched hm b (hr.dom _ _ _ hb).1⟩), fun r rt h => by have := hr.ver r rt h; omega, fun r p b h => ?_, hr.lev, hr.inj⟩, hm'⟩
    obtain ⟨h1, h2⟩ := hr.dom r p b h
    exact ⟨Nat.lt_of_lt_of_le h1 hm.size, h2⟩
  -- contracts that make a root
  have hO : ∀ (S : Nat → Prop), (∀ b, S b → b < w.heap.size) → ∀ (as : List PV) (node : PV) (res : RId → Nat → PV), CallsO P f as node res → LR w (callerB S) H0 V0 as cs →
      (∀ w' B' B2 v, Mono w (callerB S) H0 V0 w' B' (one id ⟨ver, node⟩) (· = ver) → HR w' B' (one id ⟨ver, node⟩) (· = ver) → (∀ p, B2 id p = B' id p) → (∀ r p b, r ≠ id → B2 r p = some b → B r p = some b) →
        (VR w' B' (one id ⟨ver, node⟩) (· = ver) (res id ver) v → VR w' B2 (one id ⟨ver, node⟩) (· = ver) (res id ver) v) ∧ (RootOK w' B' (one id ⟨ver, node⟩) (· = ver) id node → RootOK w' B2 (one id ⟨ver, node⟩) (· = ver) id node)) →
      K (res id ver) (setH hp id (some ⟨ver, node⟩)) nv →
      Enters P f ∧ Calls P f cs w fun e w' => ∃ v B' res hp' nv', e = .returned v ∧ K res hp' nv' ∧ VR w' B' (lkH hp') (· < max top nv') res v ∧ HR w' B' (lkH hp') (· < max top nv') ∧
        Mono w B (lkH hp) (· < nv) w' B' (lkH hp') (· < max top nv') := by
    intro S hS as node res hc hargs hback hk
    refine ⟨hc.1, (hc.2 w (callerB S) cs id ver hid (callerB_HR hS) hargs).mono fun e w' he => ?_⟩
    obtain ⟨v, B', rfl, hv, hr', hm⟩ := he
    let B2 : Blocks := fun r p => if r = id then B' r p else B r p
    have hB2id : ∀ p, B2 id p = B' id p := fun p => by simp [B2]
    have hB2ne : ∀ r p, r ≠ id → B2 r p = B r p := fun r p h => by simp [B2, h]
    have hnew : ∀ p b, B' id p = some b → w.heap.size ≤ b := by
      intro p b h
      rcases hm.fresh id p b h with h1 | ⟨r0, p0, h1⟩
      · exact h1
      · obtain ⟨_, rfl, rfl⟩ := callerB_some h1
        have h2 := (hm.foreign _ _ _ rfl h1).1
        exact absurd (congrArg Prod.fst (hr'.inj _ _ _ _ _ h h2).1) hid
    have hlook : ∀ r, lkH (setH hp id (some ⟨ver, node⟩)) r = if r = id then some ⟨ver, node⟩ else lkH hp r := fun r => lookH_setH ..
    have hm' : Mono w B (lkH hp) (· < nv) w' B2 (lkH (setH hp id (some ⟨ver, node⟩))) (· < max top nv) := by
      refine caller_mono hr hm (fun b hb => untouched hm b hb) (fun n hn => by omega) (fun r rt h => ?_) B2 (fun r p h0 => hB2ne r p (fun e => hid (e ▸ h0))) (fun r rt h hv p => ?_) (fun r p b h => ?_)
      · rw [hlook] at h
        split at h
        · cases h; exact .inl (by show ¬ ver < nv; omega)
        · exact .inr h
      · rw [hlook] at h
        split at h
        · cases h; exact absurd hv (by show ¬ ver < nv; omega)
        · rename_i hne; exact hB2ne r p hne
      · by_cases hri : r = id
        · subst hri; rw [hB2id] at h; exact .inl (hnew p b h)
        · rw [hB2ne r p hri] at h; exact .inr h
    have hup : Mono w' B2 (one id ⟨ver, node⟩) (· = ver) w' B2 (lkH (setH hp id (some ⟨ver, node⟩))) (· < max top nv) :=
      ⟨Nat.le_refl _, fun _ _ h => ⟨h, rfl⟩, fun _ _ _ _ h => ⟨h, rfl⟩, fun r p _ h => .inr ⟨r, p, h⟩, fun _ _ h => h, fun n hn => by have hn' : n = ver := hn; show n < max top nv; omega, fun r rt h => by
        rw [hlook] at h
        split at h
        · rename_i e0
          exact .inr ⟨rt, by simp [one, e0, h], rfl, fun _ _ h => ⟨h, rfl⟩⟩
        · refine .inl (fun he => ?_)
          have h5 : rt.ver < nv := hr.ver r rt h
          have h6 : rt.ver = ver := he
          omega, rfl, rfl, rfl⟩
    obtain ⟨hb1, hb2⟩ := hback w' B' B2 v hm hr' hB2id (fun r p b hne h => by rw [hB2ne r p hne] at h; exact h)
    refine ⟨v, B2, res id ver, _, nv, rfl, hk, (hb1 hv).mono hup, ⟨fun r rt h => ?_, fun r rt h => ?_, fun r p b h => ?_, fun r rt h => ?_, fun r p r' p' b h h' => ?_⟩, hm'⟩
    · rw [hlook] at h
      split at h
      · rename_i e0
        subst e0
        obtain rfl : (⟨ver, node⟩ : Root) = rt := Option.some.inj h
        exact (hb2 (hr'.root r ⟨ver, node⟩ (by simp [one]))).mono hup (fun t s ht => ⟨rfl, fun _ _ => rfl⟩)
      · rename_i hne
        exact (hr.root r rt h).mono hm' (fun t s ht => ⟨hB2ne r t hne, fun b hb => untouched hm b (hr.dom _ _ _ hb).1⟩)
    · rw [hlook] at h
      split at h
      · cases h; show ver < max top nv; omega
      · have := hr.ver r rt h; simp at this ⊢; omega
    · by_cases hri : r = id
      · subst hri
        rw [hB2id] at h
        obtain ⟨h1, h2⟩ := hr'.dom _ _ _ h
        obtain ⟨rt, s, h3, h4⟩ := h2.resolve_left hid
        simp [one] at h3
        subst h3
        exact ⟨h1, .inr ⟨_, s, by rw [hlook, if_pos rfl], h4⟩⟩
      · rw [hB2ne r p hri] at h
        obtain ⟨h1, h2⟩ := hr.dom _ _ _ h
        refine ⟨Nat.lt_of_lt_of_le h1 hm.size, h2.imp (fun h => h) (fun ⟨rt, s, h3, h4⟩ => ⟨rt, s, by rw [hlook, if_neg hri]; exact h3, h4⟩)⟩
    · rw [hlook] at h
      split at h
      · rename_i e0; rw [e0]; exact hid
      · exact hr.lev r rt h
    · by_cases hri : r = id
      · subst hri
        rw [hB2id] at h
        by_cases hri' : r' = r
        · subst hri'
          rw [hB2id] at h'
          exact hr'.inj _ _ _ _ _ h h'
        · rw [hB2ne r' p' hri'] at h'
          have h5 := hnew p b h
          have h6 := (hr.dom _ _ _ h').1
          omega
      · rw [hB2ne r p hri] at h
        by_cases hri' : r' = id
        · subst hri'
          rw [hB2id] at h'
          have h5 := hnew p' b h'
          have h6 := (hr.dom _ _ _ h).1
          omega
        · rw [hB2ne r' p' hri'] at h'
          exact hr.inj _ _ _ _ _ h h'
  have hall : ∀ b, (∃ r p, B r p = some b) → b < w.heap.size := fun b ⟨r, p, h⟩ => (hr.dom r p b h).1
  have hfreeAll : ∀ b, free B b → free (callerB fun b => ∃ r p, B r p = some b) b := fun b hf r p h => by
    obtain ⟨⟨r0, p0, h1⟩, _, _⟩ := callerB_some h
    exact hf r0 p0 h1
  have hfreeNone : ∀ b, free (callerB fun _ => False) b := fun b r p h => (callerB_some h).1
  cases hcall with
  | frozen res hc hpl hk =>
    refine hF (fun b => ∃ r p, B r p = some b) hall args res hc (ha.turn fun x v hx hv => (hv.plainL (hpl x hx)).conv rfl rfl (fun b _ hf => hfreeAll b hf)) (fun w' B' v hm hv => hv.conv rfl rfl (fun b _ hf r p h => ?_)) hk
    exact hf _ _ (hm.foreign (0, 0) _ b rfl (callerB_at ⟨r, p, h⟩)).1
  | plain res hc hl hk =>
    exact hF (fun _ => False) (fun _ h => h.elim) _ res hc (ha.map fun x v _ hv => (VR.view hr (fun b _ _ => hfreeNone b) (fun _ _ b _ _ => hfreeNone b) 9).1 x v hv) (fun w' B' v hm hv => hv.leafyL hl) hk
  | own node res hc hpl hk =>
    refine hO (fun b => ∃ r p, B r p = some b) hall args node res hc (ha.turn fun x v hx hv => (hv.plainL (hpl x hx)).conv rfl rfl (fun b _ hf => hfreeAll b hf)) (fun w' B' B2 v hm hr' h1 h2 => ?_) hk
    have hfr : ∀ b, free B' b → free B2 b := by
      intro b hf r p h
      by_cases hri : r = id
      · subst hri; rw [h1] at h; exact hf _ _ h
      · exact hf _ _ (hm.foreign (0, 0) _ b rfl (callerB_at ⟨r, p, h2 r p b hri h⟩)).1
    have ht : Turn w' B' (one id ⟨ver, node⟩) (· = ver) w' B2 (one id ⟨ver, node⟩) (· = ver) :=
      ⟨Nat.le_refl _, fun b _ hf => ⟨hfr b hf, .inl rfl⟩, fun _ _ h => h, fun _ h => h, fun r rt h => .inr ⟨rt, h, rfl, fun p s hp => ⟨hp, by
        simp only [one] at h
        split at h
        · rename_i e0; rw [e0]; exact h1 p
        · cases h⟩⟩⟩
    exact ⟨fun h => h.turn ht, fun h => h.turn ht (fun t s _ => ⟨h1 t, fun _ _ => rfl⟩)⟩
  | ownPlain sz n g res hc hl hg hk =>
    refine hO (fun _ => False) (fun _ h => h.elim) _ (.own sz n g) res hc (ha.map fun x v _ hv => (VR.view hr (fun b _ _ => hfreeNone b) (fun _ _ b _ _ => hfreeNone b) 9).1 x v hv) (fun w' B' B2 v hm hr' h1 h2 => ?_) hk
    have hB : ∀ r rt, one id ⟨ver, .own sz n g⟩ r = some rt → ∀ p, B2 r p = B' r p := by
      intro r rt h p
      simp only [one] at h
      split at h
      · rename_i e0; rw [e0]; exact h1 p
      · cases h
    refine ⟨fun h => h.swapL hl hB, fun h => ?_⟩
    cases h with
    | own h => exact .own (h.swap hg hB h1)
  | on Post hc hk =>
    refine ⟨hc.1, (hc.2 w B cs hr ha).mono fun e w' he => ?_⟩
    obtain ⟨v, B', res, hp', nv', rfl, hpost, hv, hr', hm⟩ := he
    have hup : Mono w' B' (lkH hp') (· < nv') w' B' (lkH hp') (· < max top nv') :=
      ⟨Nat.le_refl _, fun _ _ h => ⟨h, rfl⟩, fun _ _ _ _ h => ⟨h, rfl⟩, fun r p _ h => .inr ⟨r, p, h⟩, fun _ _ h => h, fun n hn => by omega, fun r rt h => .inr ⟨rt, h, rfl, fun _ _ h => ⟨h, rfl⟩⟩, rfl, rfl, rfl⟩
    exact ⟨v, B', res, hp', nv', rfl, hk _ _ _ hpost, hv.mono hup, ⟨fun r rt h => (hr'.root r rt h).mono hup (fun _ _ _ => ⟨rfl, fun _ _ => rfl⟩), fun r rt h => by have := hr'.ver r rt h; simp at this ⊢; omega, hr'.dom, hr'.lev, hr'.inj⟩, hm.trans hup⟩
end Go.Ab

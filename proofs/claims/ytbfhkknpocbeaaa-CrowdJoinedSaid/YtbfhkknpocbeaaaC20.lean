/- Proved here: contracts and laws of C20, a part of the proofs about the crowd laws: what some functions of the program and of the reference compute, and plain facts about it. Conditions: those that each theorem names, no others. -/
import Derived.Test.YtbfhkknpocbeaaaC19
import Derived.WalkKit
import Derived.WalkSpells
import Derived.WalkLawsBesides
import Derived.Below
import Derived.Deep.QuietTactic
import Derived.BigQuiet
import Derived.Deep.Light

set_option linter.unusedSimpArgs false
set_option linter.unusedVariables false
namespace Go.Proofs.Ytbfhkknpocbeaaa
open Go.RowKit Go.Maps
theorem full_run2 {P : Program} (w : World) (t ty e : TypeId) (i : TypeInfo) (z : Value) (size bytes : Nat) (ht : P.underlying t = some (.slice e)) (hi : P.info? e = some i) (hz : i.zero = some z)
    (hsize : i.size = size) (hby : i.bytes = bytes) (A : Option Addr) (n : Nat) (olds : List Value) (ho : Rd w size A n olds) (ho1 : ∀ u ∈ olds, u.oneCell' = true) (A2 : Option Addr) (m c : Nat) (news : List Value) (hr : Rd w size A2 m news) (h1 : ∀ u ∈ news, u.oneCell' = true)
    (hm : 0 < m) (hbytes : (n + m) * bytes ≤ 140737488355328) (h63 : n + m ≤ maxLen) :
    ∃ c' g, (Builtin.append_ #[t, t] ty #[.slice A n n, .slice A2 m c]).run P w = .ok (.slice (some ⟨w.heap.size, 0, none⟩) (n + m) c') (w.grow g) ∧ n + m ≤ c' ∧ Rd (w.grow g) size (some ⟨w.heap.size, 0, none⟩) (n + m) (olds ++ news) ∧ ∀ j, (w.grow g).frozen? ⟨w.heap.size, j, none⟩ = false := by
  subst hsize hby
  have hrun := run_append_grow_src (P := P) (w := w) t t ty e i z ht hi hz A n n olds (rd_first (w := w.drew) ho) (.slice A2 m c) m news (rd_src ht hr h1) (by omega) (by unfold maxLen at h63; omega) (growslice_fits (by omega) hbytes)
  obtain ⟨g, hg⟩ := below_grow (w := w) (w' := w.drew.alloc (.cells ((olds ++ news).toArray ++ Builtin.zeroCells z.cells (grownCap w (n + m) n e - (n + m))) e)) (by (repeat (first | exact Below.refl _ _ | assumption | (refine below_gr ?_ (by (first | omega | (simp only [size_grow, World.size_alloc, size_drewN, size_drew, size_setCell] at *; omega))) _) | (refine below_alloc ?_ (by (first | omega | (simp only [size_grow, World.size_alloc, size_drewN, size_drew, size_setCell] at *; omega))) _) | (refine Below.setCell ?_ (by (first | omega | (simp only [size_grow, World.size_alloc, size_drewN, size_drew, size_setCell] at *; omega))) _) | refine below_drewN ?_ _ | refine below_drew ?_ | (refine below_step ?_ (by assumption) (by (first | omega | (simp only [size_grow, World.size_alloc, size_drewN, size_drew, size_setCell] at *; omega)))))))
  refine ⟨_, g, by rw [hrun, hg], grownCap_ge _ _ _ _, ?_⟩
  rw [← hg]
  have hl : (olds ++ news).length = (n + m) * i.size := by rw [List.length_append, ho.1, hr.1, Nat.add_mul]
  refine ⟨⟨hl, fun _ => ⟨_, 0, rfl, by simp, fun j u hu => ?_⟩⟩, fun j => by unfold World.frozen?; rw [show (w.drew.alloc _).heap[w.heap.size]? = _ from World.alloc_heap_new w.drew _]; simp⟩
  refine (World.cell?_alloc_at (w := w.drew) _ _ w.heap.size (0 + j) rfl).trans ?_
  rw [Nat.zero_add]
  have hj : j < (olds ++ news).length := (List.getElem?_eq_some_iff.1 hu).1
  rw [Array.getElem?_append_left (by simpa using hj)]
  simpa using hu
theorem wpList_full2 {P : Program} (w : World) {ops : Array Oper} {rest : List Oper} {o : Oper} {a : Act} {Q : Exit → Act → World → Prop} (hgd : o.guard = none) (s x : Operand) (t : TypeId)
    (hop : o.op = .call { callee := .builtin .append, args := #[s, x], argTypes := #[t, t] })
    (e : TypeId) (i : TypeInfo) (z : Value) (size bytes : Nat) (ht : P.underlying t = some (.slice e)) (hi : P.info? e = some i) (hz : i.zero = some z)
    (hsize : i.size = size) (hby : i.bytes = bytes) (A : Option Addr) (n : Nat) (olds : List Value) (hs : a.eval s = .slice A n n) (ho : Rd w size A n olds) (ho1 : ∀ u ∈ olds, u.oneCell' = true)
    (A2 : Option Addr) (m c : Nat) (news : List Value) (hx : a.eval x = .slice A2 m c) (hr : Rd w size A2 m news) (h1 : ∀ u ∈ news, u.oneCell' = true) (hm : 0 < m) (hbytes : (n + m) * bytes ≤ 140737488355328) (h63 : n + m ≤ maxLen)
    (h : ∀ A' c' w', Grew w w' → A' = some ⟨w.heap.size, 0, none⟩ → n + m ≤ c' → Rd w' size A' (n + m) (olds ++ news) → (∀ j, w'.frozen? ⟨w.heap.size, j, none⟩ = false) → wpList P ops Q rest (a.put o.dst (.slice A' (n + m) c')) w') : wpList P ops Q (o :: rest) a w :=
  wpList_plain hgd fun _ hK => by
    obtain ⟨c', g, hrun, hcc, hrd, hfr⟩ := full_run2 (P := P) w t o.type e i z size bytes ht hi hz hsize hby A n olds ho ho1 A2 m c news hr h1 hm hbytes h63
    unfold Oper.wp execOp
    simp only [hop, resolve, invoke, builtin, Sem.run_bind, Sem.run_pure, Result.andThen_ok, List.map_toArray, List.map_cons, List.map_nil, hs, hx, hrun]
    exact hK _ _ (h _ c' _ ⟨g, rfl⟩ rfl hcc hrd hfr)
/-- a block of numbers, which may be written -/
def OwnC (W : World) (g : Nat) (xs : List Int) : Prop := g < W.heap.size ∧ (∀ j, W.frozen? ⟨g, j, none⟩ = false) ∧ ∀ j x, xs[j]? = some x → W.cell? ⟨g, j, none⟩ = some (.int .i64 x)
theorem own_rd {W : World} {g n : Nat} {xs : List Int} (h : Rd W 1 (some ⟨g, 0, none⟩) n (xs.map (Value.int .i64))) (hp : 0 < xs.length) (hf : ∀ j, W.frozen? ⟨g, j, none⟩ = false) : OwnC W g xs := by
  have h1 := h.1
  simp at h1
  obtain ⟨b, off, hA, hb, hc⟩ := h.2 (by omega)
  cases hA
  refine ⟨hb, hf, fun j x hx => ?_⟩
  have := hc j (.int .i64 x) (by simp [hx])
  simpa using this
theorem OwnC.i64 {W : World} {g : Nat} {xs : List Int} (h : OwnC W g xs) : I64 W (some ⟨g, 0, none⟩) xs := fun k x hk => ⟨g, 0, rfl, h.1, Nat.le_of_lt h.1, by rw [Nat.zero_add]; exact h.2.2 k x hk⟩
theorem OwnC.ext {W W' : World} {g : Nat} {xs : List Int} (h : OwnC W g xs) (hb : Below W.heap.size W W') : OwnC W' g xs :=
  ⟨Nat.lt_of_lt_of_le h.1 hb.size, fun j => by
    have := hb.block g h.1
    have e := h.2.1 j
    unfold World.frozen? at e ⊢
    rw [this]; exact e, fun j x hx => (hb.cell (p := ⟨g, _, none⟩) h.1).trans (h.2.2 j x hx)⟩
theorem OwnC.set {W : World} {g : Nat} {xs : List Int} (h : OwnC W g xs) (k : Nat) (hk : k < xs.length) (v : Int) : OwnC (W.setCell ⟨g, k, none⟩ (.int .i64 v)) g (xs.set k v) := by
  obtain ⟨h1, h2, h3⟩ := h
  refine ⟨by simpa using h1, fun j => by simpa [World.frozen?_setCell] using h2 j, fun j x hx => ?_⟩
  rw [List.getElem?_set] at hx
  by_cases e : k = j
  · subst e
    simp [hk] at hx
    subst hx
    exact World.cell?_setCell_same' _ _ _ (by rw [h3 k xs[k] (by simp [hk])]; first | done | rfl)
  · rw [if_neg e] at hx
    rw [World.cell?_setCell_other _ _ _ _ (by simp; try omega)]
    exact h3 j x hx
def GivesOwn (w : World) (xs : List Int) (e : Ending) (w' : World) : Prop := ∃ g c', e = .returned (.slice (some ⟨g, 0, none⟩) xs.length c') ∧ (∃ gr, w' = w.grow gr) ∧ w.heap.size ≤ g ∧ OwnC w' g xs
set_option maxRecDepth 100000 in
set_option maxHeartbeats 400000 in
theorem lasts_own (m : Int) (A : Option Addr) (ps : List P3) (c fb : Nat) (w : World) (hA : Ppl w A ps) (hl : ps.length ≤ 100) (hF : Flr w fb m A ps.length c) (hp : 0 < ps.length) :
    Calls Try.prog 50 #[.pointer (some ⟨fb, 0, none⟩)] w (GivesOwn w (ps.map lastOr)) := by
  obtain ⟨i0, ih, iz, is, ib⟩ := info_parts info64
  have hF' := hF
  obtain ⟨hf, hf0, hf1⟩ := hF'
  go_enter Try.func50, Try.ntmps50
  go_wp2
  go_loopw [3, 14] (fun v i wr => ∃ (k : Nat) (A' : Option Addr) (c' : Nat), k ≤ ps.length ∧ i = .int .i64 k ∧ v = .slice A' k c' ∧ k ≤ c' ∧ (k = 0 → A' = none ∧ c' = 0) ∧ Rd wr 1 A' k (((ps.map lastOr).take k).map (Value.int .i64)) ∧ (0 < k → ∃ g, A' = some ⟨g, 0, none⟩ ∧ w.heap.size ≤ g ∧ ∀ j, wr.frozen? ⟨g, j, none⟩ = false) ∧ Grew w wr) (fun _ i _ => ps.length - (intOf i).toNat)
  case atStart => exact ⟨0, none, 0, Nat.zero_le _, rfl, rfl, Nat.le_refl _, fun _ => ⟨rfl, rfl⟩, ⟨rfl, fun h => absurd h (by omega)⟩, fun h => absurd h (by omega), grew_refl _⟩
  case round =>
    obtain ⟨k, A', c', hk, rfl, rfl, hkc, hAc, hrd, hfz, hb⟩ := hrel
    replace hb := hb.below
    have hzr := hb.size
    (try simp only [size_grow, World.size_alloc, size_drewN, size_drew, size_setCell] at hzr)
    have hltr : ∀ b, b < w.heap.size → b < wr.heap.size := fun b hb => (by (first | omega | (simp only [size_grow, World.size_alloc, size_drewN, size_drew, size_setCell] at *; omega)))
    have hcr : ∀ b o, b < w.heap.size → wr.cell? ⟨b, o, none⟩ = w.cell? ⟨b, o, none⟩ := old_cell (by (repeat (first | exact Below.refl _ _ | assumption | (refine below_gr ?_ (by (first | omega | (simp only [size_grow, World.size_alloc, size_drewN, size_drew, size_setCell] at *; omega))) _) | (refine below_alloc ?_ (by (first | omega | (simp only [size_grow, World.size_alloc, size_drewN, size_drew, size_setCell] at *; omega))) _) | (refine Below.setCell ?_ (by (first | omega | (simp only [size_grow, World.size_alloc, size_drewN, size_drew, size_setCell] at *; omega))) _) | refine below_drewN ?_ _ | refine below_drew ?_ | (refine below_step ?_ (by assumption) (by (first | omega | (simp only [size_grow, World.size_alloc, size_drewN, size_drew, size_setCell] at *; omega)))))))
    by_cases hlt : k < ps.length
    · obtain ⟨b, off, rfl, hbl, hbl2, hp0, hp1, hp2⟩ := hA k ps[k] (by simp [hlt])
      have HS := hide (show (ps.map lastOr).take (k + 1) = (ps.map lastOr).take k ++ [lastOr ps[k]] by rw [take_snoc _ k (by simpa using hlt), List.getElem_map])
      have HO := hide (show lastOr ps[k] = if (windowP ps[k]).2 = 0 then ps[k].lo else (windowP ps[k]).1 from rfl)
      have hsl := fun W : World => slice_full (P := Try.prog) 25 2 i0 Try.underlying25 ih A' k c' hkc W
      go_wp2_with (first | (go_at_call 56; refine (window_any k m _ ps c fb _ (hA.ext (by (repeat (first | exact Below.refl _ _ | assumption | (refine below_gr ?_ (by (first | omega | (simp only [size_grow, World.size_alloc, size_drewN, size_drew, size_setCell] at *; omega))) _) | (refine below_alloc ?_ (by (first | omega | (simp only [size_grow, World.size_alloc, size_drewN, size_drew, size_setCell] at *; omega))) _) | (refine Below.setCell ?_ (by (first | omega | (simp only [size_grow, World.size_alloc, size_drewN, size_drew, size_setCell] at *; omega))) _) | refine below_drewN ?_ _ | refine below_drew ?_ | (refine below_step ?_ (by assumption) (by (first | omega | (simp only [size_grow, World.size_alloc, size_drewN, size_drew, size_setCell] at *; omega)))))))) hl (hF.ext (by (repeat (first | exact Below.refl _ _ | assumption | (refine below_gr ?_ (by (first | omega | (simp only [size_grow, World.size_alloc, size_drewN, size_drew, size_setCell] at *; omega))) _) | (refine below_alloc ?_ (by (first | omega | (simp only [size_grow, World.size_alloc, size_drewN, size_drew, size_setCell] at *; omega))) _) | (refine Below.setCell ?_ (by (first | omega | (simp only [size_grow, World.size_alloc, size_drewN, size_drew, size_setCell] at *; omega))) _) | refine below_drewN ?_ _ | refine below_drew ?_ | (refine below_step ?_ (by assumption) (by (first | omega | (simp only [size_grow, World.size_alloc, size_drewN, size_drew, size_setCell] at *; omega)))))))) hlt).mono ?_; rintro e w1 ⟨rfl, hb1⟩; replace hb1 := ex_below hb1; have hz1 := hb1.size; (try simp only [size_grow, World.size_alloc, size_drewN, size_drew, size_setCell] at hz1); have hs1 : wr.heap.size < w1.heap.size := (by (first | omega | (simp only [size_grow, World.size_alloc, size_drewN, size_drew, size_setCell] at *; omega))); have ho1 := own_cell hb1 (b := wr.heap.size) (by (first | omega | (simp only [size_grow, World.size_alloc, size_drewN, size_drew, size_setCell] at *; omega))); have hq1 := own_frozen hb1 (b := wr.heap.size) (by (first | omega | (simp only [size_grow, World.size_alloc, size_drewN, size_drew, size_setCell] at *; omega))); have hlt1 : ∀ b, b < w.heap.size → b < w1.heap.size := fun b hb => (by (first | omega | (simp only [size_grow, World.size_alloc, size_drewN, size_drew, size_setCell] at *; omega))); have hc1 : ∀ b o, b < w.heap.size → w1.cell? ⟨b, o, none⟩ = w.cell? ⟨b, o, none⟩ := old_cell (by (repeat (first | exact Below.refl _ _ | assumption | (refine below_gr ?_ (by (first | omega | (simp only [size_grow, World.size_alloc, size_drewN, size_drew, size_setCell] at *; omega))) _) | (refine below_alloc ?_ (by (first | omega | (simp only [size_grow, World.size_alloc, size_drewN, size_drew, size_setCell] at *; omega))) _) | (refine Below.setCell ?_ (by (first | omega | (simp only [size_grow, World.size_alloc, size_drewN, size_drew, size_setCell] at *; omega))) _) | refine below_drewN ?_ _ | refine below_drew ?_ | (refine below_step ?_ (by assumption) (by (first | omega | (simp only [size_grow, World.size_alloc, size_drewN, size_drew, size_setCell] at *; omega)))))))) | (at_builtin; refine wpList_full2 _ rfl (.tmp 35) (.tmp 37) 25 rfl 2 i0 _ 1 8 Try.underlying25 ih iz is ib A' k _ rfl (hrd.ext (by (repeat (first | exact Below.refl _ _ | assumption | (refine below_gr ?_ (by (first | omega | (simp only [size_grow, World.size_alloc, size_drewN, size_drew, size_setCell] at *; omega))) _) | (refine below_alloc ?_ (by (first | omega | (simp only [size_grow, World.size_alloc, size_drewN, size_drew, size_setCell] at *; omega))) _) | (refine Below.setCell ?_ (by (first | omega | (simp only [size_grow, World.size_alloc, size_drewN, size_drew, size_setCell] at *; omega))) _) | refine below_drewN ?_ _ | refine below_drew ?_ | (refine below_step ?_ (by assumption) (by (first | omega | (simp only [size_grow, World.size_alloc, size_drewN, size_drew, size_setCell] at *; omega)))))))) (one_ints _) _ 1 1 [_] rfl (rd_new1 _ _ _) (by simp [Value.oneCell']) (by omega) (by omega) (by unfold maxLen; omega) ?_; intro A2 c2 w2 hg2 hA2 hcc2 hrd2 hfr2; replace hg2 := hg2.below; subst hA2))
      all_goals
        refine ⟨⟨k + 1, _, c2, by omega, by go_num, rfl, hcc2, fun h => absurd h (by omega), ?_, fun _ => ⟨_, rfl, by (first | omega | (simp only [size_grow, World.size_alloc, size_drewN, size_drew, size_setCell] at *; omega)), by simpa using hfr2⟩, grew_of (by (repeat (first | exact Below.refl _ _ | assumption | (refine below_gr ?_ (by (first | omega | (simp only [size_grow, World.size_alloc, size_drewN, size_drew, size_setCell] at *; omega))) _) | (refine below_alloc ?_ (by (first | omega | (simp only [size_grow, World.size_alloc, size_drewN, size_drew, size_setCell] at *; omega))) _) | (refine Below.setCell ?_ (by (first | omega | (simp only [size_grow, World.size_alloc, size_drewN, size_drew, size_setCell] at *; omega))) _) | refine below_drewN ?_ _ | refine below_drew ?_ | (refine below_step ?_ (by assumption) (by (first | omega | (simp only [size_grow, World.size_alloc, size_drewN, size_drew, size_setCell] at *; omega)))))))⟩, by simp [intOf]; omega⟩
        rw [HS.out, List.map_append, HO.out]
      · rw [if_pos (by simp_all)]; simpa using hrd2
      · rw [if_neg (by simp_all)]; simpa using hrd2
    · have hkl : k = ps.length := by omega
      subst hkl
      rw [List.take_of_length_le (by simp)] at hrd
      go_wp2
      go_ret
      obtain ⟨g, rfl, hg, hfg⟩ := hfz hp
      exact ⟨g, c', by simp, below_grow (by (repeat (first | exact Below.refl _ _ | assumption | (refine below_gr ?_ (by (first | omega | (simp only [size_grow, World.size_alloc, size_drewN, size_drew, size_setCell] at *; omega))) _) | (refine below_alloc ?_ (by (first | omega | (simp only [size_grow, World.size_alloc, size_drewN, size_drew, size_setCell] at *; omega))) _) | (refine Below.setCell ?_ (by (first | omega | (simp only [size_grow, World.size_alloc, size_drewN, size_drew, size_setCell] at *; omega))) _) | refine below_drewN ?_ _ | refine below_drew ?_ | (refine below_step ?_ (by assumption) (by (first | omega | (simp only [size_grow, World.size_alloc, size_drewN, size_drew, size_setCell] at *; omega))))))), hg, own_rd hrd (by simpa using hp) hfg⟩
end Go.Proofs.Ytbfhkknpocbeaaa

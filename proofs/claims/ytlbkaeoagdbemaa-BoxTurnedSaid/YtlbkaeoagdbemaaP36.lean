/- Proved here: the helpers of the laws: tickets; the values of the examples, a part of the proofs about the box laws. Conditions: those that each theorem names, no others. -/
import Derived.Test.YtlbkaeoagdbemaaP35
import Derived.WalkKit
import Derived.WalkSpells
import Derived.WalkLawsBesides
import Derived.Below
import Derived.Deep.QuietTactic
import Derived.BigQuiet
import Derived.Deep.Light
import Derived.Deep.RegionHeld3
set_option linter.unusedSimpArgs false
set_option linter.unusedVariables false
namespace Go.Proofs.Ytlbkaeoagdbemaa
open Go.RowKit Go.Maps
set_option maxRecDepth 100000 in
set_option maxHeartbeats 1000000 in
theorem of_any (A : Option Addr) (n c : Nat) (w : World) : Calls Try.prog 54 #[.slice A n c] w (Gives w (.slice A n c)) := by
  go_enter Try.func54, Try.ntmps54
  go_wp2
  go_ret
  exact gives_of (rfl) (by (repeat (first | exact Below.refl _ _ | assumption | refine below_drewN ?_ _ | refine below_drew ?_ | refine below_gr ?_ ?_ _ | refine below_alloc ?_ ?_ _ | refine Below.setCell ?_ ?_ _ | refine below_step ?_ (by assumption) ?_ | omega | (simp only [zz] at *; omega))))
set_option maxRecDepth 100000 in
set_option maxHeartbeats 1000000 in
theorem Ticket_any (u : Int) (A : Option Addr) (n c : Nat) (w : World) : Calls Try.prog 49 #[.int .i64 u, .slice A n c] w (Gives w (.agg #[.slice A n c, .int .i64 u])) := by
  go_enter Try.func49, Try.ntmps49
  go_wp2
  exact bodyPost_ret (v := .agg #[.slice A n c, .int .i64 u]) (by simp [results, Try.results49, go_sem]) rfl (gives_of rfl (by (repeat (first | exact Below.refl _ _ | assumption | refine below_drewN ?_ _ | refine below_drew ?_ | refine below_gr ?_ ?_ _ | refine below_alloc ?_ ?_ _ | refine Below.setCell ?_ ?_ _ | refine below_step ?_ (by assumption) ?_ | omega | (simp only [zz] at *; omega)))))
/-- tickets that lie side by side -/
theorem tks_row {w : World} {b : Nat} {t : TypeId} (rows : List (Option Addr × List Int × Nat × Int)) (h : w.heap[b]? = some (.cells (rows.flatMap fun r => [Value.slice r.1 r.2.1.length r.2.2.1, .int .i64 r.2.2.2]).toArray t (0, 0)))
    (hr : ∀ r, r ∈ rows → I64 w r.1 r.2.1 ∧ r.2.1.length ≤ r.2.2.1) : Tks w (some ⟨b, 0, none⟩) (rows.map fun r => (r.2.1, r.2.2.2)) := fun k x hx => by
  rw [List.getElem?_map] at hx
  cases hk : rows[k]? with
  | none => rw [hk] at hx; cases hx
  | some r =>
    rw [hk] at hx
    obtain rfl := Option.some.inj hx
    have hkl := (List.getElem?_eq_some_iff.1 hk).1
    obtain ⟨h1, h2⟩ := hr r (List.mem_of_getElem? hk)
    have key : ∀ (rows : List (Option Addr × List Int × Nat × Int)) (k : Nat), rows[k]? = some r → (rows.flatMap fun r => [Value.slice r.1 r.2.1.length r.2.2.1, .int .i64 r.2.2.2])[k * 2]? = some (.slice r.1 r.2.1.length r.2.2.1) ∧ (rows.flatMap fun r => [Value.slice r.1 r.2.1.length r.2.2.1, .int .i64 r.2.2.2])[k * 2 + 1]? = some (.int .i64 r.2.2.2) := fun rows => by
      induction rows with
      | nil => intro k hk; simp at hk
      | cons a rows ih =>
        intro k hk
        cases k with
        | zero => obtain rfl := Option.some.inj (by simpa using hk); simp
        | succ k =>
          have := ih k (by simpa using hk)
          rw [show (k + 1) * 2 = k * 2 + 2 by omega]
          simpa using this
    obtain ⟨k1, k2⟩ := key rows k hk
    refine ⟨b, 0, r.1, r.2.2.1, rfl, obj_lt h, ?_, ?_, h2, h1⟩
    · rw [Nat.zero_add]; exact obj_at h _ _ (by simpa using k1)
    · rw [Nat.zero_add]; exact obj_at h _ _ (by simpa using k2)
def BlkAt (w : World) (b : Nat) (cs : Array Value) (t : TypeId) : Prop := w.heap[b]? = some (.cells cs t (0, 0))
theorem BlkAt.ext {w w' : World} {b : Nat} {cs : Array Value} {t : TypeId} (h : BlkAt w b cs t) (hb : Below w.heap.size w w') : BlkAt w' b cs t := (hb.block _ (obj_lt h)).trans h
def cardT : List Tz := [([3, 1], 1), ([1, 6], 2), ([1, 1], 4)]
def wholeT : List Tz := [([1, 1], 5), ([1, 6], 2), ([2, 1], 1), ([2, 6], 0)]
set_option maxRecDepth 100000 in
set_option maxHeartbeats 1000000 in
theorem card_any (w : World) : Calls Try.prog 53 #[] w ((fun e w' => ∃ A B, e = .returned (.tuple #[.agg #[.slice A 2 2], .slice B 3 3]) ∧ (∃ g, w' = w.grow g) ∧ I64 w' A [2, 3] ∧ Tks w' B cardT)) := by
  have tok0 : True := trivial
  go_enter Try.func53, Try.ntmps53
  go_wp2_with (first
    | (clear tok0; go_at_call 54; refine (of_any _ 2 2 _).mono ?_; rintro e u1 ⟨rfl, hb1⟩; have hI1 : I64 u1 (some ⟨w.heap.size + 1, 0, none⟩) [2, 3] := (i64_new (w.alloc (.cells #[.slice none 0 0] 24)) [2, 3] 3 _ (by simp)).ext (ex_below hb1); have hX0 : BlkAt u1 w.heap.size #[.slice none 0 0] 24 := (show BlkAt (w.alloc (.cells #[.slice none 0 0] 24)) w.heap.size #[.slice none 0 0] 24 from heap_alloc_new _ _).ext (by (repeat (first | exact Below.refl _ _ | exact ex_below hb1 | (refine below_gr ?_ (by (first | omega | (simp only [zz] at *; omega))) _) | (refine below_alloc ?_ (by (first | omega | (simp only [zz] at *; omega))) _) | (refine Below.setCell ?_ (by (first | omega | (simp only [zz] at *; omega))) _) | refine below_drewN ?_ _ | refine below_drew ?_ | (refine below_step ?_ (by exact ex_below hb1) (by (first | omega | (simp only [zz] at *; omega))))))); replace hb1 := ex_below hb1; have bel1 : Below (w.alloc (.cells #[.slice none 0 0] 24)).heap.size (w.alloc (.cells #[.slice none 0 0] 24)) u1 := (by (repeat (first | exact Below.refl _ _ | assumption | refine below_drewN ?_ _ | refine below_drew ?_ | refine below_gr ?_ ?_ _ | refine below_alloc ?_ ?_ _ | refine Below.setCell ?_ ?_ _ | refine below_step ?_ (by assumption) ?_ | omega | (simp only [zz] at *; omega)))); clear hb1; have sz1 := bel1.size; have hW : Below w.heap.size w u1 := (below_alloc (Below.refl _ _) (Nat.le_refl _) _).trans (bel1.mono (by simp)); clear bel1; have tok1 : True := trivial)
    | (clear tok1; go_at_call 49; refine (Ticket_any 1 _ 2 2 _).mono ?_; rintro e u2 ⟨rfl, hb2⟩; have hI2 : I64 u2 (some ⟨u1.heap.size, 0, none⟩) [3, 1] := (i64_new u1 [3, 1] 3 _ rfl).ext (ex_below hb2); replace hb2 := ex_below hb2; have bel2 : Below u1.heap.size u1 u2 := (by (repeat (first | exact Below.refl _ _ | assumption | refine below_drewN ?_ _ | refine below_drew ?_ | refine below_gr ?_ ?_ _ | refine below_alloc ?_ ?_ _ | refine Below.setCell ?_ ?_ _ | refine below_step ?_ (by assumption) ?_ | omega | (simp only [zz] at *; omega)))); clear hb2; have sz2 := bel2.size; replace hI1 := hI1.ext bel2; replace hX0 := hX0.ext bel2; replace hW := below_step hW bel2 (by have := hW.size; omega); clear bel2; have tok2 : True := trivial)
    | (clear tok2; go_at_call 49; refine (Ticket_any 2 _ 2 2 _).mono ?_; rintro e u3 ⟨rfl, hb3⟩; have hI3 : I64 u3 (some ⟨u2.heap.size, 0, none⟩) [1, 6] := (i64_new u2 [1, 6] 3 _ rfl).ext (ex_below hb3); replace hb3 := ex_below hb3; have bel3 : Below u2.heap.size u2 u3 := (by (repeat (first | exact Below.refl _ _ | assumption | refine below_drewN ?_ _ | refine below_drew ?_ | refine below_gr ?_ ?_ _ | refine below_alloc ?_ ?_ _ | refine Below.setCell ?_ ?_ _ | refine below_step ?_ (by assumption) ?_ | omega | (simp only [zz] at *; omega)))); clear hb3; have sz3 := bel3.size; replace hI1 := hI1.ext bel3; replace hX0 := hX0.ext bel3; replace hW := below_step hW bel3 (by have := hW.size; omega); replace hI2 := hI2.ext bel3; clear bel3; have tok3 : True := trivial)
    | (clear tok3; go_at_call 49; refine (Ticket_any 4 _ 2 2 _).mono ?_; rintro e u4 ⟨rfl, hb4⟩; have hI4 : I64 u4 (some ⟨u3.heap.size, 0, none⟩) [1, 1] := (i64_new u3 [1, 1] 3 _ rfl).ext (ex_below hb4); replace hb4 := ex_below hb4; have bel4 : Below u3.heap.size u3 u4 := (by (repeat (first | exact Below.refl _ _ | assumption | refine below_drewN ?_ _ | refine below_drew ?_ | refine below_gr ?_ ?_ _ | refine below_alloc ?_ ?_ _ | refine Below.setCell ?_ ?_ _ | refine below_step ?_ (by assumption) ?_ | omega | (simp only [zz] at *; omega)))); clear hb4; have sz4 := bel4.size; replace hI1 := hI1.ext bel4; replace hX0 := hX0.ext bel4; replace hW := below_step hW bel4 (by have := hW.size; omega); replace hI2 := hI2.ext bel4; replace hI3 := hI3.ext bel4; have hXc := obj_at hX0 0 _ rfl; have hXf := obj_fz hX0 0; have hXl := obj_lt hX0; clear bel4; have tok4 : True := trivial))
  have hX : u4.heap[w.heap.size]? = some (.cells #[.slice none 0 0] 24 (0, 0)) := hX0
  have hS : Below w.heap.size w (u4.setCell ⟨w.heap.size, 0, none⟩ (.slice (some ⟨w.heap.size + 1, 0, none⟩) 2 2)) := Below.setCell (p := ⟨w.heap.size, 0, none⟩) hW (Nat.le_refl _) _
  have hY : (u4.setCell ⟨w.heap.size, 0, none⟩ (.slice (some ⟨w.heap.size + 1, 0, none⟩) 2 2)).heap[w.heap.size]? = some (.cells #[.slice (some ⟨w.heap.size + 1, 0, none⟩) 2 2] 24 (0, 0)) := set_obj hX 0 _
  have hJ1 := hI1.setv hX (.slice (some ⟨w.heap.size + 1, 0, none⟩) 2 2)
  have hJ2 := hI2.setv hX (.slice (some ⟨w.heap.size + 1, 0, none⟩) 2 2)
  have hJ3 := hI3.setv hX (.slice (some ⟨w.heap.size + 1, 0, none⟩) 2 2)
  have hJ4 := hI4.setv hX (.slice (some ⟨w.heap.size + 1, 0, none⟩) 2 2)
  have hsz : (u4.setCell ⟨w.heap.size, 0, none⟩ (.slice (some ⟨w.heap.size + 1, 0, none⟩) 2 2)).heap.size = u4.heap.size := size_setCell _ _ _
  clear hI1 hI2 hI3 hI4 hX hX0 hXc hXf hW
  generalize u4.setCell ⟨w.heap.size, 0, none⟩ (.slice (some ⟨w.heap.size + 1, 0, none⟩) 2 2) = v4 at *
  rw [← hsz]
  obtain ⟨v5, hv5⟩ : ∃ v5, v4.alloc (.cells #[.slice (some ⟨u1.heap.size, 0, none⟩) 2 2, .int .i64 1, .slice (some ⟨u2.heap.size, 0, none⟩) 2 2, .int .i64 2, .slice (some ⟨u3.heap.size, 0, none⟩) 2 2, .int .i64 4] 34) = v5 := ⟨_, rfl⟩
  have hbl : Below v4.heap.size v4 v5 := by rw [← hv5]; exact below_alloc (Below.refl _ _) (Nat.le_refl _) _
  have hT : Tks v5 (some ⟨v4.heap.size, 0, none⟩) cardT := tks_row [(some ⟨u1.heap.size, 0, none⟩, [3, 1], 2, 1), (some ⟨u2.heap.size, 0, none⟩, [1, 6], 2, 2), (some ⟨u3.heap.size, 0, none⟩, [1, 1], 2, 4)] (by rw [← hv5]; exact heap_alloc_new _ _) (fun r hr => by
    simp only [List.mem_cons, List.not_mem_nil, or_false] at hr
    rcases hr with rfl | rfl | rfl
    · exact ⟨hJ2.ext hbl, Nat.le_refl 2⟩
    · exact ⟨hJ3.ext hbl, Nat.le_refl 2⟩
    · exact ⟨hJ4.ext hbl, Nat.le_refl 2⟩)
  have hc : v5.cell? ⟨w.heap.size, 0, none⟩ = some (.slice (some ⟨w.heap.size + 1, 0, none⟩) 2 2) := (hbl.cell (p := ⟨w.heap.size, 0, none⟩) (by show w.heap.size < _; omega)).trans (obj_at hY 0 _ rfl)
  rw [hv5]
  refine bodyPost_ret (v := .tuple #[.agg #[.slice (some ⟨w.heap.size + 1, 0, none⟩) 2 2], .slice (some ⟨v4.heap.size, 0, none⟩) 3 3]) (by simp [results, Try.results53, go_sem, hc]) rfl ⟨_, _, rfl, below_grow (hS.trans (hbl.mono hS.size)), hJ1.ext hbl, hT⟩
set_option maxRecDepth 100000 in
set_option maxHeartbeats 1000000 in
theorem whole_any (w : World) : Calls Try.prog 55 #[] w ((fun e w' => ∃ B, e = .returned (.slice B 4 4) ∧ (∃ g, w' = w.grow g) ∧ Tks w' B wholeT)) := by
  have tok0 : True := trivial
  go_enter Try.func55, Try.ntmps55
  go_wp2_with (first
    | (clear tok0; go_at_call 49; refine (Ticket_any 5 _ 2 2 _).mono ?_; rintro e u1 ⟨rfl, hb1⟩; have hI1 : I64 u1 (some ⟨w.heap.size, 0, none⟩) [1, 1] := (i64_new w [1, 1] 3 _ rfl).ext (ex_below hb1); replace hb1 := ex_below hb1; have bel1 : Below w.heap.size w u1 := (by (repeat (first | exact Below.refl _ _ | assumption | refine below_drewN ?_ _ | refine below_drew ?_ | refine below_gr ?_ ?_ _ | refine below_alloc ?_ ?_ _ | refine Below.setCell ?_ ?_ _ | refine below_step ?_ (by assumption) ?_ | omega | (simp only [zz] at *; omega)))); clear hb1; have sz1 := bel1.size; have hW := bel1; clear bel1; have tok1 : True := trivial)
    | (clear tok1; go_at_call 49; refine (Ticket_any 2 _ 2 2 _).mono ?_; rintro e u2 ⟨rfl, hb2⟩; have hI2 : I64 u2 (some ⟨u1.heap.size, 0, none⟩) [1, 6] := (i64_new u1 [1, 6] 3 _ rfl).ext (ex_below hb2); replace hb2 := ex_below hb2; have bel2 : Below u1.heap.size u1 u2 := (by (repeat (first | exact Below.refl _ _ | assumption | refine below_drewN ?_ _ | refine below_drew ?_ | refine below_gr ?_ ?_ _ | refine below_alloc ?_ ?_ _ | refine Below.setCell ?_ ?_ _ | refine below_step ?_ (by assumption) ?_ | omega | (simp only [zz] at *; omega)))); clear hb2; have sz2 := bel2.size; replace hI1 := hI1.ext bel2; replace hW := below_step hW bel2 (by have := hW.size; omega); clear bel2; have tok2 : True := trivial)
    | (clear tok2; go_at_call 49; refine (Ticket_any 1 _ 2 2 _).mono ?_; rintro e u3 ⟨rfl, hb3⟩; have hI3 : I64 u3 (some ⟨u2.heap.size, 0, none⟩) [2, 1] := (i64_new u2 [2, 1] 3 _ rfl).ext (ex_below hb3); replace hb3 := ex_below hb3; have bel3 : Below u2.heap.size u2 u3 := (by (repeat (first | exact Below.refl _ _ | assumption | refine below_drewN ?_ _ | refine below_drew ?_ | refine below_gr ?_ ?_ _ | refine below_alloc ?_ ?_ _ | refine Below.setCell ?_ ?_ _ | refine below_step ?_ (by assumption) ?_ | omega | (simp only [zz] at *; omega)))); clear hb3; have sz3 := bel3.size; replace hI1 := hI1.ext bel3; replace hW := below_step hW bel3 (by have := hW.size; omega); replace hI2 := hI2.ext bel3; clear bel3; have tok3 : True := trivial)
    | (clear tok3; go_at_call 49; refine (Ticket_any 0 _ 2 2 _).mono ?_; rintro e u4 ⟨rfl, hb4⟩; have hI4 : I64 u4 (some ⟨u3.heap.size, 0, none⟩) [2, 6] := (i64_new u3 [2, 6] 3 _ rfl).ext (ex_below hb4); replace hb4 := ex_below hb4; have bel4 : Below u3.heap.size u3 u4 := (by (repeat (first | exact Below.refl _ _ | assumption | refine below_drewN ?_ _ | refine below_drew ?_ | refine below_gr ?_ ?_ _ | refine below_alloc ?_ ?_ _ | refine Below.setCell ?_ ?_ _ | refine below_step ?_ (by assumption) ?_ | omega | (simp only [zz] at *; omega)))); clear hb4; have sz4 := bel4.size; replace hI1 := hI1.ext bel4; replace hW := below_step hW bel4 (by have := hW.size; omega); replace hI2 := hI2.ext bel4; replace hI3 := hI3.ext bel4; clear bel4; have tok4 : True := trivial))
  go_ret
  have hbl : Below u4.heap.size u4 (u4.alloc (.cells #[.slice (some ⟨w.heap.size, 0, none⟩) 2 2, .int .i64 5, .slice (some ⟨u1.heap.size, 0, none⟩) 2 2, .int .i64 2, .slice (some ⟨u2.heap.size, 0, none⟩) 2 2, .int .i64 1, .slice (some ⟨u3.heap.size, 0, none⟩) 2 2, .int .i64 0] 34)) := below_alloc (Below.refl _ _) (Nat.le_refl _) _
  refine ⟨_, rfl, below_grow (hW.trans (hbl.mono hW.size)), tks_row [(some ⟨w.heap.size, 0, none⟩, [1, 1], 2, 5), (some ⟨u1.heap.size, 0, none⟩, [1, 6], 2, 2), (some ⟨u2.heap.size, 0, none⟩, [2, 1], 2, 1), (some ⟨u3.heap.size, 0, none⟩, [2, 6], 2, 0)] (heap_alloc_new _ _) (fun r hr => ?_)⟩
  simp only [List.mem_cons, List.not_mem_nil, or_false] at hr
  rcases hr with rfl | rfl | rfl | rfl
  · exact ⟨hI1.ext hbl, Nat.le_refl 2⟩
  · exact ⟨hI2.ext hbl, Nat.le_refl 2⟩
  · exact ⟨hI3.ext hbl, Nat.le_refl 2⟩
  · exact ⟨hI4.ext hbl, Nat.le_refl 2⟩
end Go.Proofs.Ytlbkaeoagdbemaa
namespace Go.Proofs.Ytlbkaeoagdbemaa
open Go.RowKit Go.Maps
theorem v_size : sizeV [2, 3] [3, 1] 1 = (2, 0) := by decide +kernel
theorem v_with1 : withinV [2, 3] [1, 6] 2 1 = (5, 0) := by decide +kernel
theorem v_with3 : withinV [2, 3] [1, 6] 2 3 = (0, 3) := by decide +kernel
theorem v_cm1 : cmapV [2, 3] cardT wholeT = 0 := by decide +kernel
theorem v_cm2 : cmapV [2, 3] cardT (wholeT.take 3) = 14 := by decide +kernel
theorem v_map2 : (mapV [2, 3] cardT).2 = 0 := by decide +kernel
theorem v_map1 : cmapV [2, 3] cardT (mapV [2, 3] cardT).1 = 0 := by decide +kernel
theorem v_map3 : (mapV [2, 3] cardT).1.length = 4 := by decide +kernel
theorem v_cov : coveredV [2, 3] cardT = (4, 0) := by decide +kernel
theorem v_open : openVV [2, 3] cardT = ([1, 1], 0) := by decide +kernel
theorem v_deep : deepVV [2, 3] cardT = (5, [0, 0], 0) := by decide +kernel
theorem v_idle : idleV [2, 3] cardT = ([2], 0) := by decide +kernel
theorem v_pays : paysV [2, 3] cardT 103 [0, 0] = .tuple #[.int .i64 20, .int .i64 3, .int .i64 0] := by
  unfold paysV payV
  rw [if_neg (by decide +kernel), if_neg (by decide), if_neg (by decide), if_neg (by decide +kernel), if_neg (by decide +kernel)]
  rw [show Bm.uni (nt cardT) ([0, 0].map Int.toNat) = 5 by decide +kernel]
  rfl
theorem v_after : afterV [2, 3] cardT [1] = (1, [0], 0) := by decide +kernel
theorem card_t : ∀ t, t ∈ cardT → t.1.length ≤ 1000000 := by decide
theorem whole_t : ∀ t, t ∈ wholeT → t.1.length ≤ 1000000 := by decide
end Go.Proofs.Ytlbkaeoagdbemaa

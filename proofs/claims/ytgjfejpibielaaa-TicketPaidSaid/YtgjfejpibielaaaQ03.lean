/- Proved here: append onto a slice without room, a part of the proofs about the ticket laws. Conditions: those that each theorem names, no others. -/
import Derived.Test.YtgjfejpibielaaaQ02
import Derived.WalkKit
import Derived.WalkSpells
import Derived.WalkLawsBesides
import Derived.Below
import Derived.Deep.QuietTactic
import Derived.BigQuiet
import Derived.Deep.Light
import Derived.Deep.AppendSrc
set_option linter.unusedSimpArgs false
set_option linter.unusedVariables false
namespace Go.Proofs.Ytgjfejpibielaaa
open Go.RowKit
theorem rd_first {P : Program} {w : World} {size n c : Nat} {A : Option Addr} {cs : List Value} (h : Rd w size A n cs) : (Builtin.firstCells size n (.slice A n c)).run P w = .ok cs.toArray w := by
 rcases Nat.eq_zero_or_pos n with h0 | h0
 · subst h0
   have hn : cs = [] := List.eq_nil_of_length_eq_zero (by simpa using h.1)
   subst hn
   rcases A with _ | ad
   · exact run_firstCells_none w size 0 0 c
   · exact run_firstCells_some w size 0 ad 0 c [] (by simp) (by simp)
 · obtain ⟨b, off, rfl, _, hc⟩ := h.2 h0
   exact run_firstCells_some w size n _ n c cs h.1 (fun j u hu => by rw [add_none]; exact hc j u hu)
theorem rd_src {P : Program} {w : World} {size n c : Nat} {A : Option Addr} {cs : List Value} {t e : TypeId} (ht : P.underlying t = some (.slice e)) (h : Rd w size A n cs) (h1 : ∀ u ∈ cs, u.oneCell' = true) : Src P size t (.slice A n c) n cs w :=
 ⟨.inl ⟨e, ht⟩, fun _ => rfl, rd_first h, rd_first (w := w.drew) h, h.1, h1⟩
theorem full_run {P : Program} (w : World) (t ty e : TypeId) (i : TypeInfo) (z : Value) (size bytes : Nat) (ht : P.underlying t = some (.slice e)) (hi : P.info? e = some i) (hz : i.zero = some z)
 (hsize : i.size = size) (hby : i.bytes = bytes) (A : Option Addr) (n : Nat) (olds : List Value) (ho : Rd w size A n olds) (ho1 : ∀ u ∈ olds, u.oneCell' = true) (A2 : Option Addr) (m c : Nat) (news : List Value) (hr : Rd w size A2 m news) (h1 : ∀ u ∈ news, u.oneCell' = true)
 (hm : 0 < m) (hbytes : (n + m) * bytes ≤ 140737488355328) (h63 : n + m ≤ maxLen) :
 ∃ c' g, (Builtin.append_ #[t, t] ty #[.slice A n n, .slice A2 m c]).run P w = .ok (.slice (some ⟨w.heap.size, 0, none⟩) (n + m) c') (w.grow g) ∧ n + m ≤ c' ∧ Rd (w.grow g) size (some ⟨w.heap.size, 0, none⟩) (n + m) (olds ++ news) := by
 subst hsize hby
 have hrun := run_append_grow_src (P := P) (w := w) t t ty e i z ht hi hz A n n olds (rd_first (w := w.drew) ho) (.slice A2 m c) m news (rd_src ht hr h1) (by omega) (by unfold maxLen at h63; omega) (growslice_fits (by omega) hbytes)
 obtain ⟨g, hg⟩ := below_grow (w := w) (w' := w.drew.alloc (.cells ((olds ++ news).toArray ++ Builtin.zeroCells z.cells (grownCap w (n + m) n e - (n + m))) e)) (by (repeat (first | exact Below.refl _ _ | assumption | (refine below_gr ?_ (by (first | omega | (simp only [size_grow, World.size_alloc, size_drewN, size_drew, size_setCell] at *; omega))) _) | (refine below_alloc ?_ (by (first | omega | (simp only [size_grow, World.size_alloc, size_drewN, size_drew, size_setCell] at *; omega))) _) | (refine Below.setCell ?_ (by (first | omega | (simp only [size_grow, World.size_alloc, size_drewN, size_drew, size_setCell] at *; omega))) _) | refine below_drewN ?_ _ | refine below_drew ?_ | (refine below_step ?_ (by assumption) (by (first | omega | (simp only [size_grow, World.size_alloc, size_drewN, size_drew, size_setCell] at *; omega)))))))
 refine ⟨_, g, by rw [hrun, hg], grownCap_ge _ _ _ _, ?_⟩
 rw [← hg]
 have hl : (olds ++ news).length = (n + m) * i.size := by rw [List.length_append, ho.1, hr.1, Nat.add_mul]
 refine ⟨hl, fun _ => ⟨_, 0, rfl, by simp, fun j u hu => ?_⟩⟩
 refine (World.cell?_alloc_at (w := w.drew) _ _ w.heap.size (0 + j) rfl).trans ?_
 rw [Nat.zero_add]
 have hj : j < (olds ++ news).length := (List.getElem?_eq_some_iff.1 hu).1
 rw [Array.getElem?_append_left (by simpa using hj)]
 simpa using hu
theorem wpList_full {P : Program} (w : World) {ops : Array Oper} {rest : List Oper} {o : Oper} {a : Act} {Q : Exit → Act → World → Prop} (hgd : o.guard = none) (s x : Operand) (t : TypeId)
 (hop : o.op = .call { callee := .builtin .append, args := #[s, x], argTypes := #[t, t] })
 (e : TypeId) (i : TypeInfo) (z : Value) (size bytes : Nat) (ht : P.underlying t = some (.slice e)) (hi : P.info? e = some i) (hz : i.zero = some z)
 (hsize : i.size = size) (hby : i.bytes = bytes) (A : Option Addr) (n : Nat) (olds : List Value) (hs : a.eval s = .slice A n n) (ho : Rd w size A n olds) (ho1 : ∀ u ∈ olds, u.oneCell' = true)
 (A2 : Option Addr) (m c : Nat) (news : List Value) (hx : a.eval x = .slice A2 m c) (hr : Rd w size A2 m news) (h1 : ∀ u ∈ news, u.oneCell' = true) (hm : 0 < m) (hbytes : (n + m) * bytes ≤ 140737488355328) (h63 : n + m ≤ maxLen)
 (h : ∀ A' c' w', Grew w w' → A' = some ⟨w.heap.size, 0, none⟩ → n + m ≤ c' → Rd w' size A' (n + m) (olds ++ news) → wpList P ops Q rest (a.put o.dst (.slice A' (n + m) c')) w') : wpList P ops Q (o :: rest) a w :=
 wpList_plain hgd fun _ hK => by
  obtain ⟨c', g, hrun, hcc, hrd⟩ := full_run (P := P) w t o.type e i z size bytes ht hi hz hsize hby A n olds ho ho1 A2 m c news hr h1 hm hbytes h63
  unfold Oper.wp execOp
  simp only [hop, resolve, invoke, builtin, Sem.run_bind, Sem.run_pure, Result.andThen_ok, List.map_toArray, List.map_cons, List.map_nil, hs, hx, hrun]
  exact hK _ _ (h _ c' _ ⟨g, rfl⟩ rfl hcc hrd)
end Go.Proofs.Ytgjfejpibielaaa
